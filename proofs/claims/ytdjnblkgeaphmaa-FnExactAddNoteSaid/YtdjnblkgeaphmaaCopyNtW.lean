/- Copies of slices of notes: both walks. No condition but those that each theorem names. -/
import Derived.Test.YtdjnblkgeaphmaaCopyNtP
import Derived.Test.YtdjnblkgeaphmaaOwnNtS
namespace Go.Proofs.Ytdjnblkgeaphmaa
open Go.RowKit Go.Sort

theorem infoNtR : (Try.prog.info? 30).map (fun i => (i.zero, i.size, i.bytes)) = some (some (ntV ByteArray.empty 0 0 0 none 0 0 0 0 0), 8, 88) := by kernel_rfl
/-- What a copy of notes returns. -/
def RetNts (w : World) (xs : List Nt) (e : Ending) (w' : World) : Prop := ∃ (rs : List NtR) (own : Nat → Nat) (v : Value), e = .returned v ∧ rs.map NtR.x = xs ∧ OutNt w w.heap.size rs own v w'
theorem take_snocR {rs : List NtR} {k : Nat} {r : NtR} (h : rs[k]? = some r) : (rs.take (k + 1)).map NtR.x = (rs.take k).map NtR.x ++ [r.x] := by
  rw [List.take_add_one, h]; simp
set_option maxRecDepth 100000 in
set_option maxHeartbeats 4000000 in
theorem copyNotes_any (A : Option Addr) (c : Nat) (rs : List NtR) (w : World) (hr : RdR w w.heap.size A rs) (hl : rs.length ≤ 1048576) (hf : ∀ r ∈ rs, r.x.terms.length ≤ 1048576) :
    Calls Try.prog 89 #[.slice A rs.length c] w (RetNts w (rs.map NtR.x)) := by
  obtain ⟨ti, hi, hz0, hz1, hz2⟩ := info_parts infoNtR
  have HI := Lib.hid hi
  have HF := Lib.hid hf
  have HCN := Lib.hid (fun (x : Nt) (T : Option Addr) (ct : Nat) (W : World) (h : RdT W W.heap.size T ct x.terms) (h2 : x.terms.length ≤ 1048576) => copyNote_any x T ct W h h2)
  unfold RetNt at HCN
  have H0 := Lib.hid (OutNt.start w)
  unfold RetNts
  clear hi hf
  go_enter Try.func89, Try.ntmps89
  go_wp2_with fail
  go_loopw [8, 3] (fun t v wr => ∃ (k : Nat) (out : List NtR) (own : Nat → Nat), k ≤ rs.length ∧ t = .int .i64 k ∧ out.length ≤ k ∧ Hid (out.map NtR.x = (rs.take k).map NtR.x) ∧ Hid (OutNt w w.heap.size out own v wr)) (fun t _ _ => rs.length - (intOf t).toNat)
  case atStart => exact ⟨0, [], _, by omega, rfl, by simp, by unfold Hid; simp, H0.out⟩
  case round =>
    obtain ⟨k, out, own, hk, rfl, hok, HO, HV⟩ := hrel
    clear H0
    have hbe := HV.out.bel
    by_cases hlt : k < rs.length
    · skip
      obtain ⟨b, off, rfl, hb, hc⟩ := (hr.next hbe) (by omega)
      obtain ⟨r, hrk⟩ : ∃ r, rs[k]? = some r := ⟨_, List.getElem?_eq_getElem hlt⟩
      obtain ⟨cr, cT⟩ := hc k r hrk
      obtain ⟨x, T, ct⟩ := r
      have HNT := Lib.hid cr.nt
      obtain ⟨c0, c1, c2, c3, c4, c5, c6, c7⟩ := cr.nt
      have HX := Lib.hid (take_snocR hrk)
      have htx := HF.out _ (List.mem_of_getElem? hrk)
      simp only at c0 c1 c2 c3 c4 c5 c6 c7 cT htx
      have i0 : (0 : Int) ≤ (k : Int) := by omega
      have i1 : (k : Int) < (rs.length : Int) := by omega
      have HTT := Lib.hid cT
      clear hc hrk cr cT
      have HBX : Hid (Below wr.heap.size wr (wr.alloc (.cells #[.string x.name, .int .i64 x.kind, .int .i64 x.num, .int .i64 x.den, .slice T x.terms.length ct, .int .i64 x.sp, .int .i64 x.sd, .int .i64 x.sq] 30))) := ext1 _ _
      have HV1 := Lib.hid (HV.out.next HBX.out)
      have HC1 := Lib.hid (HCN.out x T ct _ (HTT.out.next HBX.out) htx)
      clear HV
      go_wp2_with fail
      generalize wr.alloc (.cells #[.string x.name, .int .i64 x.kind, .int .i64 x.num, .int .i64 x.den, .slice T x.terms.length ct, .int .i64 x.sp, .int .i64 x.sd, .int .i64 x.sq] 30) = W1 at *
      refine HC1.out.mono ?_
      rintro e w2 ⟨B2, d2, rfl, hw2, hb2⟩
      have hown := (HV1.out.next hb2).row.alloc (.cells #[.string x.name, .int .i64 x.kind, .int .i64 x.num, .int .i64 x.den, .slice B2 x.terms.length d2, .int .i64 x.sp, .int .i64 x.sd, .int .i64 x.sq] 30)
      have hhi := (HV1.out.next hb2).hi
      go_wp2_with (at_builtin; refine wpList_append_lies _ rfl _ _ 33 rfl w.heap.size 30 ti (ntV ByteArray.empty 0 0 0 none 0 0 0 0 0) 8 88 Try.underlying33 HI.out hz0 hz1 hz2 rfl (by decide) _ _ _ rfl hown ⟨w2.heap.size, 0, none⟩ 1 1 (ntC x B2 d2) rfl rfl (news_rowN _ _ _ rfl) ?c2 (by omega) ?c3 ?c4 ?c5 _ rfl ?_)
      case c2 => simp [ntC, Value.oneCell']
      case c3 => unfold maxLen; omega
      case c4 => omega
      case c5 => simp; omega
      intro g6 cap6 w6 hown3 hgrow hat hlt6
      have HP := Lib.hid (OutNt.push HV1.out hb2 hw2 (ext1 _ _) hown3 hgrow (by simpa only [World.size_alloc] using hat))
      have HE : Hid ((out ++ [(⟨x, B2, d2⟩ : NtR)]).map NtR.x = (rs.take (k + 1)).map NtR.x) := by
        unfold Hid
        rw [HX.out, List.map_append, HO.out]
        rfl
      clear hown3 hgrow hat hlt6
      go_wp2
      go_roundw
      case rel => exact ⟨k + 1, _, _, by omega, by go_num, by simp; omega, HE.out, HP.out⟩
      case measure => simp [intOf]; omega
    · have HE : Hid (out.map NtR.x = rs.map NtR.x) := by
        have h := HO.out
        rwa [List.take_of_length_le (by omega)] at h
      go_wp2
      go_ret
      exact ⟨out, own, _, rfl, HE.out, HV.out⟩
set_option maxRecDepth 100000 in
set_option maxHeartbeats 4000000 in
theorem l27Copy_any (A : Option Addr) (c : Nat) (rs : List NtR) (w : World) (hr : RdR w w.heap.size A rs) (hl : rs.length ≤ 1048576) (hf : ∀ r ∈ rs, r.x.terms.length ≤ 1048576) :
    Calls Try.prog 87 #[.slice A rs.length c] w (RetNts w (rs.map NtR.x)) := by
  obtain ⟨ti, hi, hz0, hz1, hz2⟩ := info_parts infoNtR
  have HI := Lib.hid hi
  have HF := Lib.hid hf
  have HCN := Lib.hid (fun (x : Nt) (b o : Nat) (T : Option Addr) (ct : Nat) (W : World) (h3 : NtAt W b o x T ct) (h : RdT W W.heap.size T ct x.terms) (h2 : x.terms.length ≤ 1048576) => l27Own_any x b o T ct W h3 h h2)
  unfold RetNt at HCN
  have H0 := Lib.hid (OutNt.start0 w)
  unfold RetNts
  clear hi hf
  go_enter Try.func87, Try.ntmps87
  go_wp2_with fail
  go_loopw [4, 3] (fun t v wr => ∃ (k : Nat) (out : List NtR) (own : Nat → Nat), k ≤ rs.length ∧ t = .int .i64 k ∧ out.length ≤ k ∧ Hid (out.map NtR.x = (rs.take k).map NtR.x) ∧ Hid (OutNt w w.heap.size out own v wr)) (fun t _ _ => rs.length - (intOf t).toNat)
  case atStart => exact ⟨0, [], _, by omega, rfl, by simp, by unfold Hid; simp, H0.out⟩
  case round =>
    obtain ⟨k, out, own, hk, rfl, hok, HO, HV⟩ := hrel
    clear H0
    have hbe := HV.out.bel
    by_cases hlt : k < rs.length
    · skip
      obtain ⟨b, off, rfl, hb, hc⟩ := (hr.next hbe) (by omega)
      obtain ⟨r, hrk⟩ : ∃ r, rs[k]? = some r := ⟨_, List.getElem?_eq_getElem hlt⟩
      obtain ⟨cr, cT⟩ := hc k r hrk
      obtain ⟨x, T, ct⟩ := r
      have HNT := Lib.hid cr.nt
      obtain ⟨c0, c1, c2, c3, c4, c5, c6, c7⟩ := cr.nt
      have HX := Lib.hid (take_snocR hrk)
      have htx := HF.out _ (List.mem_of_getElem? hrk)
      simp only at c0 c1 c2 c3 c4 c5 c6 c7 cT htx
      have i0 : (0 : Int) ≤ (k : Int) := by omega
      have i1 : (k : Int) < (rs.length : Int) := by omega
      have HTT := Lib.hid cT
      clear hc hrk cr cT
      have HV1 := HV
      have HC1 := Lib.hid (HCN.out x b (off + k * 8) T ct _ HNT.out HTT.out htx)
      clear HV
      go_wp2_with fail
      refine HC1.out.mono ?_
      rintro e w2 ⟨B2, d2, rfl, hw2, hb2⟩
      have hown := (HV1.out.next hb2).row.alloc (.cells #[.string x.name, .int .i64 x.kind, .int .i64 x.num, .int .i64 x.den, .slice B2 x.terms.length d2, .int .i64 x.sp, .int .i64 x.sd, .int .i64 x.sq] 30)
      have hhi := (HV1.out.next hb2).hi
      go_wp2_with (at_builtin; refine wpList_append_lies _ rfl _ _ 33 rfl w.heap.size 30 ti (ntV ByteArray.empty 0 0 0 none 0 0 0 0 0) 8 88 Try.underlying33 HI.out hz0 hz1 hz2 rfl (by decide) _ _ _ rfl hown ⟨w2.heap.size, 0, none⟩ 1 1 (ntC x B2 d2) rfl rfl (news_rowN _ _ _ rfl) ?c2 (by omega) ?c3 ?c4 ?c5 _ rfl ?_)
      case c2 => simp [ntC, Value.oneCell']
      case c3 => unfold maxLen; omega
      case c4 => omega
      case c5 => simp; omega
      intro g6 cap6 w6 hown3 hgrow hat hlt6
      have HP := Lib.hid (OutNt.push HV1.out hb2 hw2 (ext1 _ _) hown3 hgrow (by simpa only [World.size_alloc] using hat))
      have HE : Hid ((out ++ [(⟨x, B2, d2⟩ : NtR)]).map NtR.x = (rs.take (k + 1)).map NtR.x) := by
        unfold Hid
        rw [HX.out, List.map_append, HO.out]
        rfl
      clear hown3 hgrow hat hlt6
      go_wp2
      go_roundw
      case rel => exact ⟨k + 1, _, _, by omega, by go_num, by simp; omega, HE.out, HP.out⟩
      case measure => simp [intOf]; omega
    · have HE : Hid (out.map NtR.x = rs.map NtR.x) := by
        have h := HO.out
        rwa [List.take_of_length_le (by omega)] at h
      go_wp2
      go_ret
      exact ⟨out, own, _, rfl, HE.out, HV.out⟩
end Go.Proofs.Ytdjnblkgeaphmaa
