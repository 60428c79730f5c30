/- Parts of the proof, merged: CopyOwW DrawSnW. No condition but those that each theorem names. -/
import Derived.Test.YtpnabggpdgjbmaaGreatDoorMgAN
import Derived.Test.YtpnabggpdgjbmaaGreatDoorMgAQ
import Derived.Test.YtpnabggpdgjbmaaGreatDoorMgAO
namespace Go.Proofs.YtpnabggpdgjbmaaGreatDoor
open Go.RowKit Go.Sort
/-- What a copy of a slice of integers returns. -/
def RetOwn (w : World) (xs : List Int) (e : Ending) (w' : World) : Prop := ∃ A c, e = .returned (.slice A xs.length c) ∧ w'.ownsRow w.heap.size 2 1 (.slice A xs.length c) xs.length (xs.map (Value.int .i64)) ∧ Below w.heap.size w w'
/-- What a copy of a note returns. -/
def RetNtO (w : World) (x : Nt) (e : Ending) (w' : World) : Prop :=
  ∃ B d, e = .returned (ntV x.name x.kind x.num x.den B x.terms.length d x.sp x.sd x.sq) ∧ w'.ownsRow w.heap.size 2 1 (.slice B x.terms.length d) x.terms.length (x.terms.map (Value.int .i64)) ∧ Below w.heap.size w w'
/-- The first note's terms are a row of its own. -/
def T0 (base : Nat) (out : List NtR) (v : Value) (W : World) : Prop := ∀ r, out[0]? = some r → W.ownsRow base 2 1 (.slice r.T r.x.terms.length r.c) r.x.terms.length (r.x.terms.map (Value.int .i64)) ∧ (∀ t, (Value.slice r.T r.x.terms.length r.c).ownBlock = some t → v.ownBlock ≠ some t) ∧
  ∀ t, (Value.slice r.T r.x.terms.length r.c).ownBlock = some t → ∀ (j : Nat) (q : NtR), out[j + 1]? = some q → ∀ o i, q.T = some ⟨t, o, i⟩ → 0 < q.x.terms.length → False
theorem T0.nil {base : Nat} {v : Value} {W : World} : T0 base [] v W := fun r h => by simp at h
theorem T0.push {w W W2 W2a w3 : World} {base : Nat} {out : List NtR} {own : Nat → Nat} {v : Value} (h : T0 base out v W) (hv : OutNt w base out own v W) (hb2 : Below W.heap.size W W2) {x : Nt} {T : Option Addr} {c g : Nat} (hT : W2.ownsRow W.heap.size 2 1 (.slice T x.terms.length c) x.terms.length (x.terms.map (Value.int .i64)))
    (hb2a : Below W2.heap.size W2 W2a) (hg : W2a.grownBy w3 v.ownBlock) (hat : v.ownBlock = some g ∨ g = W2a.heap.size) (cap : Nat) : T0 base (out ++ [⟨x, T, c⟩]) (.slice (some ⟨g, 0, none⟩) (out.length + 1) cap) w3 := fun r hr => by
  have hV := fun k hk => hv.row.lt k hk
  have s1 := hb2.size
  have s2 := hb2a.size
  have fin : ∀ {r : NtR}, W2.ownsRow base 2 1 (.slice r.T r.x.terms.length r.c) r.x.terms.length (r.x.terms.map (Value.int .i64)) → (∀ t, (Value.slice r.T r.x.terms.length r.c).ownBlock = some t → v.ownBlock ≠ some t) → w3.ownsRow base 2 1 (.slice r.T r.x.terms.length r.c) r.x.terms.length (r.x.terms.map (Value.int .i64)) ∧ ∀ t, (Value.slice r.T r.x.terms.length r.c).ownBlock = some t → (Value.slice (some ⟨g, 0, none⟩) (out.length + 1) cap).ownBlock ≠ some t := fun {r} h1 h2 => by
    refine ⟨(own_below h1 hb2a).kept hg ?_, fun t ht e => ?_⟩
    · cases e : (Value.slice r.T r.x.terms.length r.c).ownBlock with
      | none => exact .inl rfl
      | some t => exact .inr fun e2 => h2 t e e2.symm
    · have eg : g = t := by
        have : some g = some t := e
        injection this
      subst eg
      have h3 := (h1.lt g ht).2
      rcases hat with h4 | h4
      · exact h2 g ht h4
      · omega
  cases out with
  | nil =>
    simp at hr
    subst hr
    obtain ⟨f1, f2⟩ := fin (r := ⟨x, T, c⟩) (hT.mono hv.hi) fun t ht e => by
      have h1 := (hT.lt t ht).1
      have h2 := (hV t e).2
      omega
    exact ⟨f1, f2, fun t _ j q hq => by simp at hq⟩
  | cons q qs =>
    obtain ⟨h1, h2, h3⟩ := h r (by simpa using hr)
    obtain ⟨f1, f2⟩ := fin (own_below h1 hb2) h2
    refine ⟨f1, f2, fun t ht j q' hq o i e hn => ?_⟩
    rcases Nat.lt_or_ge (j + 1) (q :: qs).length with hj | hj
    · rw [List.getElem?_append_left hj] at hq
      exact h3 t ht j q' hq o i e hn
    · rw [List.getElem?_append_right hj] at hq
      have hq2 := List.mem_of_getElem? hq
      simp only [List.mem_cons, List.not_mem_nil, or_false] at hq2
      subst hq2
      have h4 := (h1.lt t ht).2
      have e2 : T = some ⟨t, o, i⟩ := e
      subst e2
      have h5 := (hT.lt t rfl).1
      omega
set_option maxRecDepth 100000 in
theorem l00Own_own (A : Option Addr) (c : Nat) (xs : List Int) (w : World) (hx : Rd (Value.int .i64) w w.heap.size A xs) (hm : xs.length ≤ 1048576) :
    Calls Tryz.prog 89 #[.slice A xs.length c] w (RetOwn w xs) := by
  obtain ⟨i0, hi, hz0, hz1, hz2⟩ := info_parts info64
  have HI := Lib.hid hi
  have hown : Hid ((w.alloc (.cells #[] 2)).ownsRow w.heap.size 2 1 (.slice (some ⟨w.heap.size, 0, none⟩) 0 0) 0 []) := by
    have h := World.ownsRow_lit (base := w.heap.size) (e := 2) (size := 1) w #[] 0 (by simp) (by simp) rfl
    unfold Hid
    simpa using h
  clear hi
  rcases Nat.eq_zero_or_pos xs.length with h0 | h0
  · obtain rfl : xs = [] := List.eq_nil_of_length_eq_zero h0
    clear h0 hx hm
    cases A with
    | none =>
      have hq := nil_yes 0 c w
      have hr := run_append_empty (some ⟨w.heap.size, 0, none⟩) 0 0 none c 27 (w.alloc (.cells #[] 2)) (Nat.le_refl _)
      go_enter Tryz.func89, Tryz.ntmps89
      go_wp2
      go_ret
      exact ⟨_, 0, rfl, hown.out, ext1 _ _⟩
    | some a =>
      have hq := nil_no a 0 c w
      have hr := run_append_empty (some ⟨w.heap.size, 0, none⟩) 0 0 (some a) c 27 (w.alloc (.cells #[] 2)) (Nat.le_refl _)
      go_enter Tryz.func89, Tryz.ntmps89
      go_wp2
      go_ret
      exact ⟨_, 0, rfl, hown.out, ext1 _ _⟩
  · obtain ⟨b, off, rfl, hb, hc⟩ := hx h0
    have HC := Lib.hid hc
    have hq := nil_no ⟨b, off, none⟩ xs.length c w
    clear hc h0
    go_enter Tryz.func89, Tryz.ntmps89
    go_wp2_with (at_builtin; refine wpList_append_own _ rfl _ _ 27 rfl w.heap.size 2 i0 (.int .i64 0) 1 8 Tryz.underlying27 HI.out hz0 hz1 hz2 rfl (by decide) _ _ _ rfl hown.out ⟨b, off, none⟩ xs.length c (xs.map (Value.int .i64)) rfl (by simp) ?c1 ?c2 ?c3 ?c4 ?c5 ?_)
    case c1 =>
      intro j u hu
      rw [List.getElem?_map] at hu
      cases hx : xs[j]? with
      | none => rw [hx] at hu; cases hu
      | some x =>
        rw [hx] at hu
        obtain rfl := Option.some.inj hu
        have hcx := HC.out j x hx
        have ea : (⟨b, off, none⟩ : Addr).add j = ⟨b, off + j, none⟩ := by simp [Addr.add]
        rw [ea]
        exact (World.cell?_alloc_lt _ _ _ (block_lt_of_cell hcx)).trans hcx
    case c2 => intro u hu; obtain ⟨x, _, rfl⟩ := List.mem_map.1 hu; rfl
    case c3 => unfold maxLen; omega
    case c4 => omega
    case c5 => simp
    intro v' w3 hown3 hgrow hnil
    have hb := below_grown (ext1 w (.cells #[] 2)) hown.out (Nat.le_refl _) hgrow
    have hown4 : w3.ownsRow w.heap.size 2 1 v' xs.length (xs.map (Value.int .i64)) := by simpa using hown3
    obtain ⟨A3, c3, rfl⟩ := own_slice hown4
    have HH := Lib.hid hown4
    clear hown3 hgrow hnil hown4
    go_wp2
    go_ret
    exact ⟨_, _, rfl, HH.out, hb⟩
set_option maxRecDepth 100000 in
set_option maxHeartbeats 4000000 in
theorem l27Own_own (x : Nt) (b o : Nat) (T : Option Addr) (c : Nat) (w : World) (ha : NtAt w b o x T c) (hx : RdT w w.heap.size T c x.terms) (hl : x.terms.length ≤ 1048576) :
    Calls Tryz.prog 45 #[.pointer (some ⟨b, o, none⟩)] w (RetNtO w x) := by
  unfold RetNtO
  have hbl : b < w.heap.size := World.block_lt_of_cell? w _ ha.c0
  obtain ⟨c0, c1, c2, c3, c4, c5, c6, c7⟩ := ha
  generalize x.name = s at *
  generalize x.kind = k at *
  generalize x.num = n at *
  generalize x.den = m at *
  generalize x.sp = p at *
  generalize x.sd = f at *
  generalize x.sq = q at *
  generalize x.terms = xs at *
  have HC : Hid (∀ W : World, Below w.heap.size w W → Calls Tryz.prog 89 #[.slice T xs.length c] W (RetOwn W xs)) := fun W hb => l00Own_own T c xs W (hx.next hb).1 hl
  unfold RetOwn at HC
  clear hx
  go_enter Tryz.func45, Tryz.ntmps45
  go_wp2_with fail
  have E2 := ext_alloc (ext1 w (.cells #[.string ByteArray.empty, .int .i64 0, .int .i64 0, .int .i64 0, .slice none 0 0, .int .i64 0, .int .i64 0, .int .i64 0] 31)) (.cells #[.string s, .int .i64 k, .int .i64 n, .int .i64 m, .slice T xs.length c, .int .i64 p, .int .i64 f, .int .i64 q] 31)
  refine (HC.out _ E2).mono ?_
  rintro e w1 ⟨A, d, rfl, hw1, hb1⟩
  have hy1 := hb1.size
  (try simp at hy1)
  have hz0 : w.heap.size < w1.heap.size := by omega
  have hz1 : w.heap.size + 1 < w1.heap.size := by omega
  have HE := Lib.hid (ext_trans E2 hb1)
  have hbz : w.heap.size ≤ ((w.alloc (.cells #[.string ByteArray.empty, .int .i64 0, .int .i64 0, .int .i64 0, .slice none 0 0, .int .i64 0, .int .i64 0, .int .i64 0] 31)).alloc (.cells #[.string s, .int .i64 k, .int .i64 n, .int .i64 m, .slice T xs.length c, .int .i64 p, .int .i64 f, .int .i64 q] 31)).heap.size := E2.size
  have HW := Lib.hid hw1
  have B1 := (BoxV.twoN w [.string ByteArray.empty, .int .i64 0, .int .i64 0, .int .i64 0, .slice none 0 0, .int .i64 0, .int .i64 0, .int .i64 0] [.string s, .int .i64 k, .int .i64 n, .int .i64 m, .slice T xs.length c, .int .i64 p, .int .i64 f, .int .i64 q] 31 31).1.next hb1
  have B0 := (BoxV.twoN w [.string ByteArray.empty, .int .i64 0, .int .i64 0, .int .i64 0, .slice none 0 0, .int .i64 0, .int .i64 0, .int .i64 0] [.string s, .int .i64 k, .int .i64 n, .int .i64 m, .slice T xs.length c, .int .i64 p, .int .i64 f, .int .i64 q] 31 31).2.next hb1
  have fz := B0.f 4
  have z4 := B0.at 4 _ rfl
  have B0 := B0.set 4 (.slice A xs.length d) (by simp)
  have B1 := B1.setFar (b := w.heap.size + 1) (j := 4) (.slice A xs.length d) (by omega)
  have x0 := B0.at 0 _ rfl
  have x1 := B0.at 1 _ rfl
  have x2 := B0.at 2 _ rfl
  have x3 := B0.at 3 _ rfl
  have x4 := B0.at 4 _ rfl
  have x5 := B0.at 5 _ rfl
  have x6 := B0.at 6 _ rfl
  have x7 := B0.at 7 _ rfl
  have r0 := B1.at 0 _ rfl
  have r1 := B1.at 1 _ rfl
  have r2 := B1.at 2 _ rfl
  have r3 := B1.at 3 _ rfl
  have r4 := B1.at 4 _ rfl
  have r5 := B1.at 5 _ rfl
  have r6 := B1.at 6 _ rfl
  have r7 := B1.at 7 _ rfl
  have f0 := B1.f 0
  have f1 := B1.f 1
  have f2 := B1.f 2
  have f3 := B1.f 3
  have f4 := B1.f 4
  have f5 := B1.f 5
  have f6 := B1.f 6
  have f7 := B1.f 7
  have HZ := Lib.hid hbz
  clear E2 hw1 hb1 B0 B1 hbz
  go_wp2
  refine bodyPost_ret (v := ntV s k n m A xs.length d p f q) (by simp [results, Tryz.results45, go_sem, r0, r1, r2, r3, r4, r5, r6, r7]) rfl ⟨A, d, rfl, ?_, ?_⟩
  · have hne : ∀ m, m < w.heap.size + 2 → (Value.slice A xs.length d).ownBlock ≠ some m := fun m hm e => by have := (HW.out.lt m e).1; simp at this; omega
    refine World.ownsRow.mono (base := ((w.alloc (.cells #[.string ByteArray.empty, .int .i64 0, .int .i64 0, .int .i64 0, .slice none 0 0, .int .i64 0, .int .i64 0, .int .i64 0] 31)).alloc (.cells #[.string s, .int .i64 k, .int .i64 n, .int .i64 m, .slice T xs.length c, .int .i64 p, .int .i64 f, .int .i64 q] 31)).heap.size) ?_ HZ.out
    iterate 9 (refine own_put ?_ (hne _ (by omega)))
    exact HW.out
  · iterate 9 (refine ext_set ?_ (by first | (simp; done) | (simp; omega)) _)
    exact HE.out
/-- What a copy of notes returns. -/
def RetNtsO (w : World) (xs : List Nt) (e : Ending) (w' : World) : Prop := ∃ (rs : List NtR) (own : Nat → Nat) (v : Value), e = .returned v ∧ rs.map NtR.x = xs ∧ OutNt w w.heap.size rs own v w' ∧ T0 w.heap.size rs v w'
theorem infoNtO : (Tryz.prog.info? 31).map (fun i => (i.zero, i.size, i.bytes)) = some (some (ntV ByteArray.empty 0 0 0 none 0 0 0 0 0), 8, 88) := by kernel_rfl
theorem take_snocO {rs : List NtR} {k : Nat} {r : NtR} (h : rs[k]? = some r) : (rs.take (k + 1)).map NtR.x = (rs.take k).map NtR.x ++ [r.x] := by
  rw [List.take_add_one, h]; simp
set_option maxRecDepth 100000 in
set_option maxHeartbeats 4000000 in
theorem l27Copy_own (A : Option Addr) (c : Nat) (rs : List NtR) (w : World) (hr : RdR w w.heap.size A rs) (hl : rs.length ≤ 1048576) (hf : ∀ r ∈ rs, r.x.terms.length ≤ 1048576) :
    Calls Tryz.prog 42 #[.slice A rs.length c] w (RetNtsO w (rs.map NtR.x)) := by
  obtain ⟨ti, hi, hz0, hz1, hz2⟩ := info_parts infoNtO
  have HI := Lib.hid hi
  have HF := Lib.hid hf
  have HCN := Lib.hid (fun (x : Nt) (b o : Nat) (T : Option Addr) (ct : Nat) (W : World) (h3 : NtAt W b o x T ct) (h : RdT W W.heap.size T ct x.terms) (h2 : x.terms.length ≤ 1048576) => l27Own_own x b o T ct W h3 h h2)
  unfold RetNtO at HCN
  have H0 := Lib.hid (OutNt.start0 w)
  unfold RetNtsO
  clear hi hf
  go_enter Tryz.func42, Tryz.ntmps42
  go_wp2_with fail
  go_loopw [4, 3] (fun t v wr => ∃ (k : Nat) (out : List NtR) (own : Nat → Nat), k ≤ rs.length ∧ t = .int .i64 k ∧ out.length ≤ k ∧ Hid (out.map NtR.x = (rs.take k).map NtR.x) ∧ Hid (OutNt w w.heap.size out own v wr) ∧ Hid (T0 w.heap.size out v wr)) (fun t _ _ => rs.length - (intOf t).toNat)
  case atStart => exact ⟨0, [], _, by omega, rfl, by simp, by unfold Hid; simp, H0.out, T0.nil⟩
  case round =>
    obtain ⟨k, out, own, hk, rfl, hok, HO, HV, HT0⟩ := hrel
    clear H0
    have hbe := HV.out.bel
    by_cases hlt : k < rs.length
    · skip
      obtain ⟨b, off, rfl, hb, hc⟩ := (hr.next hbe) (by omega)
      obtain ⟨r, hrk⟩ : ∃ r, rs[k]? = some r := ⟨_, List.getElem?_eq_getElem hlt⟩
      obtain ⟨cr, cT⟩ := hc k r hrk
      obtain ⟨x, T, ct⟩ := r
      have HNT := Lib.hid cr.nt
      obtain ⟨c0, c1, c2, c3, c4, c5, c6, c7⟩ := cr.nt
      have HX := Lib.hid (take_snocO hrk)
      have htx := HF.out _ (List.mem_of_getElem? hrk)
      simp only at c0 c1 c2 c3 c4 c5 c6 c7 cT htx
      have i0 : (0 : Int) ≤ (k : Int) := by omega
      have i1 : (k : Int) < (rs.length : Int) := by omega
      have HTT := Lib.hid cT
      clear hc hrk cr cT
      have HV1 := HV
      have HC1 := Lib.hid (HCN.out x b (off + k * 8) T ct _ HNT.out HTT.out htx)
      clear HV
      go_wp2_with fail
      refine HC1.out.mono ?_
      rintro e w2 ⟨B2, d2, rfl, hw2, hb2⟩
      have hown := (HV1.out.next hb2).row.alloc (.cells #[.string x.name, .int .i64 x.kind, .int .i64 x.num, .int .i64 x.den, .slice B2 x.terms.length d2, .int .i64 x.sp, .int .i64 x.sd, .int .i64 x.sq] 31)
      have hhi := (HV1.out.next hb2).hi
      go_wp2_with (at_builtin; refine wpList_append_lies _ rfl _ _ 24 rfl w.heap.size 31 ti (ntV ByteArray.empty 0 0 0 none 0 0 0 0 0) 8 88 Tryz.underlying24 HI.out hz0 hz1 hz2 rfl (by decide) _ _ _ rfl hown ⟨w2.heap.size, 0, none⟩ 1 1 (ntC x B2 d2) rfl rfl (news_rowN _ _ _ rfl) ?c2 (by omega) ?c3 ?c4 ?c5 _ rfl ?_)
      case c2 => simp [ntC, Value.oneCell']
      case c3 => unfold maxLen; omega
      case c4 => omega
      case c5 => simp; omega
      intro g6 cap6 w6 hown3 hgrow hat hlt6
      have HP := Lib.hid (OutNt.push HV1.out hb2 (own_wrT hw2) (ext1 _ _) hown3 hgrow (by simpa only [World.size_alloc] using hat))
      have HT1 := Lib.hid (HT0.out.push HV1.out hb2 hw2 (ext1 _ _) hgrow (by simpa only [World.size_alloc] using hat) cap6)
      have HE : Hid ((out ++ [(⟨x, B2, d2⟩ : NtR)]).map NtR.x = (rs.take (k + 1)).map NtR.x) := by
        unfold Hid
        rw [HX.out, List.map_append, HO.out]
        rfl
      clear hown3 hgrow hat hlt6
      go_wp2
      go_roundw
      case rel => exact ⟨k + 1, _, _, by omega, by go_num, by simp; omega, HE.out, HP.out, HT1.out⟩
      case measure => simp [intOf]; omega
    · have HE : Hid (out.map NtR.x = rs.map NtR.x) := by
        have h := HO.out
        rwa [List.take_of_length_le (by omega)] at h
      go_wp2
      go_ret
      exact ⟨out, own, _, rfl, HE.out, HV.out, HT0.out⟩
end Go.Proofs.YtpnabggpdgjbmaaGreatDoor
namespace Go.Proofs.YtpnabggpdgjbmaaGreatDoor
open Go.RowKit Go.Sort
/-- A list of notes that is read. -/
structure NkS (A : Option Addr) (xs : List Nt) (W : World) : Prop where
  rd : RdNt W W.heap.size A xs
  len : xs.length ≤ 41
  fits : ∀ x ∈ xs, x.fits
theorem NkS.next {A : Option Addr} {xs : List Nt} {W W' : World} (h : NkS A xs W) (hb : Below W.heap.size W W') : NkS A xs W' := ⟨h.rd.next hb, h.len, h.fits⟩
theorem sm_fits {x : Nt} (h : ntSm x) : x.fits := by
  obtain ⟨h1, h2⟩ := h
  unfold Nt.fits maxLen
  omega
theorem NkL.nks {A : Option Addr} {c : Nat} {xs : List Nt} {W : World} (h : NkL A c xs W) : NkS A xs W := ⟨h.rd, h.len, fun x hx => sm_fits (h.sm x hx)⟩
def RetDs (w : World) (e : Ending) (w' : World) : Prop := ∃ (A : Option Addr) (c : Nat) (xs : List Nt) (B : Option Addr) (d : Nat) (ys : List Nt), e = .returned (.tuple #[.slice A xs.length c, .slice B ys.length d]) ∧ NkS A xs w' ∧ NkS B ys w' ∧ Below w.heap.size w w'
theorem RetDs.mk {w W : World} {A B : Option Addr} {c d n m : Nat} {xs ys : List Nt} (h1 : NkS A xs W) (h2 : NkS B ys W) (h3 : Below w.heap.size w W) (hn : xs.length = n) (hm : ys.length = m) : RetDs w (.returned (.tuple #[.slice A n c, .slice B m d])) W := by
  subst hn hm
  exact ⟨A, c, xs, B, d, ys, rfl, h1, h2, h3⟩
theorem RdNt.tail {W : World} {g : Nat} {B : Nat} {xs : List Nt} (h : RdNt W B (some ⟨g, 0, none⟩) xs) : RdNt W B (some ⟨g, 8, none⟩) xs.tail := fun hn => by
  obtain ⟨b, off, e, hb, hc⟩ := h (by rw [List.length_tail] at hn; omega)
  injection e with e
  injection e with e1 e2
  subst e1 e2
  refine ⟨g, 8, rfl, hb, fun j x hx => ?_⟩
  have := hc (j + 1) x (by cases xs with
    | nil => simp at hx
    | cons y ys => simpa using hx)
  rwa [show 0 + (j + 1) * 8 = 8 + j * 8 by omega] at this
theorem WrNd.kept {W W' : World} {base top gk : Nat} {A : Option Addr} {xs : List Nt} (h : WrNd W base top A xs) (k : Keep gk W W') (h1 : gk < base) : WrNd W' base top A xs := by
  refine ⟨Nat.le_trans h.1 k.2.1, fun hn => ?_⟩
  obtain ⟨b, off, own, e, a1, a2, a3, a4, hc⟩ := h.2 hn
  have hbs : b < W.heap.size := Nat.lt_of_lt_of_le a2 h.1
  refine ⟨b, off, own, e, a1, a2, fun j => (k.frozen (by omega) hbs).trans (a3 j), a4, fun j x hx => ?_⟩
  obtain ⟨T, c, c1, c2, c3⟩ := hc j x hx
  refine ⟨T, c, fun m u hu => (k.cell (by omega) hbs).trans (c1 m u hu), ⟨Wr.of_blocks c2.1 k.2.1 fun t o i e hp hlt => k.2.2 t (fun e2 => ?_) hlt, c2.2⟩, c3⟩
  obtain ⟨tb, tq, e3, q1, _⟩ := c2.1 hp
  rw [e] at e3
  injection e3 with e3
  injection e3 with e3
  omega
theorem T0.kept {W W' : World} {base gk : Nat} {rs : List NtR} {v : Value} (h : T0 base rs v W) (k : Keep gk W W') (h1 : gk < base) : T0 base rs v W' := fun r hr => by
  obtain ⟨a1, a2, a3⟩ := h r hr
  exact ⟨own_keptU a1 k h1, a2, a3⟩
section
variable {w W W' : World} {base g n cap : Nat} {rs : List NtR} {own : Nat → Nat}
theorem OutNt.nks {v : Value} (t : OutNt w base rs own v W) (hl : rs.length ≤ 41) (hs : ∀ r ∈ rs, r.x.fits) : ∃ A c, v = .slice A rs.length c ∧ NkS A (rs.map NtR.x) W := by
  obtain ⟨A, c, e, hw⟩ := t.wr
  refine ⟨A, c, by rw [e, List.length_map], hw.rd, by simpa using hl, fun x hx => ?_⟩
  obtain ⟨r, hr, rfl⟩ := List.mem_map.1 hx
  exact hs r hr
/-- The kind of the first note is set anew. -/
theorem OutNt.kind0 (t : OutNt w base rs own (.slice (some ⟨g, 0, none⟩) n cap) W) {x : Nt} {T : Option Addr} {c : Nat} (hr : rs[0]? = some ⟨x, T, c⟩) (k : Int) : OutNt w base (rs.set 0 ⟨{ x with kind := k }, T, c⟩) own (.slice (some ⟨g, 0, none⟩) n cap) (W.setCell ⟨g, 1, none⟩ (.int .i64 k)) := by
  have h := t.cell (k := 0) (m := 1) (r := ⟨x, T, c⟩) (r' := ⟨{ x with kind := k }, T, c⟩) (u := .int .i64 k) hr (by omega) rfl (t.ts 0 _ hr).1 (t.ts 0 _ hr).2
  exact h
/-- The first note's terms grow. -/
theorem OutNt.terms0 (t : OutNt w base rs own (.slice (some ⟨g, 0, none⟩) n cap) W) {x : Nt} {T : Option Addr} {c : Nat} (hr : rs[0]? = some ⟨x, T, c⟩) (h0 : T0 base rs (.slice (some ⟨g, 0, none⟩) n cap) W) {a : Int} {g5 c5 : Nat}
    (hown : W'.ownsRow base 2 1 (.slice (some ⟨g5, 0, none⟩) (x.terms.length + 1) c5) (x.terms.length + 1) (x.terms.map (Value.int .i64) ++ [.int .i64 a])) (hg : W.grownBy W' (Value.slice T x.terms.length c).ownBlock) (hat : (Value.slice T x.terms.length c).ownBlock = some g5 ∨ W.heap.size ≤ g5) :
    RdNt (W'.setCell ⟨g, 4, none⟩ (.slice (some ⟨g5, 0, none⟩) (x.terms.length + 1) c5)) (W'.setCell ⟨g, 4, none⟩ (.slice (some ⟨g5, 0, none⟩) (x.terms.length + 1) c5)).heap.size (some ⟨g, 0, none⟩) ((rs.set 0 ⟨{ x with terms := x.terms ++ [a] }, some ⟨g5, 0, none⟩, c5⟩).map NtR.x) := by
  obtain ⟨a1, a2, a3⟩ := h0 _ hr
  have hn := own_n t.row
  subst hn
  have hgl := (t.row.lt g rfl)
  have hgne : ∀ k, (Value.slice T x.terms.length c).ownBlock = some k → k ≠ g := fun k e e2 => a2 k e (by rw [e2]; rfl)
  have hrow := t.row.kept hg (.inr fun e => by
    have e2 : some g = (Value.slice T x.terms.length c).ownBlock := e
    exact hgne g e2.symm rfl)
  obtain ⟨s1, s2⟩ := hrow.stored 4 (.slice (some ⟨g5, 0, none⟩) (x.terms.length + 1) c5)
  have hg5 : g5 ≠ g := by
    rcases hat with h | h
    · exact hgne g5 h
    · omega
  have hfl := flatR_set rs 0 ⟨x, T, c⟩ ⟨{ x with terms := x.terms ++ [a] }, some ⟨g5, 0, none⟩, c5⟩ 4 (.slice (some ⟨g5, 0, none⟩) (x.terms.length + 1) c5) hr (by omega) (by simp [NtR.cells, ntC])
  rw [Nat.zero_mul, Nat.zero_add] at hfl
  rw [← hfl] at s1
  refine RdR.nt fun _ => ⟨g, 0, rfl, by simp; exact Nat.lt_of_lt_of_le hgl.2 hg.size, fun j r hj => ⟨fun m u hu => ?_, ?_⟩⟩
  · have := s1.cells (g := g) rfl _ _ (flatR_get _ j r m u hj hu)
    have ea : (⟨g, 0, none⟩ : Addr).add (j * 8 + m) = ⟨g, 0 + j * 8 + m, none⟩ := by
      unfold Addr.add
      by_cases hj : j * 8 + m = 0 <;> simp [hj] <;> omega
    rw [ea] at this
    exact this
  · rw [List.getElem?_set] at hj
    split at hj
    · rename_i e
      subst e
      split at hj
      case isFalse => cases hj
      injection hj with hj
      subst hj
      have h5 : WrT W' base (some ⟨g5, 0, none⟩) c5 (x.terms ++ [a]) := own_wrT (n := x.terms.length + 1) (by simpa using hown)
      exact (h5.grown s2 fun t o i e _ e2 => by
        injection e with e
        injection e with e3
        injection e2 with e4
        omega).rd
    · rename_i hne
      obtain ⟨t1, t2⟩ := t.ts j r hj
      refine ((t1.grown hg fun k o i e hp e2 => ?_).grown s2 fun k o i e hp e2 => ?_).rd
      · cases j with
        | zero => exact hne rfl
        | succ j => exact a3 k e2.symm j r hj o i e hp
      · injection e2 with e2
        subst e2
        have h1 := (t2 k o i e hp).1
        have h2 := t.own0 k rfl
        omega
end
theorem infoNtS : (Tryz.prog.info? 2).map (fun i => (i.zero, i.size, i.bytes)) = some (some (.int .i64 0), 1, 8) := by kernel_rfl
set_option maxRecDepth 100000 in
set_option maxHeartbeats 4000000 in
theorem drawSameNotes_any (A : Option Addr) (n c : Nat) (w : World) (h : Bytes w A n) :
    Calls Tryz.prog 24 #[.slice A n c] w (RetDs w) := by
  obtain ⟨ti, hi, hz0, hz1, hz2⟩ := info_parts infoNtS
  have HI := Lib.hid hi
  have H := Lib.hid h
  clear h hi
  go_enter Tryz.func24, Tryz.ntmps24
  go_wp2_with fail
  refine (l00From_bytes A n c _ H.out).mono ?_
  rintro e w1 ⟨rfl, S1, hb1⟩
  have HL := Lib.hid (l27Draw_any w w.heap.size w.heap.size 0 w1 S1 (by omega) hb1 (Nat.le_refl _))
  have hlt1 := S1.lt
  clear S1 hb1
  go_wp2_with fail
  refine HL.out.mono ?_
  rintro e w2 ⟨rs, own, h2, c2, rfl, _, hl, hs, O2, S2, K2⟩
  have NA := Lib.hid (O2.nk (by omega) hs)
  obtain ⟨ps, hps, hpr⟩ := NA.out.rd.rows
  have hpl : ps.length = rs.length := by
    have := congrArg List.length hps
    simpa using this
  have HCP := Lib.hid (l27Copy_own (some ⟨h2, 0, none⟩) c2 ps w2 hpr (by omega) (fun r hr => by
    have hx : r.x ∈ rs.map NtR.x := by rw [← hps]; exact List.mem_map_of_mem hr
    have := (NA.out.sm r.x hx).2
    omega))
  rw [hpl, hps] at HCP
  have HB2 := Lib.hid O2.bel
  have hz2' := O2.bel.size
  have HS2 := Lib.hid S2
  have hlt2 := S2.lt
  obtain ⟨A2, c2', ea, hwr⟩ := O2.wr
  injection ea with ea1 ea2 ea3
  subst ea1
  have HWR := Lib.hid hwr
  clear ea2 ea3
  have hz12 := K2.2.1
  clear hpr hpl hps K2 S2 HL
  go_wp2_with fail
  refine HCP.out.mono ?_
  rintro e w3 ⟨qs, own3, v3, rfl, hqs, O3, T3⟩
  have hb3 := O3.bel
  have hql : qs.length = rs.length := by
    have := congrArg List.length hqs
    simpa using this
  have HQF : Hid (∀ r ∈ qs, ntSm r.x) := fun r hr => NA.out.sm r.x (by rw [← hqs]; exact List.mem_map_of_mem hr)
  have hrl : rs.length ≤ 6 := hl
  have hO2 := O2.next hb3
  have HO2 := Lib.hid hO2
  have HB3 := Lib.hid (HB2.out.trans (hb3.mono hz2'))
  have hbw2 := hb3.size
  have hn3 := O3.row
  have HO3 : Hid (OutNt w w2.heap.size qs own3 v3 w3) := ⟨O3.row, O3.ts, O3.own0, HB3.out, by omega, O3.hi⟩
  have HT3 := Lib.hid T3
  have HRS := Lib.hid hs
  have HS3 := Lib.hid (HS2.out.next hb3)
  have HWR3 : Hid (WrNd w3 (w1.heap.size + 1) w2.heap.size (some ⟨h2, 0, none⟩) (rs.map NtR.x)) := by
    refine ⟨by omega, fun hn => ?_⟩
    obtain ⟨b, off, own, e, a1, a2, a3, a4, hc⟩ := HWR.out.2 hn
    refine ⟨b, off, own, e, a1, a2, fun j => (hb3.frozen (p := ⟨b, j, none⟩) a2).trans (a3 j), a4, fun j x hx => ?_⟩
    obtain ⟨T, c, b1, b2, b3⟩ := hc j x hx
    exact ⟨T, c, fun m u hu => (hb3.cell (p := ⟨b, _, none⟩) a2).trans (b1 m u hu), b2.below hb3, b3⟩
  have HNA : Hid (∀ W : World, Below w2.heap.size w3 W ∨ (∃ V, Keep w.heap.size w3 V ∧ Below w2.heap.size V W) → NkS (some ⟨h2, 0, none⟩) (rs.map NtR.x) W) := fun W hW => by
    have hfit : ∀ x ∈ rs.map NtR.x, x.fits := fun x hx => by
      obtain ⟨r, hr, rfl⟩ := List.mem_map.1 hx
      exact sm_fits (HRS.out r hr)
    rcases hW with hW | ⟨V, hV, hW⟩
    · exact ⟨(HWR3.out.rd.below hW).more (by have := hW.size; omega), by simp; omega, hfit⟩
    · exact ⟨((HWR3.out.kept hV (by omega)).rd.below hW).more (by have := hW.size; have := hV.2.1; omega), by simp; omega, hfit⟩
  have hql1 : qs.length ≤ rs.length := by omega
  have hql2 : rs.length ≤ qs.length := by omega
  clear hb3 hqs O2 hO2 O3 T3 NA HS2 HB2 HCP hs HWR hwr HO2
  by_cases hz : ¬ 0 < rs.length
  · obtain ⟨B, d, e, NB⟩ := HO3.out.nks (by omega) (fun r hr => sm_fits (HQF.out r hr))
    rw [hql] at e
    subst e
    have hzp : ¬ (0 : Int) < (rs.length : Int) := by omega
    have HR := Lib.hid (RetDs.mk (c := c2) (d := d) (HNA.out w3 (.inl (Below.refl _ _))) NB HB3.out (n := rs.length) (m := rs.length) (by simp) (by simpa using hql))
    clear hql
    go_wp2
    go_ret2
    exact HR.out
  · obtain ⟨g, cap, e⟩ := HO3.out.form (by omega)
    rw [hql] at e
    subst e
    have HQL := Lib.hid hql
    clear hql hn3
    have hzp : (0 : Int) < (rs.length : Int) := by omega
    go_wp2_with fail
    refine (srcPick_any w.heap.size _ _ 4 _ HS3.out (by omega) (by omega)).mono ?_
    rintro e w4 ⟨k, k1, k2, rfl, S4, K4⟩
    have HO4 := Lib.hid (HO3.out.kept K4 (by omega) (Nat.le_refl _))
    have HT4 := Lib.hid (HT3.out.kept K4 (by omega))
    have HNB : Hid (∀ W : World, Below w2.heap.size w4 W → NkS (some ⟨h2, 0, none⟩) (rs.map NtR.x) W) := fun W hW => HNA.out W (.inr ⟨w4, K4, hW⟩)
    have HB4 := Lib.hid (HB3.out.trans K4.1)
    have hz4 := K4.2.1
    obtain ⟨r, hr⟩ : ∃ r, qs[0]? = some r := ⟨_, List.getElem?_eq_getElem (by omega)⟩
    obtain ⟨x, T, c0⟩ := r
    have HR0 := Lib.hid hr
    have hgl := HO4.out.row.lt g rfl
    have hrw := HO4.out.row
    rw [HQL.out] at hrw
    have HRW := Lib.hid hrw
    have hl8 : 1 ≤ rs.length := by omega
    have hsx := HQF.out _ (List.mem_of_getElem? hr)
    have HSX := Lib.hid hsx
    clear hrw hr S4 K4 HO3 HT3 HNA HB3 HS3 HWR3 hsx
    have i1 : (0 : Int) ≤ 1 := by omega
    have i2 : (1 : Int) ≤ (rs.length : Int) := by omega
    obtain rfl | rfl | rfl | rfl : k = 0 ∨ k = 1 ∨ k = 2 ∨ k = 3 := by omega
    · have x1 : w4.cell? ⟨g, 1, none⟩ = some (.int .i64 x.kind) := (HRW.out.cellAt 1 (by omega)).trans (flatR_get qs 0 _ 1 _ HR0.out rfl)
      have f1 := HRW.out.frozenAt 1
      obtain ⟨kq, hkq⟩ : ∃ kq, IntKind.i64.wrap (x.kind + 1) = kq := ⟨_, rfl⟩
      have HR : Hid (RetDs w (.returned (.tuple #[.slice (some ⟨h2, 0, none⟩) rs.length c2, .slice (some ⟨g, 0, none⟩) rs.length cap])) (w4.setCell ⟨g, 1, none⟩ (.int .i64 kq))) := by
        have hO := HO4.out.kind0 HR0.out kq
        obtain ⟨B, d, e, NB⟩ := hO.nks (by rw [List.length_set]; omega) (fun r hr => by
          rcases List.mem_or_eq_of_mem_set hr with hr | hr
          · exact sm_fits (HQF.out r hr)
          · subst hr
            exact sm_fits HSX.out)
        injection e with e1 e2 e3
        subst e1
        exact RetDs.mk (HNB.out _ ((Below.refl _ _).setCell (by show w2.heap.size ≤ g; omega) _)) NB (HB4.out.setCell (by show w.heap.size ≤ g; omega) _) (by simp) (by simpa using HQL.out)
      clear HO4
      go_wp2
      go_ret2
      exact HR.out
    · have x4 : w4.cell? ⟨g, 4, none⟩ = some (.slice T x.terms.length c0) := (HRW.out.cellAt 4 (by omega)).trans (flatR_get qs 0 _ 4 _ HR0.out rfl)
      obtain ⟨t1, t2, t3⟩ := HT4.out _ HR0.out
      have e1 := ext1 w4 (.cells #[.int .i64 1] 2)
      have hown := t1.alloc (.cells #[.int .i64 1] 2)
      have hO := HO4.out.next e1
      have hT := HT4.out.kept (gk := w.heap.size) (Keep.of e1 (by omega)) (by omega)
      have HO := Lib.hid hO
      have HT := Lib.hid hT
      have hrow := HRW.out.alloc (.cells #[.int .i64 1] 2)
      have HROW := Lib.hid hrow
      have hxt := HSX.out.2
      have hT2 : ∀ k, (Value.slice T x.terms.length c0).ownBlock = some k → k ≠ g := fun k e e2 => t2 k e (by rw [e2]; rfl)
      clear t1 t2 t3 e1 hO hT hrow HO4 HT4
      go_wp2_with (at_builtin; go_must (refine wpList_append_lies _ rfl _ _ 27 rfl w2.heap.size 2 ti (.int .i64 0) 1 8 Tryz.underlying27 HI.out hz0 hz1 hz2 rfl (by decide) _ _ _ rfl hown ⟨w4.heap.size, 0, none⟩ 1 1 [.int .i64 1] rfl rfl (news_rowN w4 _ _ rfl) ?c2 (by omega) ?c3 ?c4 ?c5 _ rfl ?_))
      case c2 => simp [Value.oneCell']
      case c3 => unfold maxLen; omega
      case c4 => omega
      case c5 => simp only [World.size_alloc]; omega
      intro g6 cap6 w6 hown3 hgrow hat hlt6
      have hrow6 := HROW.out.kept hgrow (.inr fun e => by
        have e2 : some g = (Value.slice T x.terms.length c0).ownBlock := e
        exact hT2 g e2.symm rfl)
      have x4' := (hrow6.cellAt 4 (by omega)).trans (flatR_get qs 0 _ 4 _ HR0.out rfl)
      have f4 := hrow6.frozenAt 4
      have hO6 := HO.out
      have HR : Hid (RetDs w (.returned (.tuple #[.slice (some ⟨h2, 0, none⟩) rs.length c2, .slice (some ⟨g, 0, none⟩) rs.length cap])) (w6.setCell ⟨g, 4, none⟩ (.slice (some ⟨g6, 0, none⟩) (x.terms.length + 1) cap6))) := by
        have hN := HO.out.terms0 HR0.out HT.out hown3 hgrow (hat.elim .inl fun h => .inr (by rw [World.size_alloc]; exact Nat.le_of_eq h.symm))
        have hBw : Below w2.heap.size w4 (w6.setCell ⟨g, 4, none⟩ (.slice (some ⟨g6, 0, none⟩) (x.terms.length + 1) cap6)) := by
          refine Below.setCell (Below.grown ((ext1 w4 (.cells #[.int .i64 1] 2)).mono (by omega)) hgrow (by simp; omega) fun k e => ?_) (by show w2.heap.size ≤ g; omega) _
          exact ((HT.out _ HR0.out).1.lt k e).1
        refine RetDs.mk (HNB.out _ hBw) ⟨hN, by simp [HQL.out]; omega, fun y hy => ?_⟩ (HB4.out.trans (hBw.mono (by omega))) (by simp) (by simp [HQL.out])
        obtain ⟨r, hr, rfl⟩ := List.mem_map.1 hy
        rcases List.mem_or_eq_of_mem_set hr with hr | hr
        · exact sm_fits (HQF.out r hr)
        · subst hr
          obtain ⟨q1, q2⟩ := HSX.out
          unfold Nt.fits maxLen
          simp only [List.length_append, List.length_cons, List.length_nil]
          omega
      clear hown3 hgrow hat hlt6 hrow6 hown hO6 HO HT HROW
      go_wp2
      go_ret2
      exact HR.out
    · have HR : Hid (∀ a : Nat, (2 ≤ cap → a = 8) → RetDs w (.returned (.tuple #[.slice (some ⟨h2, 0, none⟩) rs.length c2, .slice (some ⟨g, a, none⟩) (rs.length - 1) (cap - 1)])) w4) := fun a ha => by
        obtain ⟨B, d, e, NB⟩ := HO4.out.nks (by omega) (fun r hr => sm_fits (HQF.out r hr))
        injection e with e1 e2 e3
        subst e1
        have hcc := (own_capN HRW.out).1
        have hq := HQL.out
        refine RetDs.mk (HNB.out _ (Below.refl _ _)) ⟨?_, by rw [List.length_tail]; have := NB.len; omega, fun y hy => NB.fits y (List.mem_of_mem_tail hy)⟩ HB4.out (by simp) (by rw [List.length_tail]; simp [HQL.out])
        by_cases h2 : 2 ≤ cap
        · rw [ha h2]
          exact NB.rd.tail
        · intro hn
          rw [List.length_tail, List.length_map] at hn
          omega
      obtain ⟨hc1, hc2⟩ := own_capN HRW.out
      have i3 : (1 : Int) ≤ (cap : Int) := by omega
      clear HO4
      rcases Nat.lt_or_ge 1 cap with hcp | hcp
      · have HR8 := Lib.hid (HR.out 8 (fun _ => rfl))
        go_wp2
        all_goals first | omega | skip
        go_ret2
        exact HR8.out
      · have hc9 : cap = 1 := by omega
        subst hc9
        have HR9 := HR.out 0 (by omega)
        rw [show (1 : Nat) - 1 = 0 from rfl, show rs.length - 1 = 0 by omega] at HR9
        have HR0 := Lib.hid HR9
        clear HR9
        go_wp2
        go_ret2
        exact HR0.out
    · have HR : Hid (RetDs w (.returned (.tuple #[.slice (some ⟨h2, 0, none⟩) rs.length c2, .slice (some ⟨g, 0, none⟩) rs.length cap])) w4) := by
        obtain ⟨B, d, e, NB⟩ := HO4.out.nks (by omega) (fun r hr => sm_fits (HQF.out r hr))
        injection e with e1 e2 e3
        subst e1
        exact RetDs.mk (HNB.out _ (Below.refl _ _)) NB HB4.out (by simp) (by simpa using HQL.out)
      clear HO4
      go_wp2
      go_ret2
      exact HR.out
end Go.Proofs.YtpnabggpdgjbmaaGreatDoor
