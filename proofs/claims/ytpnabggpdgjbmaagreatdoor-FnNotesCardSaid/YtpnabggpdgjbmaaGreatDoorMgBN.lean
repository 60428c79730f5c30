/- Parts of the proof, merged: UnpKW UnpSW. No condition but those that each theorem names. -/
import Derived.Test.YtpnabggpdgjbmaaGreatDoorMgBM
import Derived.Test.YtpnabggpdgjbmaaGreatDoorMgBK
import Derived.Test.YtpnabggpdgjbmaaGreatDoorMgAN
import Derived.Test.YtpnabggpdgjbmaaGreatDoorMgAC
import Derived.Test.YtpnabggpdgjbmaaGreatDoorMgAB
namespace Go.Proofs.YtpnabggpdgjbmaaGreatDoor
open Go.RowKit Go.Sort
theorem infoNtU : (Tryz.prog.info? 31).map (fun i => (i.zero, i.size, i.bytes)) = some (some (ntV ByteArray.empty 0 0 0 none 0 0 0 0 0), 8, 88) := by kernel_rfl
theorem toList_injU {a b : ByteArray} (h : a.toList = b.toList) : a = b := by
  rw [ByteArray.toList_eq, ByteArray.toList_eq] at h
  cases a with | mk a => cases b with | mk b =>
    simp only at h
    rw [Array.toList_inj.1 h]
/-- What is known of a text that was read up to its notes. -/
theorem un_head {s : ByteArray} {o1 o2 : Bool} {D1 D2 : List Int} {c : Nat} {out : ByteArray} (h1 : TakP (byI s) true 1 out D1 o1) (h2 : BytP D1 o1 c D2 o2) :
    ∀ ys, validNt ys = true → endB (bookB ys) = s → ∃ Z, D2 = (ys.map noteB).flatten ++ Z ∧ c = ys.length ∧ o2 = true := fun ys hv he => by
  have hb := byI_end hv
  rw [he] at hb
  rcases h1 with ⟨_, _, h3, h4⟩ | ⟨h3, _⟩
  · rw [hb] at h3
    simp only [List.drop_succ_cons, List.drop_zero] at h3
    obtain ⟨e1, e2, e3⟩ := h2.hit h3 h4
    exact ⟨_, e2, by omega, e3⟩
  · rw [hb] at h3
    simp at h3
theorem un_end {s : ByteArray} {D2 D : List Int} {o2 ok : Bool} {c j : Nat} {xs : List Nt} (hh : ∀ ys, validNt ys = true → endB (bookB ys) = s → ∃ Z, D2 = (ys.map noteB).flatten ++ Z ∧ c = ys.length ∧ o2 = true) (hb : BokP D2 o2 j xs D ok) (hj : j ≤ c) (hc : j = c ∨ ok = false) :
    ∀ ys, validNt ys = true → endB (bookB ys) = s → xs = ys ∧ ok = true := fun ys hv he => by
  obtain ⟨Z, e1, e2, e3⟩ := hh ys hv he
  obtain ⟨q1, q2, q3⟩ := hb ys Z hv e1 e3 (by omega)
  rcases hc with hc | hc
  · exact ⟨by rw [q1, List.take_of_length_le (by omega)], q3⟩
  · rw [q3] at hc; cases hc
set_option maxRecDepth 100000 in
set_option maxHeartbeats 8000000 in
theorem iUnpack_any (s : ByteArray) (w : World) (hs : s.size ≤ 1048576) :
    Calls Tryz.prog 22 #[.string s] w (RetNtL w (unX s) (unC s)) := by
  obtain ⟨ti, hi, hz0, hz1, hz2⟩ := info_parts infoNtU
  have HI := Lib.hid hi
  have hls := byI_length s
  have H : Hid (StI w.heap.size (byI s) true (w.alloc (.cells #[.string s, .bool false] 87))) := ⟨s, rfl, BoxV.new _ _ _⟩
  have O : Hid (OutNt w (w.heap.size + 1) [] (fun _ => 0) (.slice none 0 0) (w.alloc (.cells #[.string s, .bool false] 87))) :=
    ⟨own_nil, fun _ _ h => by simp at h, fun _ _ => rfl, ext1 _ _, Nat.le_succ _, by simp⟩
  have HE : Hid ((∀ xs, (∀ ys, validNt ys = true → endB (bookB ys) = s → xs = ys) → validNt xs = true → endB (bookB xs) = s → unX s = xs ∧ unC s = 0) ∧ ((∀ ys, validNt ys = true → endB (bookB ys) = s → False) → unX s = [] ∧ unC s = 8)) := ⟨fun xs h1 h2 h3 => un_good h1 h2 h3, fun h => un_bad h⟩
  clear hi
  generalize unX s = X at *
  generalize unC s = K at *
  go_enter Tryz.func22, Tryz.ntmps22
  go_wp2_with fail
  generalize w.alloc (.cells #[.string s, .bool false] 87) = W0 at *
  refine (take_any w.heap.size 1 _ true _ (by omega) H.out).mono ?_
  rintro e w1 ⟨out, D1, o1, rfl, ht1, S1, K1⟩
  replace O := Lib.hid (O.out.kept K1 (Nat.lt_succ_self _) (Nat.le_refl _))
  have HT1 := Lib.hid ht1
  have HS1 := Lib.hid S1
  have hl1 : D1.length ≤ 1048576 := by
    rcases ht1 with ⟨_, _, h, _⟩ | ⟨_, _, h, _⟩
    · rw [h, List.length_drop]; omega
    · rw [h]; omega
  clear ht1 S1 K1 H hls
  go_wp2_with fail
  refine (take_any w.heap.size 1 D1 o1 _ (by omega) HS1.out).mono ?_
  rintro e w2 ⟨out2, D2, o2, rfl, ht, S1, K1⟩
  have h0 : 0 < out2.size := by have := ht.size; omega
  obtain ⟨c, hc⟩ : ∃ c, (out2[0]).toNat = c := ⟨_, rfl⟩
  have hb := ht.byte h0
  rw [hc] at hb
  have HH := Lib.hid (un_head HT1.out hb)
  have hl2 : D2.length ≤ 1048576 := Nat.le_trans hb.len.1 hl1
  have hc5 : c ≤ 255 := hb.1
  have hcc : ((out2[0]).toNat : Int) = (c : Int) := by rw [hc]
  replace O := Lib.hid (O.out.kept K1 (Nat.lt_succ_self _) (Nat.le_refl _))
  have H := Lib.hid S1
  clear ht S1 K1 HS1 HT1 hb hc hl1
  go_wp2_with fail
  go_loopw [5, 6] (fun v t wr => ∃ (j : Nat) (rs : List NtR) (own : Nat → Nat) (D : List Int) (ok : Bool), t = .int .u8 ((c : Int) - (j : Int)) ∧ j ≤ c ∧ rs.length ≤ j ∧ D.length ≤ 1048576 ∧ Hid (BokP D2 o2 j (rs.map NtR.x) D ok) ∧ Hid (∀ x ∈ rs.map NtR.x, x.name.size ≤ 255 ∧ x.terms.length ≤ 1048577) ∧ Hid (StI w.heap.size D ok wr) ∧ Hid (OutNt w (w.heap.size + 1) rs own v wr)) (fun _ t _ => (intOf t).toNat)
  case atStart => exact ⟨0, [], _, D2, o2, by simp, by omega, by simp, hl2, BokP.start _ _, fun x hx => by simp at hx, H.out, O.out⟩
  case round =>
    obtain ⟨j, rs, own, D, ok, rfl, hj, hrl, hD, HB, HF, HS, HO⟩ := hrel
    clear H O hcc
    have HSS := Lib.hid HS.out
    obtain ⟨R, hR, hBx⟩ := HSS.out
    have x1 := hBx.at 1 _ rfl
    clear hR
    by_cases hjc : j < c
    · have hp : 0 < (c : Int) - (j : Int) := by omega
      cases ok
      · simp only [Bool.not_false] at x1
        have HU := Lib.hid (un_end HH.out HB.out hj (.inr rfl))
        have HNO : Hid (∀ ys, validNt ys = true → endB (bookB ys) = s → False) := fun ys h1 h2 => by have := (HU.out ys h1 h2).2; cases this
        clear HU HB HH HS HSS
        obtain ⟨A, cp, rfl, hwd⟩ := HO.out.wr
        generalize hxs : rs.map NtR.x = xs at *
        have HXS := Lib.hid hxs
        have HRD : Hid (RdNt wr wr.heap.size A xs) := hwd.rd
        have hlx : xs.length ≤ 1000 := by
          rw [← hxs, List.length_map]; omega
        have HPK : Hid (Calls Tryz.prog 19 #[.slice A xs.length cp] wr fun e w' => e = .returned (.tuple #[.string (pnS xs), .int .i64 (pnC xs)]) ∧ Below wr.heap.size wr w') :=
          iPackNotes_any A cp xs wr HRD.out (fun x hx => by have := HF.out x hx; unfold Nt.fits maxLen; omega) (by unfold maxLen; omega)
        clear hxs hwd
        generalize pnS xs = E at *
        generalize pnC xs = k at *
        go_wp2_with fail
        refine HPK.out.mono ?_
        rintro e w5 ⟨rfl, hb5⟩
        have HO5 := Lib.hid (HO.out.next hb5)
        have x2 := (hBx.next hb5).at 1 _ rfl
        clear hBx x1 hb5 HPK HRD
        simp only [Bool.not_false] at x2
        obtain ⟨e1, e2⟩ := HE.out.2 HNO.out
        subst e1 e2
        have HR := Lib.hid (RetNtL.nil_ (w := w) 8 HO5.out.bel)
        go_wp2
        go_ret2
        exact HR.out
      · simp only [Bool.not_true] at x1
        clear hBx HSS
        go_wp2_with fail
        refine (note_any w.heap.size D true _ HS.out hD).mono ?_
        rintro e w3 ⟨x, v3, D3, o3, rfl, hx, S3, K3, hrow⟩
        obtain ⟨T3, c3, rfl⟩ := own_slice hrow
        have hT3 := (own_wrT hrow).more (B' := wr.heap.size) (Nat.le_succ _)
        have HO3 := Lib.hid (HO.out.kept K3 (Nat.lt_succ_self _) (Nat.le_refl _))
        have hown := HO3.out.row.alloc (.cells #[.string x.name, .int .i64 x.kind, .int .i64 x.num, .int .i64 x.den, .slice T3 x.terms.length c3, .int .i64 x.sp, .int .i64 x.sd, .int .i64 x.sq] 31)
        have hhi := HO3.out.hi
        have HX := Lib.hid hx
        have HK3 := Lib.hid K3
        have HT3 := Lib.hid hT3
        have HS3 := Lib.hid S3
        have hw1 : IntKind.u8.wrap ((c : Int) - (j : Int) - 1) = (c : Int) - (j : Int) - 1 := by simp [IntKind.wrap, IntKind.bits, IntKind.signed] <;> omega
        have hrl2 : rs.length ≤ 255 := by omega
        obtain ⟨A, cp, rfl⟩ := own_slice HO.out.row
        clear hT3 hx S3 K3 hrow HS x1
        go_wp2_with (at_builtin; refine wpList_append_lies _ rfl _ _ 24 rfl (w.heap.size + 1) 31 ti (ntV ByteArray.empty 0 0 0 none 0 0 0 0 0) 8 88 Tryz.underlying24 HI.out hz0 hz1 hz2 rfl (by decide) _ _ _ rfl hown ⟨w3.heap.size, 0, none⟩ 1 1 (ntC x T3 c3) rfl rfl (news_rowN _ _ _ rfl) ?c2 (by omega) ?c3 ?c4 ?c5 _ rfl ?_)
        case c2 => simp [ntC, Value.oneCell']
        case c3 => unfold maxLen; omega
        case c4 => omega
        case c5 => simp only [World.size_alloc]; omega
        intro g6 cap6 w6 hown3 hgrow hat hlt6
        have HP := Lib.hid (OutNt.pushK HO.out HK3.out (Nat.lt_succ_self _) (Nat.le_refl _) HT3.out (ext1 _ _) hown3 hgrow (by simpa only [World.size_alloc] using hat))
        have hrg : (Value.slice A rs.length cp).ownBlock ≠ some w.heap.size := fun e => by have := (HO3.out.row.lt _ e).1; omega
        have HS6 := Lib.hid ((HS3.out.next (ext1 w3 (.cells #[.string x.name, .int .i64 x.kind, .int .i64 x.num, .int .i64 x.den, .slice T3 x.terms.length c3, .int .i64 x.sp, .int .i64 x.sd, .int .i64 x.sq] 31))).grown hgrow hrg)
        have HB6 : Hid (BokP D2 o2 (j + 1) ((rs ++ [(⟨x, T3, c3⟩ : NtR)]).map NtR.x) D3 o3) := by
          unfold Hid
          rw [List.map_append]
          exact HB.out.step HX.out
        have HF6 : Hid (∀ y ∈ (rs ++ [(⟨x, T3, c3⟩ : NtR)]).map NtR.x, y.name.size ≤ 255 ∧ y.terms.length ≤ 1048577) := fun y hy => by
          rw [List.map_append] at hy
          rcases List.mem_append.1 hy with hy | hy
          · exact HF.out y hy
          · simp only [List.map_cons, List.map_nil, List.mem_cons, List.not_mem_nil, or_false] at hy
            subst hy
            have h1 := HX.out.1
            have h2 := HX.out.2.1
            exact ⟨h1, by omega⟩
        have hD3 : D3.length ≤ 1048576 := Nat.le_trans HX.out.2.2.2.1 hD
        clear hown3 hgrow hat hlt6 HO HO3 HS3 HT3 HK3 hown hrg HX
        go_wp2
        go_roundw
        case rel => exact ⟨j + 1, _, _, D3, o3, by congr 1; omega, by omega, by simp; omega, hD3, HB6.out, HF6.out, HS6.out, HP.out⟩
        case measure => simp [intOf]; omega
    · have hp : ¬ 0 < (c : Int) - (j : Int) := by omega
      have HU := Lib.hid (un_end HH.out HB.out hj (.inl (by omega)))
      clear HB HH HS HSS
      cases ok
      · have HNO : Hid (∀ ys, validNt ys = true → endB (bookB ys) = s → False) := fun ys h1 h2 => by have := (HU.out ys h1 h2).2; cases this
        simp only [Bool.not_false] at x1
        clear HU
        obtain ⟨A, cp, rfl, hwd⟩ := HO.out.wr
        generalize hxs : rs.map NtR.x = xs at *
        have HXS := Lib.hid hxs
        have HRD : Hid (RdNt wr wr.heap.size A xs) := hwd.rd
        have hlx : xs.length ≤ 1000 := by
          rw [← hxs, List.length_map]; omega
        have HPK : Hid (Calls Tryz.prog 19 #[.slice A xs.length cp] wr fun e w' => e = .returned (.tuple #[.string (pnS xs), .int .i64 (pnC xs)]) ∧ Below wr.heap.size wr w') :=
          iPackNotes_any A cp xs wr HRD.out (fun x hx => by have := HF.out x hx; unfold Nt.fits maxLen; omega) (by unfold maxLen; omega)
        clear hxs hwd
        generalize pnS xs = E at *
        generalize pnC xs = k at *
        go_wp2_with fail
        refine HPK.out.mono ?_
        rintro e w5 ⟨rfl, hb5⟩
        have HO5 := Lib.hid (HO.out.next hb5)
        have x2 := (hBx.next hb5).at 1 _ rfl
        clear hBx x1 hb5 HPK HRD
        simp only [Bool.not_false] at x2
        obtain ⟨e1, e2⟩ := HE.out.2 HNO.out
        subst e1 e2
        have HR := Lib.hid (RetNtL.nil_ (w := w) 8 HO5.out.bel)
        go_wp2
        go_ret2
        exact HR.out
      · simp only [Bool.not_true] at x1
        obtain ⟨A, cp, rfl, hwd⟩ := HO.out.wr
        generalize hxs : rs.map NtR.x = xs at *
        have HXS := Lib.hid hxs
        have HRD : Hid (RdNt wr wr.heap.size A xs) := hwd.rd
        have hlx : xs.length ≤ 1000 := by
          rw [← hxs, List.length_map]; omega
        have HPK : Hid (Calls Tryz.prog 19 #[.slice A xs.length cp] wr fun e w' => e = .returned (.tuple #[.string (pnS xs), .int .i64 (pnC xs)]) ∧ Below wr.heap.size wr w') :=
          iPackNotes_any A cp xs wr HRD.out (fun x hx => by have := HF.out x hx; unfold Nt.fits maxLen; omega) (by unfold maxLen; omega)
        clear hxs hwd
        cases hv : validNt xs
        · have HNO : Hid (∀ ys, validNt ys = true → endB (bookB ys) = s → False) := fun ys h1 h2 => by
            have h3 := (HU.out ys h1 h2).1
            rw [h3, h1] at hv
            cases hv
          have hk : pnC xs = 1 := by unfold pnC; rw [hv]; rfl
          rw [hk] at HPK
          generalize pnS xs = E at *
          clear HU hv hk
          go_wp2_with fail
          refine HPK.out.mono ?_
          rintro e w5 ⟨rfl, hb5⟩
          have HO5 := Lib.hid (HO.out.next hb5)
          have x2 := (hBx.next hb5).at 1 _ rfl
          clear hBx x1 hb5 HPK HRD
          simp only [Bool.not_true] at x2
          obtain ⟨e1, e2⟩ := HE.out.2 HNO.out
          subst e1 e2
          have HR := Lib.hid (RetNtL.nil_ (w := w) 8 HO5.out.bel)
          go_wp2
          go_ret2
          exact HR.out
        · have hk : pnC xs = 0 := by unfold pnC; rw [if_pos hv]
          have hkE : pnS xs = endB (bookB xs) := by unfold pnS; rw [if_pos hv]
          rw [hk, hkE] at HPK
          by_cases hes : endB (bookB xs) = s
          · obtain ⟨e1, e2⟩ := HE.out.1 xs (fun ys h1 h2 => (HU.out ys h1 h2).1) hv hes
            rw [hes] at HPK
            have HX2 : Hid (rs.map NtR.x = X) := by unfold Hid; rw [HXS.out, e1]
            have hlX : X.length = xs.length := by rw [e1]
            subst e2
            clear HU hv hk hkE hes e1 HE
            go_wp2_with fail
            refine HPK.out.mono ?_
            rintro e w5 ⟨rfl, hb5⟩
            have HO5 := Lib.hid (HO.out.next hb5)
            have x2 := (hBx.next hb5).at 1 _ rfl
            clear hBx x1 hb5 HPK HRD
            simp only [Bool.not_true] at x2
            have HR := Lib.hid (OutNt.retL HO5.out (Below.refl _ _) 0 HX2.out)
            go_wp2
            go_ret2
            exact HR.out
          · have HNO : Hid (∀ ys, validNt ys = true → endB (bookB ys) = s → False) := fun ys h1 h2 => by
              have h3 := (HU.out ys h1 h2).1
              rw [h3] at hes
              exact hes h2
            generalize endB (bookB xs) = E at *
            have hst : (E.toList == s.toList) = false := by
              rw [beq_eq_false_iff_ne]
              intro h
              exact hes (toList_injU h)
            clear HU hv hk hkE hes
            go_wp2_with fail
            refine HPK.out.mono ?_
            rintro e w5 ⟨rfl, hb5⟩
            have HO5 := Lib.hid (HO.out.next hb5)
            have x2 := (hBx.next hb5).at 1 _ rfl
            clear hBx x1 hb5 HPK HRD
            simp only [Bool.not_true] at x2
            obtain ⟨e1, e2⟩ := HE.out.2 HNO.out
            subst e1 e2
            have HR := Lib.hid (RetNtL.nil_ (w := w) 8 HO5.out.bel)
            go_wp2
            go_ret2
            exact HR.out
end Go.Proofs.YtpnabggpdgjbmaaGreatDoor
namespace Go.Proofs.YtpnabggpdgjbmaaGreatDoor
open Go.RowKit Go.Sort
/-- A reader of a text S: what lies ahead, and whether all went well. -/
def StS (g : Nat) (S : ByteArray) (D : List Int) (ok : Bool) (W : World) : Prop := ∃ p : Nat, p ≤ S.size ∧ (byI S).drop p = D ∧ BoxV g [.string S, .int .i64 p, .bool ok] W
section
variable {g : Nat} {S : ByteArray} {D : List Int} {ok : Bool} {W W' : World}
theorem StS.lt (h : StS g S D ok W) : g < W.heap.size := by obtain ⟨p, _, _, hB⟩ := h; exact hB.lt
theorem StS.next (h : StS g S D ok W) (hb : Below W.heap.size W W') : StS g S D ok W' := by obtain ⟨p, h1, h2, hB⟩ := h; exact ⟨p, h1, h2, hB.next hb⟩
theorem StS.put {b j : Nat} (h : StS g S D ok W) (hb : b ≠ g) (u : Value) : StS g S D ok (W.setCell ⟨b, j, none⟩ u) := by obtain ⟨p, h1, h2, hB⟩ := h; exact ⟨p, h1, h2, hB.setFar u hb⟩
theorem StS.grown {row : Option Nat} (h : StS g S D ok W) (hg : W.grownBy W' row) (hn : row ≠ some g) : StS g S D ok W' := by obtain ⟨p, h1, h2, hB⟩ := h; exact ⟨p, h1, h2, hB.grown hg hn⟩
end
theorem drop_at {S : ByteArray} {p : Nat} (h : p < S.size) : (byI S).drop p = ((S[p]).toNat : Int) :: (byI S).drop (p + 1) := by
  obtain ⟨h1, h2⟩ := List.getElem?_eq_some_iff.1 (byI_get h)
  rw [List.drop_eq_getElem_cons h1, h2]
theorem Keep.drewN (g n : Nat) (w : World) : Keep g w (w.drewN n) := ⟨⟨rfl, rfl, rfl, Nat.le_refl _, fun _ _ => rfl⟩, Nat.le_refl _, fun _ _ _ => rfl⟩
theorem Keep.drewN2 {g : Nat} {a b : World} (h : Keep g a b) (n : Nat) : Keep g a (b.drewN n) := h.trans (Keep.drewN g n b)
/-- What a reader of a byte returns. -/
def RetBy (g : Nat) (S : ByteArray) (D : List Int) (ok : Bool) (w : World) (e : Ending) (w' : World) : Prop := ∃ (c : Nat) (D' : List Int) (ok' : Bool), e = .returned (.int .i64 (c : Int)) ∧ BytP D ok c D' ok' ∧ StS g S D' ok' w' ∧ Keep g w w'
/-- What a reader of a number returns. -/
def RetNs (g : Nat) (S : ByteArray) (D : List Int) (ok : Bool) (w : World) (e : Ending) (w' : World) : Prop := ∃ n D' ok', e = .returned (.int .i64 n) ∧ NumP D ok n D' ok' ∧ StS g S D' ok' w' ∧ Keep g w w'
set_option maxRecDepth 100000 in
set_option maxHeartbeats 2000000 in
theorem byte_any (g : Nat) (S : ByteArray) (D : List Int) (ok : Bool) (w : World) (h : StS g S D ok w) (hS : S.size ≤ 1048576) :
    Calls Tryz.prog 66 #[.pointer (some ⟨g, 0, none⟩)] w (RetBy g S D ok w) := by
  obtain ⟨p, hp, hD, hB⟩ := h
  have HD := Lib.hid hD
  have HB := Lib.hid hB
  have hl := byI_length S
  have x0 := hB.at 0 _ rfl
  have x1 := hB.at 1 _ rfl
  have x2 := hB.at 2 _ rfl
  have y0 := hB.f 0
  have y1 := hB.f 1
  have y2 := hB.f 2
  clear hD hB
  cases ok
  · have HS : Hid (∀ n, StS g S D false ((w.drewN n).setCell ⟨g, 2, none⟩ (.bool false))) := fun n => ⟨p, hp, HD.out, ⟨fun j v hv => (HB.out.set 2 (.bool false) (by simp)).c j v hv, fun j => (World.frozen?_setCell _ _ _ _).trans (HB.out.f j), by simpa using HB.out.lt⟩⟩
    have HP : Hid (BytP D false 0 D false) := ⟨by omega, .inr ⟨rfl, rfl, rfl, .inr rfl⟩⟩
    go_enter Tryz.func66, Tryz.ntmps66
    go_wp2_with fail
    go_quiet (fail)
    go_wp2_with fail
    go_ret
    exact ⟨0, D, false, rfl, HP.out, HS.out _, (Keep.drewN _ _ _).set _ _⟩
  · by_cases hlt : p < S.size
    · have i1 : ¬ (S.size : Int) ≤ (p : Int) := by omega
      obtain ⟨c, hc⟩ : ∃ c, (S[p]).toNat = c := ⟨_, rfl⟩
      have hcc : ((S[p]).toNat : Int) = (c : Int) := by rw [hc]
      have hc5 : c ≤ 255 := by have := (S[p]).toNat_lt; omega
      have hdr := drop_at hlt
      rw [HD.out, hcc] at hdr
      have HP : Hid (BytP D true c ((byI S).drop (p + 1)) true) := ⟨hc5, .inl ⟨hdr, rfl⟩⟩
      have HS : Hid (∀ n m, StS g S ((byI S).drop (p + 1)) true (((w.drewN n).setCell ⟨g, 1, none⟩ (.int .i64 ((p + 1 : Nat) : Int))).drewN m)) := fun n m => ⟨p + 1, hlt, rfl, ⟨fun j v hv => (HB.out.set 1 (.int .i64 ((p + 1 : Nat) : Int)) (by simp)).c j v hv, fun j => (World.frozen?_setCell _ _ _ _).trans (HB.out.f j), by simpa using HB.out.lt⟩⟩
      have HK : Hid (∀ n m, Keep g w (((w.drewN n).setCell ⟨g, 1, none⟩ (.int .i64 ((p + 1 : Nat) : Int))).drewN m)) := fun n m => Keep.drewN2 ((Keep.drewN _ _ _).set _ _) _
      have w1 : IntKind.i64.wrap ((p : Int) + 1) = (p : Int) + 1 := IntWalk.i64_in _ (by omega)
      have w2 : IntKind.i64.wrap ((p : Int) + 1 - 1) = (p : Int) := by rw [show (p : Int) + 1 - 1 = p by omega]; exact IntWalk.i64_in _ (by omega)
      have w3 : IntKind.i64.wrap (p : Int) = (p : Int) := IntWalk.i64_in _ (by omega)
      have w4 : IntKind.i64.wrap (c : Int) = (c : Int) := IntWalk.i64_in _ (by omega)
      have i2 : (p : Int) < (S.size : Int) := by omega
      have i3 : (0 : Int) ≤ (p : Int) := by omega
      clear hdr hc HD HB
      go_enter Tryz.func66, Tryz.ntmps66
      go_wp2_with fail
      go_quiet (fail)
      go_wp2_with fail
      go_quiet (fail)
      go_wp2_with fail
      go_ret
      exact ⟨c, _, true, rfl, HP.out, HS.out _ _, HK.out _ _⟩
    · have i1 : (S.size : Int) ≤ (p : Int) := by omega
      have hD0 : D = [] := by rw [← HD.out]; exact List.drop_eq_nil_of_le (by omega)
      have HS : Hid (∀ n, StS g S D false ((w.drewN n).setCell ⟨g, 2, none⟩ (.bool false))) := fun n => ⟨p, hp, HD.out, ⟨fun j v hv => (HB.out.set 2 (.bool false) (by simp)).c j v hv, fun j => (World.frozen?_setCell _ _ _ _).trans (HB.out.f j), by simpa using HB.out.lt⟩⟩
      have HP : Hid (BytP D true 0 D false) := ⟨by omega, .inr ⟨rfl, rfl, rfl, .inl hD0⟩⟩
      clear hD0
      go_enter Tryz.func66, Tryz.ntmps66
      go_wp2_with fail
      go_quiet (fail)
      go_wp2_with fail
      go_ret
      exact ⟨0, D, false, rfl, HP.out, HS.out _, (Keep.drewN _ _ _).set _ _⟩
theorem shl_sum (N c k : Nat) (hN : N < 128 ^ k) (hk : k ≤ 5) : wrap64 ((c : Int) % 128 * 2 ^ (7 * k)) = ((c % 128 * 128 ^ k : Nat) : Int) ∧ wrap64 ((N : Int) + ((c % 128 * 128 ^ k : Nat) : Int)) = ((N + c % 128 * 128 ^ k : Nat) : Int) ∧ N + c % 128 * 128 ^ k < 4398046511104 := by
  have e : (2 : Nat) ^ (7 * k) = 128 ^ k := by rw [Nat.pow_mul]
  have hp : 128 ^ k ≤ 128 ^ 5 := Nat.pow_le_pow_right (by omega) hk
  have e5 : (128 : Nat) ^ 5 = 34359738368 := by decide
  have hc : c % 128 * 128 ^ k ≤ 127 * 128 ^ k := Nat.mul_le_mul_right _ (by omega)
  have e2 : ((c : Int) % 128 * 2 ^ (7 * k)) = ((c % 128 * 128 ^ k : Nat) : Int) := by
    rw [← e, Int.natCast_mul, Int.natCast_pow, Int.natCast_emod]; rfl
  refine ⟨by rw [e2]; exact IntWalk.wrap64_in _ (by omega), ?_, by omega⟩
  rw [← Int.natCast_add]
  exact IntWalk.wrap64_in _ (by omega)
theorem numS_odd {M : Nat} (hM : M < 4398046511104) (h : M % 2 = 1) : ∃ Q : Int, IntKind.i64.wrap ((M : Int) + 1) = (M : Int) + 1 ∧ IntKind.i64.wrap (-((M : Int) + 1)) = -((M : Int) + 1) ∧ (-((M : Int) + 1)).tdiv 2 = Q ∧ IntKind.i64.wrap Q = Q ∧ unz M = Q :=
  ⟨-((M / 2 : Nat) : Int) - 1, IntWalk.i64_in _ (by omega), IntWalk.i64_in _ (by omega), by rw [Int.neg_tdiv, Int.tdiv_eq_ediv_of_nonneg (by omega)]; omega, IntWalk.i64_in _ (by omega), by unfold unz; rw [if_pos h]⟩
theorem numS_even {M : Nat} (hM : M < 4398046511104) (h : ¬ M % 2 = 1) : ∃ Q : Int, (M : Int).tdiv 2 = Q ∧ (M : Int) / 2 = Q ∧ IntKind.i64.wrap Q = Q ∧ unz M = Q :=
  ⟨((M / 2 : Nat) : Int), by rw [Int.tdiv_eq_ediv_of_nonneg (by omega)]; omega, by omega, IntWalk.i64_in _ (by omega), by unfold unz; rw [if_neg h]⟩
set_option maxRecDepth 100000 in
set_option maxHeartbeats 2000000 in
theorem numberS_any (g : Nat) (S : ByteArray) (D : List Int) (ok : Bool) (w : World) (h : StS g S D ok w) (hS : S.size ≤ 1048576) :
    Calls Tryz.prog 108 #[.pointer (some ⟨g, 0, none⟩)] w (RetNs g S D ok w) := by
  have H := Lib.hid h
  clear h
  go_enter Tryz.func108, Tryz.ntmps108
  go_wp2_with fail
  go_loopw [3, 4, 5] (fun s t u wr => ∃ (k N : Nat) (E : List Int) (o : Bool), k ≤ 6 ∧ s = .int .i64 N ∧ t = .int .i64 k ∧ Hid (NumI D ok k N E o ∧ StS g S E o wr ∧ Keep g w wr)) (fun _ t _ _ => 6 - (intOf t).toNat)
  case atStart => exact ⟨0, 0, D, ok, by omega, rfl, rfl, NumI.start D ok, H.out, Keep.refl _ _⟩
  case round =>
    obtain ⟨k, N, E, o, hk, rfl, rfl, HI⟩ := hrel
    by_cases hlt : k < 6
    · have l1 : (k : Int) < 6 := by omega
      go_wp2_with fail
      refine (byte_any g S E o _ HI.out.2.1 hS).mono ?_
      rintro e w1 ⟨c, E', o', rfl, hb, hs, hK⟩
      have HB := Lib.hid hb
      have hc5 : c ≤ 255 := hb.1
      obtain ⟨s1, s2, hM⟩ := shl_sum N c k HI.out.1.1 (by omega)
      obtain ⟨M, hMe⟩ : ∃ M, N + c % 128 * 128 ^ k = M := ⟨_, rfl⟩
      obtain ⟨Z, hZ⟩ : ∃ Z, c % 128 * 128 ^ k = Z := ⟨_, rfl⟩
      rw [hMe] at s2 hM
      rw [hZ] at s1 s2
      have HME := Lib.hid hMe
      have HS := Lib.hid hs
      have HK := Lib.hid (HI.out.2.2.trans hK)
      clear hb hs hK hMe hZ
      by_cases hc : c < 128
      · have c1 : (c : Int) < 128 := by omega
        have HP : ∀ o2 q, (o' && (decide (0 < c) || decide (k = 0))) = o2 → unz M = q → Hid (NumP D ok q E' o2) := fun o2 q ho hq => by
          subst hq
          have h := NumI.done (o2 := o2) HI.out.1 (by omega) HB.out hc (.inl ho.symm)
          rw [show c = c % 128 from (Nat.mod_eq_of_lt hc).symm, HME.out] at h
          exact h
        have HSS : Hid (∀ o2, StS g S E' o2 (w1.setCell ⟨g, 2, none⟩ (.bool o2))) := fun o2 => by
          obtain ⟨p, h1, h2, h3⟩ := HS.out
          exact ⟨p, h1, h2, h3.set 2 _ (by simp)⟩
        have HKK : Hid (∀ o2, Keep g w (w1.setCell ⟨g, 2, none⟩ (.bool o2))) := fun o2 => HK.out.set _ _
        obtain ⟨p, _, _, hB⟩ := HS.out
        have x2 := hB.at 2 _ rfl
        have y2 := hB.f 2
        clear hB HI HME HB
        cases o'
        · have HPN := fun q => HP false q rfl
          clear HP
          clear hc5
          by_cases h2 : M % 2 = 1
          · have m1 : (M : Int) % 2 = 1 := by omega
            obtain ⟨Q, e1, e2, e3, e4, e5⟩ := numS_odd hM h2
            have HPQ := HPN Q e5
            clear e5 h2 hM HPN
            go_wp2
            go_ret
            exact ⟨_, _, _, rfl, HPQ.out, HSS.out _, HKK.out _⟩
          · have m1 : (M : Int) % 2 = 0 := by omega
            obtain ⟨Q, e1, e2, e3, e4⟩ := numS_even hM h2
            have HPQ := HPN Q e4
            clear e4 h2 hM HPN
            go_wp2
            go_ret
            exact ⟨_, _, _, rfl, HPQ.out, HSS.out _, HKK.out _⟩
        · by_cases c0 : 0 < c
          · have HPN := fun q => HP true q (by simp [c0])
            clear HP
            have c2 : 0 < (c : Int) := by omega
            clear hc5
            by_cases h2 : M % 2 = 1
            · have m1 : (M : Int) % 2 = 1 := by omega
              obtain ⟨Q, e1, e2, e3, e4, e5⟩ := numS_odd hM h2
              have HPQ := HPN Q e5
              clear e5 h2 hM HPN
              go_wp2
              go_ret
              exact ⟨_, _, _, rfl, HPQ.out, HSS.out _, HKK.out _⟩
            · have m1 : (M : Int) % 2 = 0 := by omega
              obtain ⟨Q, e1, e2, e3, e4⟩ := numS_even hM h2
              have HPQ := HPN Q e4
              clear e4 h2 hM HPN
              go_wp2
              go_ret
              exact ⟨_, _, _, rfl, HPQ.out, HSS.out _, HKK.out _⟩
          · by_cases k0 : k = 0
            · have HPN := fun q => HP true q (by simp [k0])
              clear HP
              have c2 : ¬ 0 < (c : Int) := by omega
              have k2 : ((k : Int) == 0) = true := by simp; omega
              clear k0
              clear hc5
              by_cases h2 : M % 2 = 1
              · have m1 : (M : Int) % 2 = 1 := by omega
                obtain ⟨Q, e1, e2, e3, e4, e5⟩ := numS_odd hM h2
                have HPQ := HPN Q e5
                clear e5 h2 hM HPN
                go_wp2
                go_ret
                exact ⟨_, _, _, rfl, HPQ.out, HSS.out _, HKK.out _⟩
              · have m1 : (M : Int) % 2 = 0 := by omega
                obtain ⟨Q, e1, e2, e3, e4⟩ := numS_even hM h2
                have HPQ := HPN Q e4
                clear e4 h2 hM HPN
                go_wp2
                go_ret
                exact ⟨_, _, _, rfl, HPQ.out, HSS.out _, HKK.out _⟩
            · have HPN := fun q => HP false q (by simp [k0, c0])
              clear HP
              have c2 : ¬ 0 < (c : Int) := by omega
              have k2 : ((k : Int) == 0) = false := by simp; omega
              clear hc5
              by_cases h2 : M % 2 = 1
              · have m1 : (M : Int) % 2 = 1 := by omega
                obtain ⟨Q, e1, e2, e3, e4, e5⟩ := numS_odd hM h2
                have HPQ := HPN Q e5
                clear e5 h2 hM HPN
                go_wp2
                go_ret
                exact ⟨_, _, _, rfl, HPQ.out, HSS.out _, HKK.out _⟩
              · have m1 : (M : Int) % 2 = 0 := by omega
                obtain ⟨Q, e1, e2, e3, e4⟩ := numS_even hM h2
                have HPQ := HPN Q e4
                clear e4 h2 hM HPN
                go_wp2
                go_ret
                exact ⟨_, _, _, rfl, HPQ.out, HSS.out _, HKK.out _⟩
      · have c1 : ¬ (c : Int) < 128 := by omega
        have HP : Hid (NumI D ok (k + 1) M E' o') := by
          have h := HI.out.1.step HB.out (by omega)
          rw [HME.out] at h
          exact h
        have w1 : IntKind.i64.wrap ((k : Int) + 1) = (k : Int) + 1 := IntWalk.i64_in _ (by omega)
        clear HI HME
        go_wp2
        go_roundw
        case rel => exact ⟨k + 1, M, E', o', by omega, by first | rfl | rw [s2], rfl, HP.out, HS.out, HK.out⟩
        case measure => simp [intOf]; omega
    · have l1 : ¬ (k : Int) < 6 := by omega
      obtain ⟨p, hp, hD, hB⟩ := HI.out.2.1
      have x2 := hB.at 2 _ rfl
      have y2 := hB.f 2
      have HS : Hid (StS g S E false (wr.setCell ⟨g, 2, none⟩ (.bool false))) := ⟨p, hp, hD, hB.set 2 _ (by simp)⟩
      have HK : Hid (Keep g w (wr.setCell ⟨g, 2, none⟩ (.bool false))) := HI.out.2.2.set _ _
      have HP : Hid (NumP D ok 0 E false) := HI.out.1.out (by omega)
      clear HI hD
      go_wp2
      go_ret
      exact ⟨_, _, _, rfl, HP.out, HS.out, HK.out⟩
end Go.Proofs.YtpnabggpdgjbmaaGreatDoor
