/- UnpackNotes, the program's walk. No condition but those that each theorem names. -/
import Derived.Test.YtkimmahmbacjpaaMuI
import Derived.Test.YtkimmahmbacjpaaMuK
import Derived.Test.YtkimmahmbacjpaaCopyNtP
namespace Go.Proofs.Ytkimmahmbacjpaa
open Go.RowKit Go.Sort

theorem infoNtU : (Try.prog.info? 36).map (fun i => (i.zero, i.size, i.bytes)) = some (some (ntV ByteArray.empty 0 0 0 none 0 0 0 0 0), 8, 88) := by kernel_rfl
theorem toList_injU {a b : ByteArray} (h : a.toList = b.toList) : a = b := by
  rw [ByteArray.toList_eq, ByteArray.toList_eq] at h
  cases a with | mk a => cases b with | mk b =>
    simp only at h
    rw [Array.toList_inj.1 h]
/-- What is known of a text that was read up to its notes. -/
theorem un_head {s : ByteArray} {o1 o2 : Bool} {D1 D2 : List Int} {c : Nat} {out : ByteArray} (h1 : TakP (byI s) true 1 out D1 o1) (h2 : BytP D1 o1 c D2 o2) :
    ∀ ys, validNt ys = true → endB (bookB ys) = s → ∃ Z, D2 = (ys.map noteB).flatten ++ Z ∧ c = ys.length ∧ o2 = true := fun ys hv he => by
  have hb := byI_end hv
  rw [he] at hb
  rcases h1 with ⟨_, _, h3, h4⟩ | ⟨h3, _⟩
  · rw [hb] at h3
    simp only [List.drop_succ_cons, List.drop_zero] at h3
    obtain ⟨e1, e2, e3⟩ := h2.hit h3 h4
    exact ⟨_, e2, by omega, e3⟩
  · rw [hb] at h3
    simp at h3
theorem un_end {s : ByteArray} {D2 D : List Int} {o2 ok : Bool} {c j : Nat} {xs : List Nt} (hh : ∀ ys, validNt ys = true → endB (bookB ys) = s → ∃ Z, D2 = (ys.map noteB).flatten ++ Z ∧ c = ys.length ∧ o2 = true) (hb : BokP D2 o2 j xs D ok) (hj : j ≤ c) (hc : j = c ∨ ok = false) :
    ∀ ys, validNt ys = true → endB (bookB ys) = s → xs = ys ∧ ok = true := fun ys hv he => by
  obtain ⟨Z, e1, e2, e3⟩ := hh ys hv he
  obtain ⟨q1, q2, q3⟩ := hb ys Z hv e1 e3 (by omega)
  rcases hc with hc | hc
  · exact ⟨by rw [q1, List.take_of_length_le (by omega)], q3⟩
  · rw [q3] at hc; cases hc
set_option maxRecDepth 100000 in
set_option maxHeartbeats 8000000 in
theorem iUnpack_any (s : ByteArray) (w : World) (hs : s.size ≤ 1048576) :
    Calls Try.prog 6 #[.string s] w (RetNtL w (unX s) (unC s)) := by
  obtain ⟨ti, hi, hz0, hz1, hz2⟩ := info_parts infoNtU
  have HI := Lib.hid hi
  have hls := byI_length s
  have H : Hid (StI w.heap.size (byI s) true (w.alloc (.cells #[.string s, .bool false] 57))) := ⟨s, rfl, BoxV.new _ _ _⟩
  have O : Hid (OutNt w (w.heap.size + 1) [] (fun _ => 0) (.slice none 0 0) (w.alloc (.cells #[.string s, .bool false] 57))) :=
    ⟨own_nil, fun _ _ h => by simp at h, fun _ _ => rfl, ext1 _ _, Nat.le_succ _, by simp⟩
  have HE : Hid ((∀ xs, (∀ ys, validNt ys = true → endB (bookB ys) = s → xs = ys) → validNt xs = true → endB (bookB xs) = s → unX s = xs ∧ unC s = 0) ∧ ((∀ ys, validNt ys = true → endB (bookB ys) = s → False) → unX s = [] ∧ unC s = 8)) := ⟨fun xs h1 h2 h3 => un_good h1 h2 h3, fun h => un_bad h⟩
  clear hi
  generalize unX s = X at *
  generalize unC s = K at *
  go_enter Try.func6, Try.ntmps6
  go_wp2_with fail
  generalize w.alloc (.cells #[.string s, .bool false] 57) = W0 at *
  refine (take_any w.heap.size 1 _ true _ (by omega) H.out).mono ?_
  rintro e w1 ⟨out, D1, o1, rfl, ht1, S1, K1⟩
  replace O := Lib.hid (O.out.kept K1 (Nat.lt_succ_self _) (Nat.le_refl _))
  have HT1 := Lib.hid ht1
  have HS1 := Lib.hid S1
  have hl1 : D1.length ≤ 1048576 := by
    rcases ht1 with ⟨_, _, h, _⟩ | ⟨_, _, h, _⟩
    · rw [h, List.length_drop]; omega
    · rw [h]; omega
  clear ht1 S1 K1 H hls
  go_wp2_with fail
  refine (take_any w.heap.size 1 D1 o1 _ (by omega) HS1.out).mono ?_
  rintro e w2 ⟨out2, D2, o2, rfl, ht, S1, K1⟩
  have h0 : 0 < out2.size := by have := ht.size; omega
  obtain ⟨c, hc⟩ : ∃ c, (out2[0]).toNat = c := ⟨_, rfl⟩
  have hb := ht.byte h0
  rw [hc] at hb
  have HH := Lib.hid (un_head HT1.out hb)
  have hl2 : D2.length ≤ 1048576 := Nat.le_trans hb.len.1 hl1
  have hc5 : c ≤ 255 := hb.1
  have hcc : ((out2[0]).toNat : Int) = (c : Int) := by rw [hc]
  replace O := Lib.hid (O.out.kept K1 (Nat.lt_succ_self _) (Nat.le_refl _))
  have H := Lib.hid S1
  clear ht S1 K1 HS1 HT1 hb hc hl1
  go_wp2_with fail
  go_loopw [5, 6] (fun v t wr => ∃ (j : Nat) (rs : List NtR) (own : Nat → Nat) (D : List Int) (ok : Bool), t = .int .u8 ((c : Int) - (j : Int)) ∧ j ≤ c ∧ rs.length ≤ j ∧ D.length ≤ 1048576 ∧ Hid (BokP D2 o2 j (rs.map NtR.x) D ok) ∧ Hid (∀ x ∈ rs.map NtR.x, x.name.size ≤ 255 ∧ x.terms.length ≤ 1048577) ∧ Hid (StI w.heap.size D ok wr) ∧ Hid (OutNt w (w.heap.size + 1) rs own v wr)) (fun _ t _ => (intOf t).toNat)
  case atStart => exact ⟨0, [], _, D2, o2, by simp, by omega, by simp, hl2, BokP.start _ _, fun x hx => by simp at hx, H.out, O.out⟩
  case round =>
    obtain ⟨j, rs, own, D, ok, rfl, hj, hrl, hD, HB, HF, HS, HO⟩ := hrel
    clear H O hcc
    have HSS := Lib.hid HS.out
    obtain ⟨R, hR, hBx⟩ := HSS.out
    have x1 := hBx.at 1 _ rfl
    clear hR
    by_cases hjc : j < c
    · have hp : 0 < (c : Int) - (j : Int) := by omega
      cases ok
      · simp only [Bool.not_false] at x1
        have HU := Lib.hid (un_end HH.out HB.out hj (.inr rfl))
        have HNO : Hid (∀ ys, validNt ys = true → endB (bookB ys) = s → False) := fun ys h1 h2 => by have := (HU.out ys h1 h2).2; cases this
        clear HU HB HH HS HSS
        obtain ⟨A, cp, rfl, hwd⟩ := HO.out.wr
        generalize hxs : rs.map NtR.x = xs at *
        have HXS := Lib.hid hxs
        have HRD : Hid (RdNt wr wr.heap.size A xs) := hwd.rd
        have hlx : xs.length ≤ 1000 := by
          rw [← hxs, List.length_map]; omega
        have HPK : Hid (Calls Try.prog 26 #[.slice A xs.length cp] wr fun e w' => e = .returned (.tuple #[.string (pnS xs), .int .i64 (pnC xs)]) ∧ Below wr.heap.size wr w') :=
          iPackNotes_any A cp xs wr HRD.out (fun x hx => by have := HF.out x hx; unfold Nt.fits maxLen; omega) (by unfold maxLen; omega)
        clear hxs hwd
        generalize pnS xs = E at *
        generalize pnC xs = k at *
        go_wp2_with fail
        refine HPK.out.mono ?_
        rintro e w5 ⟨rfl, hb5⟩
        have HO5 := Lib.hid (HO.out.next hb5)
        have x2 := (hBx.next hb5).at 1 _ rfl
        clear hBx x1 hb5 HPK HRD
        simp only [Bool.not_false] at x2
        obtain ⟨e1, e2⟩ := HE.out.2 HNO.out
        subst e1 e2
        have HR := Lib.hid (RetNtL.nil_ (w := w) 8 HO5.out.bel)
        go_wp2
        go_ret2
        exact HR.out
      · simp only [Bool.not_true] at x1
        clear hBx HSS
        go_wp2_with fail
        refine (note_any w.heap.size D true _ HS.out hD).mono ?_
        rintro e w3 ⟨x, v3, D3, o3, rfl, hx, S3, K3, hrow⟩
        obtain ⟨T3, c3, rfl⟩ := own_slice hrow
        have hT3 := (own_wrT hrow).more (B' := wr.heap.size) (Nat.le_succ _)
        have HO3 := Lib.hid (HO.out.kept K3 (Nat.lt_succ_self _) (Nat.le_refl _))
        have hown := HO3.out.row.alloc (.cells #[.string x.name, .int .i64 x.kind, .int .i64 x.num, .int .i64 x.den, .slice T3 x.terms.length c3, .int .i64 x.sp, .int .i64 x.sd, .int .i64 x.sq] 36)
        have hhi := HO3.out.hi
        have HX := Lib.hid hx
        have HK3 := Lib.hid K3
        have HT3 := Lib.hid hT3
        have HS3 := Lib.hid S3
        have hw1 : IntKind.u8.wrap ((c : Int) - (j : Int) - 1) = (c : Int) - (j : Int) - 1 := by simp [IntKind.wrap, IntKind.bits, IntKind.signed] <;> omega
        have hrl2 : rs.length ≤ 255 := by omega
        obtain ⟨A, cp, rfl⟩ := own_slice HO.out.row
        clear hT3 hx S3 K3 hrow HS x1
        go_wp2_with (at_builtin; refine wpList_append_lies _ rfl _ _ 22 rfl (w.heap.size + 1) 36 ti (ntV ByteArray.empty 0 0 0 none 0 0 0 0 0) 8 88 Try.underlying22 HI.out hz0 hz1 hz2 rfl (by decide) _ _ _ rfl hown ⟨w3.heap.size, 0, none⟩ 1 1 (ntC x T3 c3) rfl rfl (news_rowN _ _ _ rfl) ?c2 (by omega) ?c3 ?c4 ?c5 _ rfl ?_)
        case c2 => simp [ntC, Value.oneCell']
        case c3 => unfold maxLen; omega
        case c4 => omega
        case c5 => simp only [World.size_alloc]; omega
        intro g6 cap6 w6 hown3 hgrow hat hlt6
        have HP := Lib.hid (OutNt.pushK HO.out HK3.out (Nat.lt_succ_self _) (Nat.le_refl _) HT3.out (ext1 _ _) hown3 hgrow (by simpa only [World.size_alloc] using hat))
        have hrg : (Value.slice A rs.length cp).ownBlock ≠ some w.heap.size := fun e => by have := (HO3.out.row.lt _ e).1; omega
        have HS6 := Lib.hid ((HS3.out.next (ext1 w3 (.cells #[.string x.name, .int .i64 x.kind, .int .i64 x.num, .int .i64 x.den, .slice T3 x.terms.length c3, .int .i64 x.sp, .int .i64 x.sd, .int .i64 x.sq] 36))).grown hgrow hrg)
        have HB6 : Hid (BokP D2 o2 (j + 1) ((rs ++ [(⟨x, T3, c3⟩ : NtR)]).map NtR.x) D3 o3) := by
          unfold Hid
          rw [List.map_append]
          exact HB.out.step HX.out
        have HF6 : Hid (∀ y ∈ (rs ++ [(⟨x, T3, c3⟩ : NtR)]).map NtR.x, y.name.size ≤ 255 ∧ y.terms.length ≤ 1048577) := fun y hy => by
          rw [List.map_append] at hy
          rcases List.mem_append.1 hy with hy | hy
          · exact HF.out y hy
          · simp only [List.map_cons, List.map_nil, List.mem_cons, List.not_mem_nil, or_false] at hy
            subst hy
            have h1 := HX.out.1
            have h2 := HX.out.2.1
            exact ⟨h1, by omega⟩
        have hD3 : D3.length ≤ 1048576 := Nat.le_trans HX.out.2.2.2.1 hD
        clear hown3 hgrow hat hlt6 HO HO3 HS3 HT3 HK3 hown hrg HX
        go_wp2
        go_roundw
        case rel => exact ⟨j + 1, _, _, D3, o3, by congr 1; omega, by omega, by simp; omega, hD3, HB6.out, HF6.out, HS6.out, HP.out⟩
        case measure => simp [intOf]; omega
    · have hp : ¬ 0 < (c : Int) - (j : Int) := by omega
      have HU := Lib.hid (un_end HH.out HB.out hj (.inl (by omega)))
      clear HB HH HS HSS
      cases ok
      · have HNO : Hid (∀ ys, validNt ys = true → endB (bookB ys) = s → False) := fun ys h1 h2 => by have := (HU.out ys h1 h2).2; cases this
        simp only [Bool.not_false] at x1
        clear HU
        obtain ⟨A, cp, rfl, hwd⟩ := HO.out.wr
        generalize hxs : rs.map NtR.x = xs at *
        have HXS := Lib.hid hxs
        have HRD : Hid (RdNt wr wr.heap.size A xs) := hwd.rd
        have hlx : xs.length ≤ 1000 := by
          rw [← hxs, List.length_map]; omega
        have HPK : Hid (Calls Try.prog 26 #[.slice A xs.length cp] wr fun e w' => e = .returned (.tuple #[.string (pnS xs), .int .i64 (pnC xs)]) ∧ Below wr.heap.size wr w') :=
          iPackNotes_any A cp xs wr HRD.out (fun x hx => by have := HF.out x hx; unfold Nt.fits maxLen; omega) (by unfold maxLen; omega)
        clear hxs hwd
        generalize pnS xs = E at *
        generalize pnC xs = k at *
        go_wp2_with fail
        refine HPK.out.mono ?_
        rintro e w5 ⟨rfl, hb5⟩
        have HO5 := Lib.hid (HO.out.next hb5)
        have x2 := (hBx.next hb5).at 1 _ rfl
        clear hBx x1 hb5 HPK HRD
        simp only [Bool.not_false] at x2
        obtain ⟨e1, e2⟩ := HE.out.2 HNO.out
        subst e1 e2
        have HR := Lib.hid (RetNtL.nil_ (w := w) 8 HO5.out.bel)
        go_wp2
        go_ret2
        exact HR.out
      · simp only [Bool.not_true] at x1
        obtain ⟨A, cp, rfl, hwd⟩ := HO.out.wr
        generalize hxs : rs.map NtR.x = xs at *
        have HXS := Lib.hid hxs
        have HRD : Hid (RdNt wr wr.heap.size A xs) := hwd.rd
        have hlx : xs.length ≤ 1000 := by
          rw [← hxs, List.length_map]; omega
        have HPK : Hid (Calls Try.prog 26 #[.slice A xs.length cp] wr fun e w' => e = .returned (.tuple #[.string (pnS xs), .int .i64 (pnC xs)]) ∧ Below wr.heap.size wr w') :=
          iPackNotes_any A cp xs wr HRD.out (fun x hx => by have := HF.out x hx; unfold Nt.fits maxLen; omega) (by unfold maxLen; omega)
        clear hxs hwd
        cases hv : validNt xs
        · have HNO : Hid (∀ ys, validNt ys = true → endB (bookB ys) = s → False) := fun ys h1 h2 => by
            have h3 := (HU.out ys h1 h2).1
            rw [h3, h1] at hv
            cases hv
          have hk : pnC xs = 1 := by unfold pnC; rw [hv]; rfl
          rw [hk] at HPK
          generalize pnS xs = E at *
          clear HU hv hk
          go_wp2_with fail
          refine HPK.out.mono ?_
          rintro e w5 ⟨rfl, hb5⟩
          have HO5 := Lib.hid (HO.out.next hb5)
          have x2 := (hBx.next hb5).at 1 _ rfl
          clear hBx x1 hb5 HPK HRD
          simp only [Bool.not_true] at x2
          obtain ⟨e1, e2⟩ := HE.out.2 HNO.out
          subst e1 e2
          have HR := Lib.hid (RetNtL.nil_ (w := w) 8 HO5.out.bel)
          go_wp2
          go_ret2
          exact HR.out
        · have hk : pnC xs = 0 := by unfold pnC; rw [if_pos hv]
          have hkE : pnS xs = endB (bookB xs) := by unfold pnS; rw [if_pos hv]
          rw [hk, hkE] at HPK
          by_cases hes : endB (bookB xs) = s
          · obtain ⟨e1, e2⟩ := HE.out.1 xs (fun ys h1 h2 => (HU.out ys h1 h2).1) hv hes
            rw [hes] at HPK
            have HX2 : Hid (rs.map NtR.x = X) := by unfold Hid; rw [HXS.out, e1]
            have hlX : X.length = xs.length := by rw [e1]
            subst e2
            clear HU hv hk hkE hes e1 HE
            go_wp2_with fail
            refine HPK.out.mono ?_
            rintro e w5 ⟨rfl, hb5⟩
            have HO5 := Lib.hid (HO.out.next hb5)
            have x2 := (hBx.next hb5).at 1 _ rfl
            clear hBx x1 hb5 HPK HRD
            simp only [Bool.not_true] at x2
            have HR := Lib.hid (OutNt.retL HO5.out (Below.refl _ _) 0 HX2.out)
            go_wp2
            go_ret2
            exact HR.out
          · have HNO : Hid (∀ ys, validNt ys = true → endB (bookB ys) = s → False) := fun ys h1 h2 => by
              have h3 := (HU.out ys h1 h2).1
              rw [h3] at hes
              exact hes h2
            generalize endB (bookB xs) = E at *
            have hst : (E.toList == s.toList) = false := by
              rw [beq_eq_false_iff_ne]
              intro h
              exact hes (toList_injU h)
            clear HU hv hk hkE hes
            go_wp2_with fail
            refine HPK.out.mono ?_
            rintro e w5 ⟨rfl, hb5⟩
            have HO5 := Lib.hid (HO.out.next hb5)
            have x2 := (hBx.next hb5).at 1 _ rfl
            clear hBx x1 hb5 HPK HRD
            simp only [Bool.not_true] at x2
            obtain ⟨e1, e2⟩ := HE.out.2 HNO.out
            subst e1 e2
            have HR := Lib.hid (RetNtL.nil_ (w := w) 8 HO5.out.bel)
            go_wp2
            go_ret2
            exact HR.out
end Go.Proofs.Ytkimmahmbacjpaa
