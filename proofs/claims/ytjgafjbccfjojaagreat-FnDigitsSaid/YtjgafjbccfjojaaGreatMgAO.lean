/- Parts of the proof, merged: SureU FlW RootW Named Notes SurdW. No condition but those that each theorem names. -/
import Derived.Test.YtjgafjbccfjojaaGreatMgAN
import Derived.Test.YtjgafjbccfjojaaGreatMgAM
import Derived.Test.YtjgafjbccfjojaaGreatMgAJ
import Derived.Test.YtjgafjbccfjojaaGreatMgAI
import Derived.Test.YtjgafjbccfjojaaGreatMgAA
import Derived.Laws.FloatArith
namespace Go.Proofs.YtjgafjbccfjojaaGreat
open Go.RowKit Go.Sort
theorem sureR_none {ts : List Int} {base : Int} (h1 : termsB ts = true) (h2 : inR base 2 36 = true) (h3 : bdS ts = none) : sureR ts base = (0, 5) := by
  unfold sureR
  rw [if_pos h1, if_pos h2, h3]
theorem sureR_some {ts : List Int} {base : Int} {a b : Int × Int} (h1 : termsB ts = true) (h2 : inR base 2 36 = true) (h3 : bdS ts = some (a, b)) : sureR ts base = if a.1 / a.2 = b.1 / b.2 then ((cmT (dgF base a.2 (a.1 % a.2) 60) (dgF base b.2 (b.1 % b.2) 60) : Int), 0) else (-1, 0) := by
  unfold sureR
  rw [if_pos h1, if_pos h2, h3]
set_option maxHeartbeats 4000000 in
theorem iSureDigits_any (A : Option Addr) (c : Nat) (ts : List Int) (base : Int) (w : World) (hx : RdC w w.heap.size A c ts) (hm : ts.length ≤ 1000) :
    Calls Tryz.prog 15 #[.slice A ts.length c, .int .i64 base] w fun e w' => e = .returned (.tuple #[.int .i64 (sureR ts base).1, .int .i64 (sureR ts base).2]) ∧ Below w.heap.size w w' := by
  have HV := Lib.hid (ValidTerms_any A c ts w hx (by unfold maxLen; omega))
  have HB := Lib.hid (isBase_any base)
  have hrd := hx.1
  clear hx
  cases h1 : termsB ts
  · have e1 : sureR ts base = (0, 1) := by unfold sureR; rw [h1]; rfl
    rw [e1]
    rw [h1] at HV
    generalize ts.length = n at *
    clear e1
    go_enter Tryz.func15, Tryz.ntmps15
    go_wp2_with fail
    refine HV.out.mono ?_
    rintro e w' ⟨rfl, rfl⟩
    go_wp2
    go_ret2
    exact ⟨rfl, Below.refl _ _⟩
  · cases h2 : inR base 2 36
    · have e1 : sureR ts base = (0, 2) := by unfold sureR; rw [h1, h2]; rfl
      rw [e1]
      rw [h1] at HV
      rw [h2] at HB
      generalize ts.length = n at *
      clear e1
      go_enter Tryz.func15, Tryz.ntmps15
      go_wp2_with fail
      refine HV.out.mono ?_
      rintro e w' ⟨rfl, rfl⟩
      go_wp2_with fail
      refine (HB.out _).mono ?_
      rintro e w' ⟨rfl, rfl⟩
      go_wp2
      go_ret2
      exact ⟨rfl, Below.refl _ _⟩
    · have HBT := Lib.hid (boundsOfTerms_any A c ts w hrd h1)
      rw [h1] at HV
      rw [h2] at HB
      cases h3 : bdS ts with
      | none =>
        rw [sureR_none h1 h2 h3]
        rw [h3] at HBT
        generalize ts.length = n at *
        clear h1 h2 h3 hrd
        go_enter Tryz.func15, Tryz.ntmps15
        go_wp2_with fail
        refine HV.out.mono ?_
        rintro e w' ⟨rfl, rfl⟩
        go_wp2_with fail
        refine (HB.out _).mono ?_
        rintro e w' ⟨rfl, rfl⟩
        go_wp2_with fail
        refine HBT.out.mono ?_
        rintro e w1 ⟨rfl, hb1⟩
        go_wp2
        go_ret2
        exact ⟨rfl, ext_alloc (ext_alloc hb1 _) _⟩
      | some ab =>
        obtain ⟨⟨p1, q1⟩, p2, q2⟩ := ab
        rw [sureR_some h1 h2 h3]
        rw [h3] at HBT
        obtain ⟨k1, k2, _⟩ := bdS_ok h3 (termsB_at h1).1.1
        obtain ⟨f1, f2, f3, f4, _⟩ := fracOk_true.1 k1
        obtain ⟨g1, g2, g3, g4, _⟩ := fracOk_true.1 k2
        obtain ⟨b1, b2⟩ := inR_true.1 h2
        have HF1 := Lib.hid (fun W => fractionDigits_any p1 q1 base 60 W f3 f4 f1 f2 b1 b2 (by omega))
        have HF2 := Lib.hid (fun W => fractionDigits_any p2 q2 base 60 W g3 g4 g1 g2 b1 b2 (by omega))
        have HLX : Hid ((dgF base q1 (p1 % q1) 60).length = 60) := dgF_len _ _ _ _
        have HLY : Hid ((dgF base q2 (p2 % q2) 60).length = 60) := dgF_len _ _ _ _
        dsimp only [Option.getD_some, Option.isSome_some, if_true] at HBT ⊢
        generalize ts.length = n at *
        generalize dgF base q1 (p1 % q1) 60 = xs at *
        generalize dgF base q2 (p2 % q2) 60 = ys at *
        clear h1 h2 h3 hrd k1 k2 f1 f2 f3 f4 g1 g2 g3 g4 b1 b2
        generalize p1 / q1 = u at *
        generalize p2 / q2 = v at *
        by_cases huv : u = v
        · rw [if_pos huv]
          have hne : (u != v) = false := by simpa using huv
          clear huv
          go_enter Tryz.func15, Tryz.ntmps15
          go_wp2_with fail
          refine HV.out.mono ?_
          rintro e w' ⟨rfl, rfl⟩
          go_wp2_with fail
          refine (HB.out _).mono ?_
          rintro e w' ⟨rfl, rfl⟩
          go_wp2_with fail
          refine HBT.out.mono ?_
          rintro e w1 ⟨rfl, hb1⟩
          have T := Lib.hid (ext_alloc (ext_alloc hb1 (.cells #[.int .i64 p1, .int .i64 q1] 34)) (.cells #[.int .i64 p2, .int .i64 q2] 34))
          have X1 := Lib.hid ((B2.new w1 p1 q1 34).next (ext1 _ (.cells #[.int .i64 p2, .int .i64 q2] 34)))
          have X2 := Lib.hid (B2.new_at (g := w1.heap.size + 1) (W := w1.alloc (.cells #[.int .i64 p1, .int .i64 q1] 34)) p2 q2 34 (by simp))
          clear hb1
          go_upto_region 8 with fail
          generalize (w1.alloc (.cells #[.int .i64 p1, .int .i64 q1] 34)).alloc (.cells #[.int .i64 p2, .int .i64 q2] 34) = W1 at *
          generalize w1.heap.size + 1 = h2 at *
          generalize w1.heap.size = h1 at *
          have c60 := X1.out.1
          have c61 := X1.out.2.1
          have c70 := X2.out.1
          have c71 := X2.out.2.1
          go_wp2_with fail
          refine (HF1.out _).mono ?_
          rintro e w2 ⟨A2, c2, rfl, hw2, hb2⟩
          have T := Lib.hid (ext_trans T.out hb2)
          have X1 := Lib.hid (X1.out.next hb2)
          have X2 := Lib.hid (X2.out.next hb2)
          have HX := Lib.hid hw2
          clear hw2 hb2
          clear c60 c61 c70 c71
          have c60 := X1.out.1
          have c61 := X1.out.2.1
          have c70 := X2.out.1
          have c71 := X2.out.2.1
          go_wp2_with fail
          refine (HF2.out _).mono ?_
          rintro e w3 ⟨A3, c3, rfl, hw3, hb3⟩
          have T := Lib.hid (ext_trans T.out hb3)
          have HY := Lib.hid hw3
          have HY2 := Lib.hid hb3
          clear hw3 hb3 X1 X2
          clear c60 c61 c70 c71
          go_wp2_with (go_at_call 46; (with_reducible refine (iCommonTerms_any _ _ _ _ xs ys _ ((HX.out.rd.below HY2.out).more HY2.out.size) HY.out.rd (by rw [HLX.out]; omega) (by rw [HLY.out]; omega)).mono ?_); rintro e w5 ⟨rfl, hb5⟩; have T := Lib.hid (ext_trans T.out hb5))
          go_ret2
          exact ⟨rfl, T.out⟩
        · rw [if_neg huv]
          have hne : (u != v) = true := by simpa using huv
          clear huv
          go_enter Tryz.func15, Tryz.ntmps15
          go_wp2_with fail
          refine HV.out.mono ?_
          rintro e w' ⟨rfl, rfl⟩
          go_wp2_with fail
          refine (HB.out _).mono ?_
          rintro e w' ⟨rfl, rfl⟩
          go_wp2_with fail
          refine HBT.out.mono ?_
          rintro e w1 ⟨rfl, hb1⟩
          have T := Lib.hid (ext_alloc (ext_alloc hb1 (.cells #[.int .i64 p1, .int .i64 q1] 34)) (.cells #[.int .i64 p2, .int .i64 q2] 34))
          have X1 := Lib.hid ((B2.new w1 p1 q1 34).next (ext1 _ (.cells #[.int .i64 p2, .int .i64 q2] 34)))
          have X2 := Lib.hid (B2.new_at (g := w1.heap.size + 1) (W := w1.alloc (.cells #[.int .i64 p1, .int .i64 q1] 34)) p2 q2 34 (by simp))
          clear hb1
          go_upto_region 8 with fail
          generalize (w1.alloc (.cells #[.int .i64 p1, .int .i64 q1] 34)).alloc (.cells #[.int .i64 p2, .int .i64 q2] 34) = W1 at *
          generalize w1.heap.size + 1 = h2 at *
          generalize w1.heap.size = h1 at *
          have c60 := X1.out.1
          have c61 := X1.out.2.1
          have c70 := X2.out.1
          have c71 := X2.out.2.1
          go_wp2_with fail
          refine (HF1.out _).mono ?_
          rintro e w2 ⟨A2, c2, rfl, hw2, hb2⟩
          have T := Lib.hid (ext_trans T.out hb2)
          have X1 := Lib.hid (X1.out.next hb2)
          have X2 := Lib.hid (X2.out.next hb2)
          have HX := Lib.hid hw2
          clear hw2 hb2
          clear c60 c61 c70 c71
          have c60 := X1.out.1
          have c61 := X1.out.2.1
          have c70 := X2.out.1
          have c71 := X2.out.2.1
          go_wp2_with fail
          refine (HF2.out _).mono ?_
          rintro e w3 ⟨A3, c3, rfl, hw3, hb3⟩
          have T := Lib.hid (ext_trans T.out hb3)
          have HY := Lib.hid hw3
          have HY2 := Lib.hid hb3
          clear hw3 hb3 X1 X2
          clear c60 c61 c70 c71
          go_wp2
          go_ret2
          exact ⟨rfl, T.out⟩
set_option maxHeartbeats 4000000 in
theorem sSureDigits_any (A : Option Addr) (c : Nat) (ts : List Int) (base : Int) (w : World) (hx : Rd (Value.int .i64) w w.heap.size A ts) (hm : ts.length ≤ 1000) :
    Calls Tryz.prog 16 #[.slice A ts.length c, .int .i64 base] w fun e w' => e = .returned (.tuple #[.int .i64 (sureR ts base).1, .int .i64 (sureR ts base).2]) ∧ Below w.heap.size w w' := by
  have HV : Hid (∀ W, w = W → Calls Tryz.prog 47 #[.slice A ts.length c] W fun e w' => e = .returned (.bool (termsB ts)) ∧ W = w') := fun W h => by
    subst h; exact l03Ok_any A c ts w hx (by unfold maxLen; omega)
  have HV := Lib.hid (HV.out _ rfl)
  have HB := Lib.hid (l16Base_any base)
  cases h1 : termsB ts
  · have e1 : sureR ts base = (0, 1) := by unfold sureR; rw [h1]; rfl
    rw [e1]
    rw [h1] at HV
    generalize ts.length = n at *
    clear e1 hx
    go_enter Tryz.func16, Tryz.ntmps16
    go_wp2_with fail
    refine HV.out.mono ?_
    rintro e w' ⟨rfl, rfl⟩
    go_wp2
    go_ret2
    exact ⟨rfl, Below.refl _ _⟩
  · cases h2 : inR base 2 36
    · have e1 : sureR ts base = (0, 2) := by unfold sureR; rw [h1, h2]; rfl
      rw [e1]
      rw [h1] at HV
      rw [h2] at HB
      generalize ts.length = n at *
      clear e1 hx
      go_enter Tryz.func16, Tryz.ntmps16
      go_wp2_with fail
      refine HV.out.mono ?_
      rintro e w' ⟨rfl, rfl⟩
      go_wp2_with fail
      refine (HB.out _).mono ?_
      rintro e w' ⟨rfl, rfl⟩
      go_wp2
      go_ret2
      exact ⟨rfl, Below.refl _ _⟩
    · have HBT := Lib.hid (l16Bounds_any A c ts w hx h1)
      rw [h1] at HV
      rw [h2] at HB
      cases h3 : bdS ts with
      | none =>
        rw [sureR_none h1 h2 h3]
        rw [h3] at HBT
        generalize ts.length = n at *
        clear h1 h2 h3 hx
        go_enter Tryz.func16, Tryz.ntmps16
        go_wp2_with fail
        refine HV.out.mono ?_
        rintro e w' ⟨rfl, rfl⟩
        go_wp2_with fail
        refine (HB.out _).mono ?_
        rintro e w' ⟨rfl, rfl⟩
        go_wp2_with fail
        refine HBT.out.mono ?_
        rintro e w1 ⟨rfl, hb1⟩
        go_wp2
        go_ret2
        exact ⟨rfl, ext_alloc (ext_alloc hb1 _) _⟩
      | some ab =>
        obtain ⟨⟨p1, q1⟩, p2, q2⟩ := ab
        rw [sureR_some h1 h2 h3]
        rw [h3] at HBT
        obtain ⟨k1, k2, _⟩ := bdS_ok h3 (termsB_at h1).1.1
        obtain ⟨f1, f2, f3, f4, _⟩ := fracOk_true.1 k1
        obtain ⟨g1, g2, g3, g4, _⟩ := fracOk_true.1 k2
        obtain ⟨b1, b2⟩ := inR_true.1 h2
        dsimp only at f1 f2 f3 f4 g1 g2 g3 g4
        obtain ⟨u, r, hu, hr, hur, r0, r1⟩ := floor_parts (num := p1) f1
        obtain ⟨v, s, hv, hs, hvs, s0, s1⟩ := floor_parts (num := p2) g1
        have HF1 := Lib.hid (fun W => l16Digits_any r q1 base 60 W f1 f2 r0 r1 b1 b2 (by omega))
        have HF2 := Lib.hid (fun W => l16Digits_any s q2 base 60 W g1 g2 s0 s1 b1 b2 (by omega))
        have HQ1 := Lib.hid (fun W : World => l02Floor_any p1 q1 W (by omega) (by omega) f1 (by omega))
        have HQ2 := Lib.hid (fun W : World => l02Floor_any p2 q2 W (by omega) (by omega) g1 (by omega))
        dsimp only [Option.getD_some, Option.isSome_some] at HBT ⊢
        rw [hu] at HQ1 ⊢
        rw [hv] at HQ2 ⊢
        rw [hr, hs]
        have HLX : Hid ((dgF base q1 r 60).length = 60) := dgF_len _ _ _ _
        have HLY : Hid ((dgF base q2 s 60).length = 60) := dgF_len _ _ _ _
        have t1 : -3000000000 ≤ u * q1 ∧ u * q1 ≤ 3000000000 := by omega
        have t2 : -3000000000 ≤ v * q2 ∧ v * q2 ≤ 3000000000 := by omega
        obtain ⟨t1, t3⟩ := t1
        obtain ⟨t2, t4⟩ := t2
        generalize ts.length = n at *
        generalize dgF base q1 r 60 = xs at *
        generalize dgF base q2 s 60 = ys at *
        clear h1 h2 h3 hx k1 k2 b1 b2 hu hv hr hs
        by_cases huv : u = v
        · rw [if_pos huv]
          have hne : (u != v) = false := by simpa using huv
          have HVS : Hid (p2 - u * q2 = s) := by unfold Hid; rw [huv]; exact hvs
          have HUR := Lib.hid hur
          rw [← huv] at t2 t4 HQ2
          clear hvs hur
          subst huv
          go_enter Tryz.func16, Tryz.ntmps16
          go_wp2_with fail
          refine HV.out.mono ?_
          rintro e w' ⟨rfl, rfl⟩
          go_wp2_with fail
          refine (HB.out _).mono ?_
          rintro e w' ⟨rfl, rfl⟩
          go_wp2_with fail
          refine HBT.out.mono ?_
          rintro e w1 ⟨rfl, hb1⟩
          have T := Lib.hid (ext_alloc (ext_alloc hb1 (.cells #[.int .i64 p1, .int .i64 q1] 34)) (.cells #[.int .i64 p2, .int .i64 q2] 34))
          have X1 := Lib.hid ((B2.new w1 p1 q1 34).next (ext1 _ (.cells #[.int .i64 p2, .int .i64 q2] 34)))
          have X2 := Lib.hid (B2.new_at (g := w1.heap.size + 1) (W := w1.alloc (.cells #[.int .i64 p1, .int .i64 q1] 34)) p2 q2 34 (by simp))
          clear hb1
          go_upto_region 8 with fail
          generalize (w1.alloc (.cells #[.int .i64 p1, .int .i64 q1] 34)).alloc (.cells #[.int .i64 p2, .int .i64 q2] 34) = W1 at *
          generalize w1.heap.size + 1 = h2 at *
          generalize w1.heap.size = h1 at *
          have c60 := X1.out.1
          have c61 := X1.out.2.1
          have c70 := X2.out.1
          have c71 := X2.out.2.1
          go_wp2_with (first | (go_at_call 41; first | ((with_reducible refine (HQ1.out _).mono ?_); rintro e w' ⟨rfl, rfl⟩) | ((with_reducible refine (HQ2.out _).mono ?_); rintro e w' ⟨rfl, rfl⟩)))
          rw [HUR.out]
          refine (HF1.out _).mono ?_
          rintro e w2 ⟨A2, c2, rfl, hw2, hb2⟩
          have T := Lib.hid (ext_trans T.out hb2)
          have X1 := Lib.hid (X1.out.next hb2)
          have X2 := Lib.hid (X2.out.next hb2)
          obtain ⟨_, A2', c2', e2, hx2⟩ := Wr.of_own hw2
          injection e2 with e2 e3 e4
          subst e2 e4
          have HX := Lib.hid hx2
          clear hw2 hb2 hx2 e3
          clear c60 c61 c70 c71
          have c60 := X1.out.1
          have c61 := X1.out.2.1
          have c70 := X2.out.1
          have c71 := X2.out.2.1
          go_wp2_with fail
          rw [HVS.out]
          refine (HF2.out _).mono ?_
          rintro e w3 ⟨A3, c3, rfl, hw3, hb3⟩
          have T := Lib.hid (ext_trans T.out hb3)
          have HY2 := Lib.hid hb3
          obtain ⟨_, A3', c3', e2, hx3⟩ := Wr.of_own hw3
          injection e2 with e2 e3 e4
          subst e2 e4
          have HY := Lib.hid hx3
          clear hw3 hb3 hx3 e3 X1 X2
          clear c60 c61 c70 c71
          go_wp2_with (go_at_call 49; (with_reducible refine (sCommonTerms_any _ _ _ _ xs ys _ ((HX.out.rd.below HY2.out).more HY2.out.size) HY.out.rd (by rw [HLX.out]; omega) (by rw [HLY.out]; omega)).mono ?_); rintro e w5 ⟨rfl, hb5⟩; have T := Lib.hid (ext_trans T.out hb5))
          go_ret2
          exact ⟨rfl, T.out⟩
        · rw [if_neg huv]
          have hne : (u != v) = true := by simpa using huv
          clear huv hvs hur
          go_enter Tryz.func16, Tryz.ntmps16
          go_wp2_with fail
          refine HV.out.mono ?_
          rintro e w' ⟨rfl, rfl⟩
          go_wp2_with fail
          refine (HB.out _).mono ?_
          rintro e w' ⟨rfl, rfl⟩
          go_wp2_with fail
          refine HBT.out.mono ?_
          rintro e w1 ⟨rfl, hb1⟩
          have T := Lib.hid (ext_alloc (ext_alloc hb1 (.cells #[.int .i64 p1, .int .i64 q1] 34)) (.cells #[.int .i64 p2, .int .i64 q2] 34))
          have X1 := Lib.hid ((B2.new w1 p1 q1 34).next (ext1 _ (.cells #[.int .i64 p2, .int .i64 q2] 34)))
          have X2 := Lib.hid (B2.new_at (g := w1.heap.size + 1) (W := w1.alloc (.cells #[.int .i64 p1, .int .i64 q1] 34)) p2 q2 34 (by simp))
          clear hb1
          go_upto_region 8 with fail
          generalize (w1.alloc (.cells #[.int .i64 p1, .int .i64 q1] 34)).alloc (.cells #[.int .i64 p2, .int .i64 q2] 34) = W1 at *
          generalize w1.heap.size + 1 = h2 at *
          generalize w1.heap.size = h1 at *
          have c60 := X1.out.1
          have c61 := X1.out.2.1
          have c70 := X2.out.1
          have c71 := X2.out.2.1
          go_wp2_with (first | (go_at_call 41; first | ((with_reducible refine (HQ1.out _).mono ?_); rintro e w' ⟨rfl, rfl⟩) | ((with_reducible refine (HQ2.out _).mono ?_); rintro e w' ⟨rfl, rfl⟩)))
          go_ret2
          exact ⟨rfl, T.out⟩
end Go.Proofs.YtjgafjbccfjojaaGreat
namespace Go.Proofs.YtjgafjbccfjojaaGreat
open Go.RowKit Go.Sort
/-- The code of the convergents of terms, and they. -/
def cvC (ts : List Int) : Int := if termsB ts = true then (if (convs ts).isSome = true then 0 else 5) else 1
def cvL (ts : List Int) : List (Int × Int) := if termsB ts = true then (convs ts).getD [] else []
def vlF (ts : List Int) : Int × Int := if cvC ts = 0 then lastF (cvL ts) else (0, 0)
theorem cvC_zero {ts : List Int} (h : cvC ts = 0) : termsB ts = true ∧ convs ts = some (cvL ts) ∧ (cvL ts).length = ts.length := by
  unfold cvC at h
  split at h
  · rename_i h1
    split at h
    · rename_i h2
      obtain ⟨R, hR⟩ := Option.isSome_iff_exists.1 h2
      have e : cvL ts = R := by unfold cvL; rw [if_pos h1, hR]; rfl
      rw [e]
      exact ⟨h1, hR, (convs_len hR).1⟩
    · omega
  · omega
/-- What returns a slice of fractions and a code. -/
def RetCc (w : World) (R : List (Int × Int)) (c : Int) (e : Ending) (w' : World) : Prop :=
  ∃ A k, e = .returned (.tuple #[.slice A R.length k, .int .i64 c]) ∧ Wr (Value.int .i64) w' w.heap.size A (frL R) ∧ Below w.heap.size w w'
set_option maxHeartbeats 1000000 in
theorem ConvergentsOf_any (A : Option Addr) (c : Nat) (ts : List Int) (w : World) (hx : RdC w w.heap.size A c ts) (hm : ts.length ≤ 1000) :
    Calls Tryz.prog 50 #[.slice A ts.length c] w (RetCc w (cvL ts) (cvC ts)) := by
  have HV := Lib.hid (ValidTerms_any A c ts w hx (by unfold maxLen; omega))
  cases h1 : termsB ts
  · have e1 : cvL ts = [] := by unfold cvL; rw [h1]; rfl
    have e2 : cvC ts = 1 := by unfold cvC; rw [h1]; rfl
    rw [e1, e2]
    rw [h1] at HV
    generalize ts.length = n at *
    clear e1 e2 hx h1
    go_enter Tryz.func50, Tryz.ntmps50
    go_wp2_with fail
    refine HV.out.mono ?_
    rintro e w' ⟨rfl, rfl⟩
    go_wp2
    go_ret2
    exact ⟨none, 0, rfl, fun h => absurd h (by simp [frL]), Below.refl _ _⟩
  · have HC := Lib.hid (convergents_any A c ts w hx.1 (by omega) (termsB_at h1).2)
    rw [h1] at HV
    cases h2 : convs ts with
    | none =>
      have e1 : cvL ts = [] := by unfold cvL; rw [h1, h2]; rfl
      have e2 : cvC ts = 5 := by unfold cvC; rw [h1, h2]; rfl
      rw [e1, e2]
      rw [h2] at HC
      generalize ts.length = n at *
      clear e1 e2 hx h1 h2
      go_enter Tryz.func50, Tryz.ntmps50
      go_wp2_with fail
      refine HV.out.mono ?_
      rintro e w' ⟨rfl, rfl⟩
      go_wp2_with fail
      refine HC.out.mono ?_
      rintro e w1 ⟨A1, c1, rfl, hw1, hb1⟩
      clear hw1
      go_wp2
      go_ret2
      exact ⟨none, 0, rfl, fun h => absurd h (by simp [frL]), hb1⟩
    | some R =>
      have e1 : cvL ts = R := by unfold cvL; rw [h1, h2]; rfl
      have e2 : cvC ts = 0 := by unfold cvC; rw [h1, h2]; rfl
      rw [e1, e2]
      rw [h2] at HC
      generalize ts.length = n at *
      clear e1 e2 hx h1 h2
      go_enter Tryz.func50, Tryz.ntmps50
      go_wp2_with fail
      refine HV.out.mono ?_
      rintro e w' ⟨rfl, rfl⟩
      go_wp2_with fail
      refine HC.out.mono ?_
      rintro e w1 ⟨A1, c1, rfl, hw1, hb1⟩
      have HW := Lib.hid hw1
      clear hw1
      go_wp2
      go_ret2
      exact ⟨A1, c1, rfl, HW.out, hb1⟩
set_option maxHeartbeats 1000000 in
theorem ValueOfTerms_any (A : Option Addr) (c : Nat) (ts : List Int) (w : World) (hx : RdC w w.heap.size A c ts) (hm : ts.length ≤ 1000) :
    Calls Tryz.prog 18 #[.slice A ts.length c] w fun e w' => e = .returned (.tuple #[fracV (vlF ts).1 (vlF ts).2, .int .i64 (cvC ts)]) ∧ Below w.heap.size w w' := by
  have HC := Lib.hid (ConvergentsOf_any A c ts _ ⟨(hx.1.below (ext1 w (.cells #[.int .i64 0, .int .i64 0] 34))).more (by simp), hx.2⟩ hm)
  have X0 := Lib.hid (B2.new w 0 0 34)
  have T0 := Lib.hid (ext1 w (.cells #[.int .i64 0, .int .i64 0] 34))
  clear hx
  by_cases h0 : cvC ts = 0
  · obtain ⟨h1, h2, h3⟩ := cvC_zero h0
    have h4 := (termsB_at h1).1
    obtain ⟨m, hm2⟩ : ∃ m, ts.length = m + 1 := ⟨ts.length - 1, by omega⟩
    rw [show vlF ts = lastF (cvL ts) from if_pos h0]
    rw [h0] at HC ⊢
    rw [hm2] at h3 HC ⊢
    have g1 : (cvL ts)[m]? = some (lastF (cvL ts)) := by
      unfold lastF
      rw [h3, show m + 1 - 1 = m by omega, List.getD_eq_getElem?_getD, List.getElem?_eq_getElem (by omega)]; rfl
    obtain ⟨g10, g11⟩ := frL_get g1
    have HN := Lib.hid h3
    have G10 := Lib.hid g10
    have G11 := Lib.hid g11
    have i1 : (m : Int) + 1 ≤ 60 := by omega
    have i2 : m + 1 ≤ 60 := by omega
    clear g1 h0 h1 h2 h3 g10 g11 hm2 hm
    have i4 : (0 : Int) ≤ (m : Int) := by omega
    have i5 : (m : Int) < (m : Int) + 1 := by omega
    have i6 : m < m + 1 := by omega
    clear h4
    generalize lastF (cvL ts) = x at *
    obtain ⟨p, q⟩ := x
    dsimp only at G10 G11 ⊢
    go_enter Tryz.func18, Tryz.ntmps18
    go_wp2_with fail
    refine HC.out.mono ?_
    rintro e w1 ⟨A1, c1, rfl, hw1, hb1⟩
    rw [HN.out]
    have T := Lib.hid (ext_trans T0.out hb1)
    have X := Lib.hid (X0.out.next hb1)
    obtain ⟨b2, off2, rfl, _, hlt2, hc2, _⟩ := hw1 (by rw [frL_length, HN.out]; omega)
    have u0 := hc2 _ _ G10.out
    have u1 := hc2 _ _ G11.out
    rw [← Nat.add_assoc] at u1
    clear hw1 hc2 hb1 X0 T0
    obtain ⟨r0, r1, rf, _⟩ := X.out
    obtain ⟨s0, s1⟩ := set_two r0 r1
    have rf0 := rf 0
    have rf1 := rf 1
    clear rf
    go_wp2
    refine bodyPost_ret (v := .tuple #[fracV p q, .int .i64 0]) ?_ rfl ⟨rfl, ext_set (ext_set T.out (Nat.le_refl _) _) (Nat.le_refl _) _⟩
    simp [results, Tryz.results18, go_sem, s0, s1]
  · rw [show vlF ts = (0, 0) from if_neg h0]
    have hne : (cvC ts != 0) = true := by simpa using h0
    generalize cvC ts = k at *
    generalize ts.length = n at *
    generalize cvL ts = R at *
    clear h0
    go_enter Tryz.func18, Tryz.ntmps18
    go_wp2_with fail
    refine HC.out.mono ?_
    rintro e w1 ⟨A1, c1, rfl, hw1, hb1⟩
    have T := Lib.hid (ext_trans T0.out hb1)
    have X := Lib.hid (X0.out.next hb1)
    clear hw1 hb1 X0 T0
    obtain ⟨r0, r1, rf, _⟩ := X.out
    obtain ⟨s0, s1⟩ := set_two r0 r1
    have rf0 := rf 0
    have rf1 := rf 1
    clear rf
    go_wp2
    refine bodyPost_ret (v := .tuple #[fracV 0 0, .int .i64 k]) ?_ rfl ⟨rfl, ext_set (ext_set T.out (Nat.le_refl _) _) (Nat.le_refl _) _⟩
    simp [results, Tryz.results18, go_sem, s0, s1]
set_option maxHeartbeats 1000000 in
theorem BoundsOfTerms_ok (A : Option Addr) (c : Nat) (ts : List Int) (p1 q1 p2 q2 : Int) (w : World) (hx : RdC w w.heap.size A c ts) (hm : ts.length ≤ 1000) (ht : termsB ts = true) (hb : bdS ts = some ((p1, q1), (p2, q2))) :
    Calls Tryz.prog 19 #[.slice A ts.length c] w fun e w' => e = .returned (.tuple #[fracV p1 q1, fracV p2 q2, .int .i64 0]) ∧ Below w.heap.size w w' := by
  have T0 := Lib.hid (BW.start w 34 34)
  have hx2 : RdC ((w.alloc (.cells #[.int .i64 0, .int .i64 0] 34)).alloc (.cells #[.int .i64 0, .int .i64 0] 34)) ((w.alloc (.cells #[.int .i64 0, .int .i64 0] 34)).alloc (.cells #[.int .i64 0, .int .i64 0] 34)).heap.size A c ts := ⟨(hx.1.below T0.out.e).more T0.out.e.size, hx.2⟩
  have HV := Lib.hid (ValidTerms_any A c ts _ hx2 (by unfold maxLen; omega))
  have HB := Lib.hid (boundsOfTerms_any A c ts _ hx2.1 ht)
  rw [ht] at HV
  rw [hb] at HB
  dsimp only [Option.getD_some, Option.isSome_some] at HB
  clear hx hx2 ht hb
  generalize ts.length = n at *
  go_enter Tryz.func19, Tryz.ntmps19
  go_wp2_with fail
  refine HV.out.mono ?_
  rintro e w' ⟨rfl, rfl⟩
  go_wp2_with fail
  refine HB.out.mono ?_
  rintro e w1 ⟨rfl, hb1⟩
  have T := Lib.hid (T0.out.next hb1)
  obtain ⟨r0, r1, rf, _⟩ := T.out.x
  obtain ⟨y0, y1, yf, _⟩ := T.out.y
  have rf0 := rf 0
  have rf1 := rf 1
  have yf0 := yf 0
  have yf1 := yf 1
  clear rf yf hb1 T0
  have F1 := Lib.hid (T.out.fin p1 q1 p2 q2).1
  go_wp2
  refine bodyPost_ret (v := .tuple #[fracV p1 q1, fracV p2 q2, .int .i64 0]) ?_ rfl ⟨rfl, F1.out.2.2⟩
  obtain ⟨⟨z1, z2, _, _⟩, ⟨z3, z4, _, _⟩, _⟩ := F1.out
  simp [results, Tryz.results19, go_sem, z1, z2, z3, z4]
end Go.Proofs.YtjgafjbccfjojaaGreat
namespace Go.Proofs.YtjgafjbccfjojaaGreat
open Go.RowKit Go.Sort
/-- The square root, rounded down. -/
def rt : Nat → Nat
  | 0 => 0
  | n + 1 => if (rt n + 1) * (rt n + 1) ≤ n + 1 then rt n + 1 else rt n
theorem rt_spec : ∀ n : Nat, rt n * rt n ≤ n ∧ n < (rt n + 1) * (rt n + 1)
  | 0 => by simp [rt]
  | n + 1 => by
    obtain ⟨h1, h2⟩ := rt_spec n
    unfold rt
    generalize rt n = r at *
    split
    · rename_i h
      refine ⟨h, ?_⟩
      have e : (r + 1 + 1) * (r + 1 + 1) = (r + 1) * (r + 1) + 2 * r + 3 := by
        rw [Nat.add_mul (r + 1) 1, Nat.mul_add (r + 1) (r + 1) 1]; omega
      omega
    · exact ⟨by omega, by omega⟩
def rtI (n : Int) : Int := (rt n.toNat : Int)
/-- r is n's root. -/
def IsRt (n r : Int) : Prop := 0 ≤ r ∧ r * r ≤ n ∧ n < (r + 1) * (r + 1)
theorem rtI_is {n : Int} (h : 0 ≤ n) : IsRt n (rtI n) := by
  obtain ⟨m, rfl⟩ := Int.eq_ofNat_of_zero_le h
  obtain ⟨h1, h2⟩ := rt_spec m
  unfold rtI
  rw [Int.toNat_natCast]
  refine ⟨Int.natCast_nonneg _, ?_, ?_⟩
  · exact_mod_cast h1
  · exact_mod_cast h2
theorem sq_mono {a b : Int} (h0 : 0 ≤ a) (h : a ≤ b) : a * a ≤ b * b := Int.mul_le_mul h h h0 (by omega)
theorem IsRt.uniq {n r s : Int} (h : IsRt n r) (k : IsRt n s) : r = s := by
  obtain ⟨a1, a2, a3⟩ := h
  obtain ⟨b1, b2, b3⟩ := k
  rcases Int.lt_trichotomy r s with g | g | g
  · have := sq_mono (a := r + 1) (b := s) (by omega) (by omega); omega
  · exact g
  · have := sq_mono (a := s + 1) (b := r) (by omega) (by omega); omega
theorem l07Root_any (n : Int) (w : World) (h0 : 0 ≤ n) (h1 : n ≤ 1000000000000000000) :
    Calls Tryz.prog 104 #[.int .i64 n] w fun e w' => e = .returned (.int .i64 (rtI n)) ∧ w = w' := by
  have HR := Lib.hid (rtI_is h0)
  generalize rtI n = R at *
  go_enter Tryz.func104, Tryz.ntmps104
  go_wp2_with fail
  go_loop [3, 4] (fun s t => ∃ l h : Int, s = .int .i64 l ∧ t = .int .i64 h ∧ 0 ≤ l ∧ l < h ∧ h ≤ 1000000001 ∧ Hid (l * l ≤ n ∧ n < h * h)) (fun s t => (intOf t - intOf s).toNat)
  case atStart => exact ⟨0, 1000000001, rfl, rfl, by omega, by omega, by omega, by omega, by omega⟩
  case round =>
    obtain ⟨l, h, rfl, rfl, l0, lh, h1', HL⟩ := hrel
    by_cases hlt : 1 < h - l
    · obtain ⟨m, hm⟩ : ∃ m, (l + h) / 2 = m := ⟨_, rfl⟩
      have m1 : l < m ∧ m < h := by omega
      obtain ⟨m1, m2⟩ := m1
      have m3 : 0 ≤ m * m ∧ m * m ≤ 1000000001 * 1000000001 := ⟨Int.mul_nonneg (by omega) (by omega), Int.mul_le_mul (by omega) (by omega) (by omega) (by omega)⟩
      obtain ⟨m3, m4⟩ := m3
      by_cases hc : m * m ≤ n
      · have HC := Lib.hid hc
        go_wp2
        go_round
        case rel => exact ⟨m, h, val_int (by omega), rfl, by omega, by omega, by omega, HC.out, HL.out.2⟩
        case measure => simp [intOf]; omega
      · have HC := Lib.hid hc
        go_wp2
        go_round
        case rel => exact ⟨l, m, rfl, val_int (by omega), by omega, by omega, by omega, HL.out.1, by have := HC.out; omega⟩
        case measure => simp [intOf]; omega
    · have e : h = l + 1 := by omega
      have HE : Hid (l = R) := by
        have h2 := HL.out
        rw [e] at h2
        exact IsRt.uniq ⟨l0, h2.1, h2.2⟩ HR.out
      clear e
      go_wp2
      go_ret
      exact ⟨ret_int HE.out, rfl⟩
/-- A number is a square. -/
def sqB (n : Int) : Bool := decide (rtI n * rtI n = n)
theorem rtI_bd {n M : Int} (h0 : 0 ≤ n) (hM : 0 ≤ M) (h : n < M * M) : 0 ≤ rtI n ∧ rtI n < M := by
  obtain ⟨a, b, c⟩ := rtI_is h0
  refine ⟨a, ?_⟩
  rcases Int.lt_or_le (rtI n) M with g | g
  · exact g
  · have := sq_mono hM g; omega
theorem l07Square_any (n : Int) (w : World) (h0 : 0 ≤ n) (h1 : n ≤ 1000000000000000000) :
    Calls Tryz.prog 100 #[.int .i64 n] w fun e w' => e = .returned (.bool (sqB n)) ∧ w = w' := by
  obtain ⟨r1, r2⟩ := rtI_bd (n := n) (M := 1000000001) h0 (by omega) (by omega)
  have HR := Lib.hid (l07Root_any n · h0 h1)
  unfold sqB
  generalize rtI n = r at *
  have m3 : 0 ≤ r * r ∧ r * r ≤ 1000000001 * 1000000001 := ⟨Int.mul_nonneg (by omega) (by omega), Int.mul_le_mul (by omega) (by omega) (by omega) (by omega)⟩
  obtain ⟨m3, m4⟩ := m3
  go_enter Tryz.func100, Tryz.ntmps100
  go_wp2_with fail
  refine (HR.out _).mono ?_
  rintro e w' ⟨rfl, rfl⟩
  go_wp2
  go_ret
  exact ⟨ret_bool (by rw [Bool.eq_iff_iff]; simp), rfl⟩
end Go.Proofs.YtjgafjbccfjojaaGreat
namespace Go.Proofs.YtjgafjbccfjojaaGreat
open Go.RowKit Go.Sort
/-- A name with its terms. -/
structure Nd where
  name : ByteArray
  terms : List Int
instance : Inhabited Nd := ⟨⟨ByteArray.empty, []⟩⟩
section
variable {w w' : World} {B B' : Nat} {T : Option Addr} {c : Nat} {xs : List Int}
end
section
variable {w w' : World} {B B' : Nat} {A : Option Addr} {xs : List Nd}
end
section
variable {w w' : World} {B B' : Nat} {A : Option Addr} {xs : List Nd}
end
end Go.Proofs.YtjgafjbccfjojaaGreat
namespace Go.Proofs.YtjgafjbccfjojaaGreat
open Go.RowKit Go.Sort
/-- A note. -/
structure Nt where
  name : ByteArray
  kind : Int
  num : Int
  den : Int
  terms : List Int
  sp : Int
  sd : Int
  sq : Int
instance : Inhabited Nt := ⟨⟨ByteArray.empty, 0, 0, 0, [], 0, 0, 0⟩⟩
@[reducible] def surdV (p d q : Int) : Value := .agg #[.int .i64 p, .int .i64 d, .int .i64 q]
section
variable {w w' : World} {B B' : Nat} {A : Option Addr} {xs : List Nt}
end
end Go.Proofs.YtjgafjbccfjojaaGreat
namespace Go.Proofs.YtjgafjbccfjojaaGreat
open Go.RowKit Go.Sort
def surdB (p d q : Int) : Bool := inR d 2 1000000 && (!sqB d && (inR p (-1000000) 1000000 && (inR q (-1000000) 1000000 && (!decide (q = 0) && decide ((d - p * p).tmod q = 0)))))
theorem surdB_true {p d q : Int} : surdB p d q = true ↔ (2 ≤ d ∧ d ≤ 1000000) ∧ sqB d = false ∧ (-1000000 ≤ p ∧ p ≤ 1000000) ∧ (-1000000 ≤ q ∧ q ≤ 1000000) ∧ q ≠ 0 ∧ (d - p * p).tmod q = 0 := by
  simp [surdB, inR]
theorem sq_bd {p : Int} (h : inR p (-1000000) 1000000 = true) : 0 ≤ p * p ∧ p * p ≤ 1000000000000 := by
  obtain ⟨h1, h2⟩ := inR_true.1 h
  rcases Int.le_total 0 p with g | g
  · exact ⟨Int.mul_nonneg g g, Int.le_trans (Int.mul_le_mul h2 h2 g (by omega)) (by omega)⟩
  · have e : p * p = (-p) * (-p) := by rw [Int.neg_mul_neg]
    rw [e]
    exact ⟨Int.mul_nonneg (by omega) (by omega), Int.le_trans (Int.mul_le_mul (show -p ≤ 1000000 by omega) (show -p ≤ 1000000 by omega) (by omega) (by omega)) (by omega)⟩
set_option maxHeartbeats 2000000 in
theorem l07Ok_any (p d q : Int) (w : World) :
    Calls Tryz.prog 98 #[surdV p d q] w fun e w' => e = .returned (.bool (surdB p d q)) ∧ Below w.heap.size w w' := by
  unfold surdV surdB
  cases h1 : inR d 2 1000000
  · simp only [Bool.false_and]
    go_enter Tryz.func98, Tryz.ntmps98
    go_wp2_with (go_at_call 40; refine (l00In_any _ _ _ _).mono ?_; rintro e w' ⟨rfl, rfl⟩)
    go_ret
    exact ⟨rfl, ext1 _ _⟩
  · obtain ⟨d1, d2⟩ := inR_true.1 h1
    cases hp : inR p (-1000000) 1000000
    · simp only [Bool.false_and, Bool.and_false]
      cases h2 : sqB d
      all_goals
        go_enter Tryz.func98, Tryz.ntmps98
        go_wp2_with (first | (go_at_call 40; refine (l00In_any _ _ _ _).mono ?_; rintro e w' ⟨rfl, rfl⟩) | (go_at_call 100; refine (l07Square_any _ _ (by omega) (by omega)).mono ?_; rintro e w' ⟨rfl, rfl⟩))
        go_ret
        exact ⟨rfl, ext1 _ _⟩
    · obtain ⟨m1, m2⟩ := sq_bd hp
      obtain ⟨p1, p2⟩ := inR_true.1 hp
      cases hq : inR q (-1000000) 1000000
      · simp only [Bool.false_and, Bool.and_false]
        cases h2 : sqB d
        all_goals
          go_enter Tryz.func98, Tryz.ntmps98
          go_wp2_with (first | (go_at_call 40; refine (l00In_any _ _ _ _).mono ?_; rintro e w' ⟨rfl, rfl⟩) | (go_at_call 100; refine (l07Square_any _ _ (by omega) (by omega)).mono ?_; rintro e w' ⟨rfl, rfl⟩))
          go_ret
          exact ⟨rfl, ext1 _ _⟩
      · obtain ⟨q1, q2⟩ := inR_true.1 hq
        by_cases h0 : q = 0
        · subst h0
          simp only [Bool.not_true, decide_true, Bool.false_and, Bool.and_false]
          cases h2 : sqB d
          all_goals
            go_enter Tryz.func98, Tryz.ntmps98
            go_wp2_with (first | (go_at_call 40; refine (l00In_any _ _ _ _).mono ?_; rintro e w' ⟨rfl, rfl⟩) | (go_at_call 100; refine (l07Square_any _ _ (by omega) (by omega)).mono ?_; rintro e w' ⟨rfl, rfl⟩))
            go_ret
            exact ⟨rfl, ext1 _ _⟩
        · have e1 : (q == 0) = false := by simpa using h0
          have e2 : (q != 0) = true := by simpa using h0
          simp only [Bool.true_and, decide_eq_false h0, Bool.not_false]
          cases h2 : sqB d
          · have hr : -1000001000000 < (d - p * p).tmod q ∧ (d - p * p).tmod q < 1000001000000 := by
              have hlt := Int.natAbs_tmod (d - p * p) q
              have := Nat.mod_lt (d - p * p).natAbs (show 0 < q.natAbs by omega)
              omega
            go_enter Tryz.func98, Tryz.ntmps98
            go_wp2_with (first | (go_at_call 40; refine (l00In_any _ _ _ _).mono ?_; rintro e w' ⟨rfl, rfl⟩) | (go_at_call 100; refine (l07Square_any _ _ (by omega) (by omega)).mono ?_; rintro e w' ⟨rfl, rfl⟩))
            go_ret
            exact ⟨ret_bool (by rw [Bool.eq_iff_iff]; simp), ext1 _ _⟩
          · simp only [Bool.not_true, Bool.false_and]
            go_enter Tryz.func98, Tryz.ntmps98
            go_wp2_with (first | (go_at_call 40; refine (l00In_any _ _ _ _).mono ?_; rintro e w' ⟨rfl, rfl⟩) | (go_at_call 100; refine (l07Square_any _ _ (by omega) (by omega)).mono ?_; rintro e w' ⟨rfl, rfl⟩))
            go_ret
            exact ⟨rfl, ext1 _ _⟩
end Go.Proofs.YtjgafjbccfjojaaGreat
