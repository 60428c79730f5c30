/- The reference's bounds of terms: the walk. No condition but those that each theorem names. -/
import Derived.Test.YtjgafjbccfjojaaGreatMgAM
namespace Go.Proofs.YtjgafjbccfjojaaGreat
open Go.RowKit Go.Sort
set_option maxHeartbeats 4000000 in
theorem l16Bounds_any (A : Option Addr) (c : Nat) (ts : List Int) (w : World) (hx : Rd (Value.int .i64) w w.heap.size A ts) (ht : termsB ts = true) :
    Calls Tryz.prog 48 #[.slice A ts.length c] w fun e w' => e = .returned (.tuple #[fracV ((bdS ts).getD ((0, 0), 0, 0)).1.1 ((bdS ts).getD ((0, 0), 0, 0)).1.2, fracV ((bdS ts).getD ((0, 0), 0, 0)).2.1 ((bdS ts).getD ((0, 0), 0, 0)).2.2, .bool (bdS ts).isSome]) ∧ Below w.heap.size w w' := by
  obtain ⟨⟨l1, l2⟩, hbl⟩ := termsB_at ht
  have hinc := incL_ok ht
  obtain ⟨m, hm⟩ : ∃ m, ts.length = m + 1 := ⟨ts.length - 1, by omega⟩
  have HBD : bdS ts = if ts.getD (ts.length - 1) 0 = 1000000000 then none
    else match convs ts, convs (incL ts) with
      | some one, some two => some (ordF (lastF one) (lastF two))
      | _, _ => none := rfl
  have HI : incL ts = ts.set (ts.length - 1) (ts.getD (ts.length - 1) 0 + 1) := rfl
  have hl : ts[ts.length - 1]? = some (ts.getD (ts.length - 1) 0) := by
    rw [List.getD_eq_getElem?_getD, List.getElem?_eq_getElem (by omega)]; rfl
  obtain ⟨z, hz0⟩ : ∃ z, ts.getD (ts.length - 1) 0 = z := ⟨_, rfl⟩
  have hil : (incL ts).length = m + 1 := by simp [incL, hm]
  have e0 : ts.length - 1 = m := by omega
  rw [hz0] at HBD HI hl hinc
  rw [e0] at HI hl
  have HM := Lib.hid hm
  have HIL := Lib.hid hil
  have HL := Lib.hid hl
  replace HI := Lib.hid HI
  obtain ⟨z1, z2⟩ := hbl _ (List.mem_of_getElem? hl)
  have HCL : Hid (∀ W, Below w.heap.size w W → Calls Tryz.prog 29 #[.slice A (m + 1) c] W (RetCap W ts)) := fun W h => by
    have k := l00Own_any A c ts W ((hx.below h).more h.size) (by omega)
    rwa [hm] at k
  have HC1 : Hid (∀ W, Below w.heap.size w W → Calls Tryz.prog 77 #[.slice A (m + 1) c] W (RetCv W (convs ts))) := fun W h => by
    have k := l03Convergents_any A c ts W ((hx.below h).more h.size) (by omega) hbl
    rwa [hm] at k
  have HC2 : Hid (termsB (incL ts) = true → ∀ (B : Option Addr) (d : Nat) (W : World), Rd (Value.int .i64) W W.heap.size B (incL ts) → Calls Tryz.prog 77 #[.slice B (m + 1) d] W (RetCv W (convs (incL ts)))) := fun h B d W hr => by
    have k := l03Convergents_any B d (incL ts) W hr (by omega) (termsB_at h).2
    rwa [hil] at k
  have HO1 : Hid (∀ R, convs ts = some R → R.length = m + 1 ∧ fracOk (lastF R).1 (lastF R).2 = true) := fun R h => ⟨by have := (convs_len h).1; omega, lastF_ok h l1⟩
  have HO2 : Hid (∀ R, convs (incL ts) = some R → R.length = m + 1 ∧ fracOk (lastF R).1 (lastF R).2 = true) := fun R h => ⟨by have := (convs_len h).1; omega, lastF_ok h (by omega)⟩
  have i1 : (0 : Int) ≤ (m : Int) + 1 - 1 := by omega
  have i2 : (m : Int) + 1 ≤ 60 := by omega
  have i3 : m + 1 ≤ 60 := by omega
  rw [HBD, hm]
  rw [hinc] at HC2
  clear HBD hl hbl ht hx hil hz0 e0 hm hinc
  have i4 : (0 : Int) ≤ (m : Int) := by omega
  have i5 : (m : Int) < (m : Int) + 1 := by omega
  have i6 : m < m + 1 := by omega
  have i7 : IntKind.i64.wrap ((m : Int) + 1 - 1) = (m : Int) := by rw [show (m : Int) + 1 - 1 = (m : Int) by omega]; exact IntWalk.i64_in _ (by omega)
  have i8 : IntKind.i64.wrap (m : Int) = (m : Int) := IntWalk.i64_in _ (by omega)
  cases h1 : convs ts with
  | none =>
    rw [h1] at HC1
    have HE : Hid ((if z = 1000000000 then none else (none : Option ((Int × Int) × (Int × Int)))) = none) := by unfold Hid; split <;> rfl
    dsimp only
    rw [HE.out]
    clear HO1 HO2 HC2 HCL
    go_enter Tryz.func48, Tryz.ntmps48
    go_wp2_with fail
    have T0 := Lib.hid (BW.start w 34 34)
    have E0 := Lib.hid (T0.out.e)
    have Z0 : Hid (w.heap.size + 1 < ((w.alloc (.cells #[.int .i64 0, .int .i64 0] 34)).alloc (.cells #[.int .i64 0, .int .i64 0] 34)).heap.size) := by unfold Hid; simp
    refine (HC1.out _ E0.out).mono ?_
    rintro e w2 ⟨A2, c2, rfl, hw2, hb2⟩
    have T := Lib.hid (T0.out.next hb2)
    have HZ : Hid (w.heap.size + 1 < w2.heap.size) := Nat.lt_of_lt_of_le Z0.out hb2.size
    have HW2 := Lib.hid hw2
    clear hw2 hb2 T0 E0 Z0
    clear HW2
    obtain ⟨r0, r1, rf, _⟩ := T.out.x
    obtain ⟨y0, y1, yf, _⟩ := T.out.y
    have rf0 := rf 0
    have rf1 := rf 1
    have yf0 := yf 0
    have yf1 := yf 1
    clear rf yf
    obtain ⟨⟨Q1, Q2, Q3⟩, Q4, Q5, Q6⟩ := T.out.fin 0 0 0 0
    have F1 := Lib.hid Q1
    have F2 := Lib.hid Q2
    have F3 := Lib.hid Q3
    clear Q1 Q2 Q3 Q4 Q5 Q6
    go_wp2
    all_goals
      refine bodyPost_ret (v := .tuple #[fracV 0 0, fracV 0 0, .bool false]) ?_ rfl ⟨rfl, F3.out⟩
      obtain ⟨z1, z2, _, _⟩ := F1.out
      obtain ⟨z3, z4, _, _⟩ := F2.out
      simp [results, Tryz.results48, go_sem, z1, z2, z3, z4]
  | some one =>
    obtain ⟨n1, f1⟩ := HO1.out _ h1
    rw [h1] at HC1
    have g1 : one[m]? = some (lastF one) := by
      unfold lastF
      rw [n1, show m + 1 - 1 = m by omega, List.getD_eq_getElem?_getD, List.getElem?_eq_getElem (by omega)]; rfl
    obtain ⟨g10, g11⟩ := frL_get g1
    have HN1 := Lib.hid n1
    have G10 := Lib.hid g10
    have G11 := Lib.hid g11
    clear g1 h1 n1 g10 g11
    by_cases hz : z = 1000000000
    · rw [if_pos hz]
      generalize lastF one = x1 at *
      obtain ⟨p1, q1⟩ := x1
      dsimp only at G10 G11
      have hz1 : (z == 1000000000) = true := by simpa using hz
      clear HO1 HO2 HC2 hz
      go_enter Tryz.func48, Tryz.ntmps48
      go_wp2_with fail
      have T0 := Lib.hid (BW.start w 34 34)
      have E0 := Lib.hid (T0.out.e)
      have Z0 : Hid (w.heap.size + 1 < ((w.alloc (.cells #[.int .i64 0, .int .i64 0] 34)).alloc (.cells #[.int .i64 0, .int .i64 0] 34)).heap.size) := by unfold Hid; simp
      refine (HC1.out _ E0.out).mono ?_
      rintro e w2 ⟨A2, c2, rfl, hw2, hb2⟩
      have T := Lib.hid (T0.out.next hb2)
      have HZ : Hid (w.heap.size + 1 < w2.heap.size) := Nat.lt_of_lt_of_le Z0.out hb2.size
      have HW2 := Lib.hid hw2
      clear hw2 hb2 T0 E0 Z0
      simp only [Option.getD_some, Option.isSome_some] at HW2 ⊢
      obtain ⟨b2, off2, rfl, _, hlt2, hc2, _⟩ := HW2.out (by rw [frL_length, HN1.out]; omega)
      have u0 := hc2 _ _ G10.out
      have u1 := hc2 _ _ G11.out
      rw [← Nat.add_assoc] at u1
      rw [HN1.out]
      have T := Lib.hid (T.out.next (ext1 w2 (.cells #[.int .i64 p1, .int .i64 q1] 34)))
      have X1 := Lib.hid (B2.new w2 p1 q1 34)
      have hg1 : w.heap.size + 1 < w2.heap.size := HZ.out
      have HLO := Lib.hid (HCL.out _ T.out.e)
      clear HW2 hc2 HZ HCL
      go_wp2_with fail
      generalize w2.heap.size = h1 at *
      refine HLO.out.mono ?_
      rintro e w1 ⟨A1, c1, rfl, hw1, hcc, hb1⟩
      rw [HM.out] at hcc ⊢
      obtain ⟨b1, off, rfl, hbb, hlt, hcx, hfx⟩ := hw1 (by rw [HM.out]; omega)
      have cx := hcx _ _ HL.out
      have fx := hfx (off + m)
      have HBB : Hid (w.heap.size + 1 < b1) := Nat.lt_of_lt_of_le T.out.y.2.2.2 hbb
      have HB1 : Hid (h1 < b1) := Nat.lt_of_lt_of_le X1.out.2.2.2 hbb
      have T := Lib.hid (T.out.next hb1)
      have X1 := Lib.hid (X1.out.next hb1)
      clear hcx hfx HLO u0 u1 hlt2 hbb
      clear hw1 hcc HB1 HBB X1
      obtain ⟨r0, r1, rf, _⟩ := T.out.x
      obtain ⟨y0, y1, yf, _⟩ := T.out.y
      have rf0 := rf 0
      have rf1 := rf 1
      have yf0 := yf 0
      have yf1 := yf 1
      clear rf yf
      obtain ⟨⟨Q1, Q2, Q3⟩, Q4, Q5, Q6⟩ := T.out.fin 0 0 0 0
      have F1 := Lib.hid Q1
      have F2 := Lib.hid Q2
      have F3 := Lib.hid Q3
      clear Q1 Q2 Q3 Q4 Q5 Q6
      go_wp2
      all_goals
        refine bodyPost_ret (v := .tuple #[fracV 0 0, fracV 0 0, .bool false]) ?_ rfl ⟨rfl, F3.out⟩
        obtain ⟨z1, z2, _, _⟩ := F1.out
        obtain ⟨z3, z4, _, _⟩ := F2.out
        simp [results, Tryz.results48, go_sem, z1, z2, z3, z4]
    · rw [if_neg hz]
      have hz1 : (z == 1000000000) = false := by simpa using hz
      have hd : decide (¬ z = 1000000000) = true := by simpa using hz
      rw [hd] at HC2
      replace HC2 := Lib.hid (HC2.out rfl)
      cases h2 : convs (incL ts) with
      | none =>
        rw [h2] at HC2
        dsimp only
        generalize lastF one = x1 at *
        obtain ⟨p1, q1⟩ := x1
        dsimp only at G10 G11
        clear HO1 HO2 hz hd
        go_enter Tryz.func48, Tryz.ntmps48
        go_wp2_with fail
        have T0 := Lib.hid (BW.start w 34 34)
        have E0 := Lib.hid (T0.out.e)
        have Z0 : Hid (w.heap.size + 1 < ((w.alloc (.cells #[.int .i64 0, .int .i64 0] 34)).alloc (.cells #[.int .i64 0, .int .i64 0] 34)).heap.size) := by unfold Hid; simp
        refine (HC1.out _ E0.out).mono ?_
        rintro e w2 ⟨A2, c2, rfl, hw2, hb2⟩
        have T := Lib.hid (T0.out.next hb2)
        have HZ : Hid (w.heap.size + 1 < w2.heap.size) := Nat.lt_of_lt_of_le Z0.out hb2.size
        have HW2 := Lib.hid hw2
        clear hw2 hb2 T0 E0 Z0
        simp only [Option.getD_some, Option.isSome_some] at HW2 ⊢
        obtain ⟨b2, off2, rfl, _, hlt2, hc2, _⟩ := HW2.out (by rw [frL_length, HN1.out]; omega)
        have u0 := hc2 _ _ G10.out
        have u1 := hc2 _ _ G11.out
        rw [← Nat.add_assoc] at u1
        rw [HN1.out]
        have T := Lib.hid (T.out.next (ext1 w2 (.cells #[.int .i64 p1, .int .i64 q1] 34)))
        have X1 := Lib.hid (B2.new w2 p1 q1 34)
        have hg1 : w.heap.size + 1 < w2.heap.size := HZ.out
        have HLO := Lib.hid (HCL.out _ T.out.e)
        clear HW2 hc2 HZ HCL
        go_wp2_with fail
        generalize w2.heap.size = h1 at *
        refine HLO.out.mono ?_
        rintro e w1 ⟨A1, c1, rfl, hw1, hcc, hb1⟩
        rw [HM.out] at hcc ⊢
        obtain ⟨b1, off, rfl, hbb, hlt, hcx, hfx⟩ := hw1 (by rw [HM.out]; omega)
        have cx := hcx _ _ HL.out
        have fx := hfx (off + m)
        have HBB : Hid (w.heap.size + 1 < b1) := Nat.lt_of_lt_of_le T.out.y.2.2.2 hbb
        have HB1 : Hid (h1 < b1) := Nat.lt_of_lt_of_le X1.out.2.2.2 hbb
        have T := Lib.hid (T.out.next hb1)
        have X1 := Lib.hid (X1.out.next hb1)
        clear hcx hfx HLO u0 u1 hlt2 hbb
        have TS := Lib.hid (T.out.setHi (j := off + m) HBB.out (.int .i64 (z + 1)))
        have XS := Lib.hid (X1.out.far (j := off + m) (show h1 ≠ b1 by have := HB1.out; omega) (.int .i64 (z + 1)))
        have HRC : Hid (Rd (Value.int .i64) (w1.setCell ⟨b1, off + m, none⟩ (.int .i64 (z + 1))) (w1.setCell ⟨b1, off + m, none⟩ (.int .i64 (z + 1))).heap.size (some ⟨b1, off, none⟩) (incL ts)) := by
          unfold Hid
          rw [HI.out]
          exact (hw1.setAt (by rw [HM.out]; omega)).rd
        clear T X1 HBB HB1 hw1 hcc
        have T := TS
        have X1 := XS
        clear TS XS
        go_wp2_with fail
        generalize w1.setCell ⟨b1, off + m, none⟩ (.int .i64 (z + 1)) = W1 at *
        refine (HC2.out _ _ _ HRC.out).mono ?_
        rintro e w3 ⟨A3, c3, rfl, hw3, hb3⟩
        have T := Lib.hid (T.out.next hb3)
        have X1 := Lib.hid (X1.out.next hb3)
        have HW3 := Lib.hid hw3
        clear hw3 hb3 HRC
        clear X1 HW3
        obtain ⟨r0, r1, rf, _⟩ := T.out.x
        obtain ⟨y0, y1, yf, _⟩ := T.out.y
        have rf0 := rf 0
        have rf1 := rf 1
        have yf0 := yf 0
        have yf1 := yf 1
        clear rf yf
        obtain ⟨⟨Q1, Q2, Q3⟩, Q4, Q5, Q6⟩ := T.out.fin 0 0 0 0
        have F1 := Lib.hid Q1
        have F2 := Lib.hid Q2
        have F3 := Lib.hid Q3
        clear Q1 Q2 Q3 Q4 Q5 Q6
        go_wp2
        all_goals
          refine bodyPost_ret (v := .tuple #[fracV 0 0, fracV 0 0, .bool false]) ?_ rfl ⟨rfl, F3.out⟩
          obtain ⟨z1, z2, _, _⟩ := F1.out
          obtain ⟨z3, z4, _, _⟩ := F2.out
          simp [results, Tryz.results48, go_sem, z1, z2, z3, z4]
      | some two =>
        obtain ⟨n2, f2⟩ := HO2.out _ h2
        rw [h2] at HC2
        have g2 : two[m]? = some (lastF two) := by
          unfold lastF
          rw [n2, show m + 1 - 1 = m by omega, List.getD_eq_getElem?_getD, List.getElem?_eq_getElem (by omega)]; rfl
        obtain ⟨g20, g21⟩ := frL_get g2
        have HN2 := Lib.hid n2
        have HM1 := Lib.hid (mul18 f1 f2)
        have HM2 := Lib.hid (mul18 f2 f1)
        have G20 := Lib.hid g20
        have G21 := Lib.hid g21
        clear g2 f1 f2 h2 n2 g20 g21 HO1 HO2 hz hd
        dsimp only
        generalize lastF one = x1 at *
        generalize lastF two = x2 at *
        obtain ⟨p1, q1⟩ := x1
        obtain ⟨p2, q2⟩ := x2
        dsimp only at HM1 HM2 G10 G11 G20 G21
        have HCF := Lib.hid (fun W => l02Less_any p2 q2 p1 q1 W HM2.out.1 HM2.out.2 HM1.out.1 HM1.out.2)
        by_cases hlt : p2 * q1 < p1 * q2
        · rw [show ordF (p1, q1) (p2, q2) = ((p2, q2), (p1, q1)) from if_pos hlt]
          have hc3 : decide (p2 * q1 < p1 * q2) = true := by simpa using hlt
          rw [hc3] at HCF
          clear hc3 hlt HM1 HM2
          go_enter Tryz.func48, Tryz.ntmps48
          go_wp2_with fail
          have T0 := Lib.hid (BW.start w 34 34)
          have E0 := Lib.hid (T0.out.e)
          have Z0 : Hid (w.heap.size + 1 < ((w.alloc (.cells #[.int .i64 0, .int .i64 0] 34)).alloc (.cells #[.int .i64 0, .int .i64 0] 34)).heap.size) := by unfold Hid; simp
          refine (HC1.out _ E0.out).mono ?_
          rintro e w2 ⟨A2, c2, rfl, hw2, hb2⟩
          have T := Lib.hid (T0.out.next hb2)
          have HZ : Hid (w.heap.size + 1 < w2.heap.size) := Nat.lt_of_lt_of_le Z0.out hb2.size
          have HW2 := Lib.hid hw2
          clear hw2 hb2 T0 E0 Z0
          simp only [Option.getD_some, Option.isSome_some] at HW2 ⊢
          obtain ⟨b2, off2, rfl, _, hlt2, hc2, _⟩ := HW2.out (by rw [frL_length, HN1.out]; omega)
          have u0 := hc2 _ _ G10.out
          have u1 := hc2 _ _ G11.out
          rw [← Nat.add_assoc] at u1
          rw [HN1.out]
          have T := Lib.hid (T.out.next (ext1 w2 (.cells #[.int .i64 p1, .int .i64 q1] 34)))
          have X1 := Lib.hid (B2.new w2 p1 q1 34)
          have hg1 : w.heap.size + 1 < w2.heap.size := HZ.out
          have HLO := Lib.hid (HCL.out _ T.out.e)
          clear HW2 hc2 HZ HCL
          go_wp2_with fail
          generalize w2.heap.size = h1 at *
          refine HLO.out.mono ?_
          rintro e w1 ⟨A1, c1, rfl, hw1, hcc, hb1⟩
          rw [HM.out] at hcc ⊢
          obtain ⟨b1, off, rfl, hbb, hlt, hcx, hfx⟩ := hw1 (by rw [HM.out]; omega)
          have cx := hcx _ _ HL.out
          have fx := hfx (off + m)
          have HBB : Hid (w.heap.size + 1 < b1) := Nat.lt_of_lt_of_le T.out.y.2.2.2 hbb
          have HB1 : Hid (h1 < b1) := Nat.lt_of_lt_of_le X1.out.2.2.2 hbb
          have T := Lib.hid (T.out.next hb1)
          have X1 := Lib.hid (X1.out.next hb1)
          clear hcx hfx HLO u0 u1 hlt2 hbb
          have TS := Lib.hid (T.out.setHi (j := off + m) HBB.out (.int .i64 (z + 1)))
          have XS := Lib.hid (X1.out.far (j := off + m) (show h1 ≠ b1 by have := HB1.out; omega) (.int .i64 (z + 1)))
          have HRC : Hid (Rd (Value.int .i64) (w1.setCell ⟨b1, off + m, none⟩ (.int .i64 (z + 1))) (w1.setCell ⟨b1, off + m, none⟩ (.int .i64 (z + 1))).heap.size (some ⟨b1, off, none⟩) (incL ts)) := by
            unfold Hid
            rw [HI.out]
            exact (hw1.setAt (by rw [HM.out]; omega)).rd
          clear T X1 HBB HB1 hw1 hcc
          have T := TS
          have X1 := XS
          clear TS XS
          go_wp2_with fail
          generalize w1.setCell ⟨b1, off + m, none⟩ (.int .i64 (z + 1)) = W1 at *
          refine (HC2.out _ _ _ HRC.out).mono ?_
          rintro e w3 ⟨A3, c3, rfl, hw3, hb3⟩
          have T := Lib.hid (T.out.next hb3)
          have X1 := Lib.hid (X1.out.next hb3)
          have HW3 := Lib.hid hw3
          clear hw3 hb3 HRC
          simp only [Option.getD_some, Option.isSome_some] at HW3 ⊢
          obtain ⟨b3, off3, rfl, _, hlt3, hc3, _⟩ := HW3.out (by rw [frL_length, HN2.out]; omega)
          have v0 := hc3 _ _ G20.out
          have v1 := hc3 _ _ G21.out
          rw [← Nat.add_assoc] at v1
          rw [HN2.out]
          have hg2 : w.heap.size + 1 < w3.heap.size := T.out.y.2.2.2
          have hne : ¬ h1 = w3.heap.size := by have := X1.out.2.2.2; omega
          have T := Lib.hid (T.out.next (ext1 w3 (.cells #[.int .i64 p2, .int .i64 q2] 34)))
          have X1 := Lib.hid (X1.out.next (ext1 w3 (.cells #[.int .i64 p2, .int .i64 q2] 34)))
          have X2 := Lib.hid (B2.new w3 p2 q2 34)
          obtain ⟨x10, x11, _, _⟩ := X1.out
          obtain ⟨x20, x21, _, _⟩ := X2.out
          clear HW3 hc3
          go_wp2_with fail
          clear x10 x11 x20 x21 v0 v1 hlt3
          generalize w3.alloc (.cells #[.int .i64 p2, .int .i64 q2] 34) = W4 at *
          generalize w3.heap.size = h2 at *
          refine (HCF.out _).mono ?_
          rintro e w4 ⟨rfl, hb4⟩
          have T := Lib.hid (T.out.next hb4)
          have X1 := Lib.hid (X1.out.next hb4)
          have X2 := Lib.hid (X2.out.next hb4)
          clear hb4
          go_upto_region 15 with fail
          obtain ⟨x10, x11, _, _⟩ := X1.out
          obtain ⟨x20, x21, _, _⟩ := X2.out
          have F0 := T.out.fin p2 q2 p1 q1
          have F1 := Lib.hid F0.1
          have F2 := Lib.hid F0.2
          clear F0
          obtain ⟨r0, r1, rf, _⟩ := T.out.x
          obtain ⟨y0, y1, yf, _⟩ := T.out.y
          have rf0 := rf 0
          have rf1 := rf 1
          have yf0 := yf 0
          have yf1 := yf 1
          clear rf yf
          have n1 : h1 ≠ w.heap.size := by omega
          have n2 : h1 ≠ w.heap.size + 1 := by omega
          have n3 : h2 ≠ w.heap.size := by omega
          have n4 : h2 ≠ w.heap.size + 1 := by omega
          have n5 : ¬ w.heap.size = h1 := by omega
          have n6 : ¬ w.heap.size + 1 = h1 := by omega
          have n7 : ¬ w.heap.size = h2 := by omega
          have n8 : ¬ w.heap.size + 1 = h2 := by omega
          go_region_held3 (fun w' => w'.cell? ⟨h1, 0, none⟩ = some (.int .i64 p1) ∧ w'.cell? ⟨h1, 1, none⟩ = some (.int .i64 q1) ∧ w'.cell? ⟨h2, 0, none⟩ = some (.int .i64 p2) ∧ w'.cell? ⟨h2, 1, none⟩ = some (.int .i64 q2)) (go_keep) (fail)
          all_goals
            go_wp2
            first
              | (refine bodyPost_ret (v := .tuple #[fracV p2 q2, fracV p1 q1, .bool true]) ?_ rfl ⟨rfl, ext_drew F1.out.2.2⟩; obtain ⟨⟨z1, z2, _, _⟩, ⟨z3, z4, _, _⟩, _⟩ := F1.out; simp [results, Tryz.results48, go_sem, z1, z2, z3, z4]; done)
              | (refine bodyPost_ret (v := .tuple #[fracV p2 q2, fracV p1 q1, .bool true]) ?_ rfl ⟨rfl, ext_drew F2.out.2.2⟩; obtain ⟨⟨z1, z2, _, _⟩, ⟨z3, z4, _, _⟩, _⟩ := F2.out; simp [results, Tryz.results48, go_sem, z1, z2, z3, z4]; done)
        · rw [show ordF (p1, q1) (p2, q2) = ((p1, q1), (p2, q2)) from if_neg hlt]
          have hc3 : decide (p2 * q1 < p1 * q2) = false := by simpa using hlt
          rw [hc3] at HCF
          clear hc3 hlt HM1 HM2
          go_enter Tryz.func48, Tryz.ntmps48
          go_wp2_with fail
          have T0 := Lib.hid (BW.start w 34 34)
          have E0 := Lib.hid (T0.out.e)
          have Z0 : Hid (w.heap.size + 1 < ((w.alloc (.cells #[.int .i64 0, .int .i64 0] 34)).alloc (.cells #[.int .i64 0, .int .i64 0] 34)).heap.size) := by unfold Hid; simp
          refine (HC1.out _ E0.out).mono ?_
          rintro e w2 ⟨A2, c2, rfl, hw2, hb2⟩
          have T := Lib.hid (T0.out.next hb2)
          have HZ : Hid (w.heap.size + 1 < w2.heap.size) := Nat.lt_of_lt_of_le Z0.out hb2.size
          have HW2 := Lib.hid hw2
          clear hw2 hb2 T0 E0 Z0
          simp only [Option.getD_some, Option.isSome_some] at HW2 ⊢
          obtain ⟨b2, off2, rfl, _, hlt2, hc2, _⟩ := HW2.out (by rw [frL_length, HN1.out]; omega)
          have u0 := hc2 _ _ G10.out
          have u1 := hc2 _ _ G11.out
          rw [← Nat.add_assoc] at u1
          rw [HN1.out]
          have T := Lib.hid (T.out.next (ext1 w2 (.cells #[.int .i64 p1, .int .i64 q1] 34)))
          have X1 := Lib.hid (B2.new w2 p1 q1 34)
          have hg1 : w.heap.size + 1 < w2.heap.size := HZ.out
          have HLO := Lib.hid (HCL.out _ T.out.e)
          clear HW2 hc2 HZ HCL
          go_wp2_with fail
          generalize w2.heap.size = h1 at *
          refine HLO.out.mono ?_
          rintro e w1 ⟨A1, c1, rfl, hw1, hcc, hb1⟩
          rw [HM.out] at hcc ⊢
          obtain ⟨b1, off, rfl, hbb, hlt, hcx, hfx⟩ := hw1 (by rw [HM.out]; omega)
          have cx := hcx _ _ HL.out
          have fx := hfx (off + m)
          have HBB : Hid (w.heap.size + 1 < b1) := Nat.lt_of_lt_of_le T.out.y.2.2.2 hbb
          have HB1 : Hid (h1 < b1) := Nat.lt_of_lt_of_le X1.out.2.2.2 hbb
          have T := Lib.hid (T.out.next hb1)
          have X1 := Lib.hid (X1.out.next hb1)
          clear hcx hfx HLO u0 u1 hlt2 hbb
          have TS := Lib.hid (T.out.setHi (j := off + m) HBB.out (.int .i64 (z + 1)))
          have XS := Lib.hid (X1.out.far (j := off + m) (show h1 ≠ b1 by have := HB1.out; omega) (.int .i64 (z + 1)))
          have HRC : Hid (Rd (Value.int .i64) (w1.setCell ⟨b1, off + m, none⟩ (.int .i64 (z + 1))) (w1.setCell ⟨b1, off + m, none⟩ (.int .i64 (z + 1))).heap.size (some ⟨b1, off, none⟩) (incL ts)) := by
            unfold Hid
            rw [HI.out]
            exact (hw1.setAt (by rw [HM.out]; omega)).rd
          clear T X1 HBB HB1 hw1 hcc
          have T := TS
          have X1 := XS
          clear TS XS
          go_wp2_with fail
          generalize w1.setCell ⟨b1, off + m, none⟩ (.int .i64 (z + 1)) = W1 at *
          refine (HC2.out _ _ _ HRC.out).mono ?_
          rintro e w3 ⟨A3, c3, rfl, hw3, hb3⟩
          have T := Lib.hid (T.out.next hb3)
          have X1 := Lib.hid (X1.out.next hb3)
          have HW3 := Lib.hid hw3
          clear hw3 hb3 HRC
          simp only [Option.getD_some, Option.isSome_some] at HW3 ⊢
          obtain ⟨b3, off3, rfl, _, hlt3, hc3, _⟩ := HW3.out (by rw [frL_length, HN2.out]; omega)
          have v0 := hc3 _ _ G20.out
          have v1 := hc3 _ _ G21.out
          rw [← Nat.add_assoc] at v1
          rw [HN2.out]
          have hg2 : w.heap.size + 1 < w3.heap.size := T.out.y.2.2.2
          have hne : ¬ h1 = w3.heap.size := by have := X1.out.2.2.2; omega
          have T := Lib.hid (T.out.next (ext1 w3 (.cells #[.int .i64 p2, .int .i64 q2] 34)))
          have X1 := Lib.hid (X1.out.next (ext1 w3 (.cells #[.int .i64 p2, .int .i64 q2] 34)))
          have X2 := Lib.hid (B2.new w3 p2 q2 34)
          obtain ⟨x10, x11, _, _⟩ := X1.out
          obtain ⟨x20, x21, _, _⟩ := X2.out
          clear HW3 hc3
          go_wp2_with fail
          clear x10 x11 x20 x21 v0 v1 hlt3
          generalize w3.alloc (.cells #[.int .i64 p2, .int .i64 q2] 34) = W4 at *
          generalize w3.heap.size = h2 at *
          refine (HCF.out _).mono ?_
          rintro e w4 ⟨rfl, hb4⟩
          have T := Lib.hid (T.out.next hb4)
          have X1 := Lib.hid (X1.out.next hb4)
          have X2 := Lib.hid (X2.out.next hb4)
          clear hb4
          go_upto_region 16 with fail
          obtain ⟨x10, x11, _, _⟩ := X1.out
          obtain ⟨x20, x21, _, _⟩ := X2.out
          have F0 := T.out.fin p1 q1 p2 q2
          have F1 := Lib.hid F0.1
          have F2 := Lib.hid F0.2
          clear F0
          obtain ⟨r0, r1, rf, _⟩ := T.out.x
          obtain ⟨y0, y1, yf, _⟩ := T.out.y
          have rf0 := rf 0
          have rf1 := rf 1
          have yf0 := yf 0
          have yf1 := yf 1
          clear rf yf
          have n1 : h1 ≠ w.heap.size := by omega
          have n2 : h1 ≠ w.heap.size + 1 := by omega
          have n3 : h2 ≠ w.heap.size := by omega
          have n4 : h2 ≠ w.heap.size + 1 := by omega
          have n5 : ¬ w.heap.size = h1 := by omega
          have n6 : ¬ w.heap.size + 1 = h1 := by omega
          have n7 : ¬ w.heap.size = h2 := by omega
          have n8 : ¬ w.heap.size + 1 = h2 := by omega
          go_region_held3 (fun w' => w'.cell? ⟨h1, 0, none⟩ = some (.int .i64 p1) ∧ w'.cell? ⟨h1, 1, none⟩ = some (.int .i64 q1) ∧ w'.cell? ⟨h2, 0, none⟩ = some (.int .i64 p2) ∧ w'.cell? ⟨h2, 1, none⟩ = some (.int .i64 q2)) (go_keep) (fail)
          all_goals
            go_wp2
            first
              | (refine bodyPost_ret (v := .tuple #[fracV p1 q1, fracV p2 q2, .bool true]) ?_ rfl ⟨rfl, ext_drew F1.out.2.2⟩; obtain ⟨⟨z1, z2, _, _⟩, ⟨z3, z4, _, _⟩, _⟩ := F1.out; simp [results, Tryz.results48, go_sem, z1, z2, z3, z4]; done)
              | (refine bodyPost_ret (v := .tuple #[fracV p1 q1, fracV p2 q2, .bool true]) ?_ rfl ⟨rfl, ext_drew F2.out.2.2⟩; obtain ⟨⟨z1, z2, _, _⟩, ⟨z3, z4, _, _⟩, _⟩ := F2.out; simp [results, Tryz.results48, go_sem, z1, z2, z3, z4]; done)
end Go.Proofs.YtjgafjbccfjojaaGreat
