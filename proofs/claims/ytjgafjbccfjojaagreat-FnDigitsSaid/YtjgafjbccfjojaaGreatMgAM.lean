/- Common prefixes, bounds of terms, sure digits: the walks. No condition but those that each theorem names. -/
import Derived.Test.YtjgafjbccfjojaaGreatMgAL
import Derived.Test.YtjgafjbccfjojaaGreatMgAJ
import Derived.Deep.DeepCutAuto
namespace Go.Proofs.YtjgafjbccfjojaaGreat
open Go.RowKit Go.Sort
set_option maxHeartbeats 1000000 in
theorem iCommonTerms_any (A B : Option Addr) (c d : Nat) (xs ys : List Int) (w : World) (hx : Rd (Value.int .i64) w w.heap.size A xs) (hy : Rd (Value.int .i64) w w.heap.size B ys) (hm : xs.length ≤ 1000) (hm' : ys.length ≤ 1000) :
    Calls Tryz.prog 46 #[.slice A xs.length c, .slice B ys.length d] w fun e w' => e = .returned (.int .i64 (cmT xs ys : Int)) ∧ Below w.heap.size w w' := by
  go_enter Tryz.func46, Tryz.ntmps46
  go_wp2_with fail
  go_loopw [5] (fun t wr => ∃ k : Nat, k ≤ xs.length ∧ k ≤ ys.length ∧ t = .int .i64 k ∧ Hid (cmT xs ys = k + cmT (xs.drop k) (ys.drop k)) ∧ ∃ n, wr = w.drewN n) (fun t _ => xs.length - (intOf t).toNat)
  case atStart => exact ⟨0, by omega, by omega, rfl, by unfold Hid; simp, 0, rfl⟩
  case round =>
    obtain ⟨k, hk, hk', rfl, HK, nn, rfl⟩ := hrel
    by_cases hlt : k < xs.length
    · by_cases hlt' : k < ys.length
      · obtain ⟨b, off, rfl, hb, hc⟩ := hx (by omega)
        obtain ⟨b', off', rfl, hb', hc'⟩ := hy (by omega)
        obtain ⟨x, hxk⟩ : ∃ x, xs[k]? = some x := ⟨_, List.getElem?_eq_getElem hlt⟩
        obtain ⟨y, hyk⟩ : ∃ y, ys[k]? = some y := ⟨_, List.getElem?_eq_getElem hlt'⟩
        have c1 := hc k x hxk
        have c2 := hc' k y hyk
        have i0 : (0 : Int) ≤ (k : Int) := by omega
        have i1 : (k : Int) < (xs.length : Int) := by omega
        have i2 : (k : Int) < (ys.length : Int) := by omega
        by_cases hxy : x = y
        · subst hxy
          have HS := Lib.hid (cmT_yes hxk hyk)
          have he : (x == x) = true := by simp
          clear hc hc' hxk hyk
          go_wp2_with fail
          go_quiet (fail)
          go_wp2
          go_roundw
          case rel => exact ⟨k + 1, by omega, by omega, by go_num, by have h := HK.out; rw [HS.out] at h; unfold Hid; omega, _, rfl⟩
          case measure => simp [intOf]; omega
        · have hne' : (x == y) = false := by simpa using hxy
          have HE : Hid (cmT xs ys = k) := by
            have h := HK.out
            rw [cmT_no hxk hyk hxy] at h
            exact h
          clear hc hc' hxk hyk hxy
          go_wp2_with fail
          go_quiet (fail)
          go_wp2
          go_ret
          exact ⟨ret_int (by have := HE.out; omega), ⟨rfl, rfl, rfl, Nat.le_refl _, fun _ _ => rfl⟩⟩
      · have HE : Hid (cmT xs ys = k) := by
          have h := HK.out
          rw [cmT_endR hlt'] at h
          exact h
        have i1 : (k : Int) < (xs.length : Int) := by omega
        have i2 : ¬ (k : Int) < (ys.length : Int) := by omega
        go_wp2_with fail
        go_quiet (fail)
        go_wp2
        go_ret
        exact ⟨ret_int (by have := HE.out; omega), ⟨rfl, rfl, rfl, Nat.le_refl _, fun _ _ => rfl⟩⟩
    · have HE : Hid (cmT xs ys = k) := by
        have h := HK.out
        rw [cmT_endL hlt] at h
        exact h
      have i1 : ¬ (k : Int) < (xs.length : Int) := by omega
      go_wp2_with fail
      go_quiet (fail)
      go_wp2
      go_ret
      exact ⟨ret_int (by have := HE.out; omega), ⟨rfl, rfl, rfl, Nat.le_refl _, fun _ _ => rfl⟩⟩
set_option maxHeartbeats 1000000 in
theorem sCommonTerms_any (A B : Option Addr) (c d : Nat) (xs ys : List Int) (w : World) (hx : Rd (Value.int .i64) w w.heap.size A xs) (hy : Rd (Value.int .i64) w w.heap.size B ys) (hm : xs.length ≤ 1000) (hm' : ys.length ≤ 1000) :
    Calls Tryz.prog 49 #[.slice A xs.length c, .slice B ys.length d] w fun e w' => e = .returned (.int .i64 (cmT xs ys : Int)) ∧ Below w.heap.size w w' := by
  go_enter Tryz.func49, Tryz.ntmps49
  go_wp2_with fail
  go_loopw [5] (fun t wr => ∃ k : Nat, k ≤ xs.length ∧ k ≤ ys.length ∧ t = .int .i64 k ∧ Hid (cmT xs ys = k + cmT (xs.drop k) (ys.drop k)) ∧ ∃ n, wr = w.drewN n) (fun t _ => xs.length - (intOf t).toNat)
  case atStart => exact ⟨0, by omega, by omega, rfl, by unfold Hid; simp, 0, rfl⟩
  case round =>
    obtain ⟨k, hk, hk', rfl, HK, nn, rfl⟩ := hrel
    by_cases hlt : k < xs.length
    · by_cases hlt' : k < ys.length
      · obtain ⟨b, off, rfl, hb, hc⟩ := hx (by omega)
        obtain ⟨b', off', rfl, hb', hc'⟩ := hy (by omega)
        obtain ⟨x, hxk⟩ : ∃ x, xs[k]? = some x := ⟨_, List.getElem?_eq_getElem hlt⟩
        obtain ⟨y, hyk⟩ : ∃ y, ys[k]? = some y := ⟨_, List.getElem?_eq_getElem hlt'⟩
        have c1 := hc k x hxk
        have c2 := hc' k y hyk
        have i0 : (0 : Int) ≤ (k : Int) := by omega
        have i1 : (k : Int) < (xs.length : Int) := by omega
        have i2 : (k : Int) < (ys.length : Int) := by omega
        by_cases hxy : x = y
        · subst hxy
          have HS := Lib.hid (cmT_yes hxk hyk)
          have he : (x == x) = true := by simp
          clear hc hc' hxk hyk
          go_wp2_with fail
          go_quiet (fail)
          go_wp2
          go_roundw
          case rel => exact ⟨k + 1, by omega, by omega, by go_num, by have h := HK.out; rw [HS.out] at h; unfold Hid; omega, _, rfl⟩
          case measure => simp [intOf]; omega
        · have hne' : (x == y) = false := by simpa using hxy
          have HE : Hid (cmT xs ys = k) := by
            have h := HK.out
            rw [cmT_no hxk hyk hxy] at h
            exact h
          clear hc hc' hxk hyk hxy
          go_wp2_with fail
          go_quiet (fail)
          go_wp2
          go_ret
          exact ⟨ret_int (by have := HE.out; omega), ⟨rfl, rfl, rfl, Nat.le_refl _, fun _ _ => rfl⟩⟩
      · have HE : Hid (cmT xs ys = k) := by
          have h := HK.out
          rw [cmT_endR hlt'] at h
          exact h
        have i1 : (k : Int) < (xs.length : Int) := by omega
        have i2 : ¬ (k : Int) < (ys.length : Int) := by omega
        go_wp2_with fail
        go_quiet (fail)
        go_wp2
        go_ret
        exact ⟨ret_int (by have := HE.out; omega), ⟨rfl, rfl, rfl, Nat.le_refl _, fun _ _ => rfl⟩⟩
    · have HE : Hid (cmT xs ys = k) := by
        have h := HK.out
        rw [cmT_endL hlt] at h
        exact h
      have i1 : ¬ (k : Int) < (xs.length : Int) := by omega
      go_wp2_with fail
      go_quiet (fail)
      go_wp2
      go_ret
      exact ⟨ret_int (by have := HE.out; omega), ⟨rfl, rfl, rfl, Nat.le_refl _, fun _ _ => rfl⟩⟩
theorem cmpFr_any (a b c d : Int) (w : World) (h1 : -1000000000000000000 ≤ a * d ∧ a * d ≤ 1000000000000000000) (h3 : -1000000000000000000 ≤ c * b ∧ c * b ≤ 1000000000000000000) :
    Calls Tryz.prog 76 #[fracV a b, fracV c d] w fun e w' => e = .returned (.int .i64 (cmp3 (a * d) (c * b))) ∧ Below w.heap.size w w' := by
  have w1 : IntKind.i64.wrap (a * d) = a * d := IntWalk.i64_in _ (by omega)
  have w2 : IntKind.i64.wrap (c * b) = c * b := IntWalk.i64_in _ (by omega)
  have HC := Lib.hid (compare_any (a * d) (c * b))
  clear h1 h3
  generalize cmp3 (a * d) (c * b) = v at *
  unfold fracV at *
  go_enter Tryz.func76, Tryz.ntmps76
  go_wp2_with (go_at_call 86; (with_reducible refine (HC.out _).mono ?_); rintro e w' ⟨rfl, rfl⟩)
  go_ret
  refine ⟨rfl, ?_⟩
  repeat (first | exact Below.refl _ _ | assumption | refine ext_alloc ?_ _ | refine ext_drew ?_ | refine ext_trans ?_ (by assumption))
/-- Two boxes for two fractions' results. -/
structure BW (w W : World) : Prop where
  e : Below w.heap.size w W
  x : B2 w.heap.size 0 0 W
  y : B2 (w.heap.size + 1) 0 0 W
theorem BW.next {w W W' : World} (h : BW w W) (hb : Below W.heap.size W W') : BW w W' := ⟨ext_trans h.e hb, h.x.next hb, h.y.next hb⟩
theorem BW.setHi {w W : World} (h : BW w W) {g j : Nat} (hg : w.heap.size + 1 < g) (v : Value) : BW w (W.setCell ⟨g, j, none⟩ v) := ⟨ext_set h.e (by show w.heap.size ≤ g; omega) _, h.x.far (by omega) _, h.y.far (by omega) _⟩
theorem BW.start (w : World) (S T : TypeId) : BW w ((w.alloc (.cells #[.int .i64 0, .int .i64 0] S)).alloc (.cells #[.int .i64 0, .int .i64 0] T)) :=
  ⟨ext_alloc (ext1 _ _) _, (B2.new _ _ _ _).next (ext1 _ _), B2.new_at _ _ _ (by simp)⟩
/-- The results' cells behind the stores, in both orders. -/
theorem BW.fin {w W : World} (h : BW w W) (a b c d : Int) :
    (let Z := (((W.setCell ⟨w.heap.size, 0, none⟩ (.int .i64 a)).setCell ⟨w.heap.size, 1, none⟩ (.int .i64 b)).setCell ⟨w.heap.size + 1, 0, none⟩ (.int .i64 c)).setCell ⟨w.heap.size + 1, 1, none⟩ (.int .i64 d); B2 w.heap.size a b Z ∧ B2 (w.heap.size + 1) c d Z ∧ Below w.heap.size w Z) ∧
    (let Z := (((W.setCell ⟨w.heap.size + 1, 0, none⟩ (.int .i64 c)).setCell ⟨w.heap.size + 1, 1, none⟩ (.int .i64 d)).setCell ⟨w.heap.size, 0, none⟩ (.int .i64 a)).setCell ⟨w.heap.size, 1, none⟩ (.int .i64 b); B2 w.heap.size a b Z ∧ B2 (w.heap.size + 1) c d Z ∧ Below w.heap.size w Z) :=
  ⟨⟨((h.x.set a b).far (by omega) _).far (by omega) _, ((h.y.far (by omega) _).far (by omega) _).set c d, ext_set (ext_set (ext_set (ext_set h.e (by simp) _) (by simp) _) (by simp) _) (by simp) _⟩,
   ⟨((h.x.far (by omega) _).far (by omega) _).set a b, ((h.y.set c d).far (by omega) _).far (by omega) _, ext_set (ext_set (ext_set (ext_set h.e (by simp) _) (by simp) _) (by simp) _) (by simp) _⟩⟩
set_option maxHeartbeats 4000000 in
theorem boundsOfTerms_any (A : Option Addr) (c : Nat) (ts : List Int) (w : World) (hx : Rd (Value.int .i64) w w.heap.size A ts) (ht : termsB ts = true) :
    Calls Tryz.prog 45 #[.slice A ts.length c] w fun e w' => e = .returned (.tuple #[fracV ((bdS ts).getD ((0, 0), 0, 0)).1.1 ((bdS ts).getD ((0, 0), 0, 0)).1.2, fracV ((bdS ts).getD ((0, 0), 0, 0)).2.1 ((bdS ts).getD ((0, 0), 0, 0)).2.2, .int .i64 (if (bdS ts).isSome then 0 else 5)]) ∧ Below w.heap.size w w' := by
  obtain ⟨⟨l1, l2⟩, hbl⟩ := termsB_at ht
  have hinc := incL_ok ht
  obtain ⟨m, hm⟩ : ∃ m, ts.length = m + 1 := ⟨ts.length - 1, by omega⟩
  have HBD : bdS ts = if ts.getD (ts.length - 1) 0 = 1000000000 then none
    else match convs ts, convs (incL ts) with
      | some one, some two => some (ordF (lastF one) (lastF two))
      | _, _ => none := rfl
  have HI : incL ts = ts.set (ts.length - 1) (ts.getD (ts.length - 1) 0 + 1) := rfl
  have hl : ts[ts.length - 1]? = some (ts.getD (ts.length - 1) 0) := by
    rw [List.getD_eq_getElem?_getD, List.getElem?_eq_getElem (by omega)]; rfl
  obtain ⟨z, hz0⟩ : ∃ z, ts.getD (ts.length - 1) 0 = z := ⟨_, rfl⟩
  have hil : (incL ts).length = m + 1 := by simp [incL, hm]
  have e0 : ts.length - 1 = m := by omega
  rw [hz0] at HBD HI hl hinc
  rw [e0] at HI hl
  have HM := Lib.hid hm
  have HIL := Lib.hid hil
  have HL := Lib.hid hl
  replace HI := Lib.hid HI
  obtain ⟨z1, z2⟩ := hbl _ (List.mem_of_getElem? hl)
  have HCL : Hid (∀ W, Below w.heap.size w W → Calls Tryz.prog 26 #[.slice A (m + 1) c] W (RetCap W ts)) := fun W h => by
    have k := clone_any A c ts W ((hx.below h).more h.size) (by omega)
    rwa [hm] at k
  have HVT : Hid (∀ (B : Option Addr) (d : Nat) (W : World), RdC W W.heap.size B d (incL ts) → Calls Tryz.prog 44 #[.slice B (m + 1) d] W fun e w' => e = .returned (.bool (termsB (incL ts))) ∧ W = w') := fun B d W h => by
    have k := ValidTerms_any B d (incL ts) W h (by unfold maxLen; omega)
    rwa [hil] at k
  have HC1 : Hid (∀ W, Below w.heap.size w W → Calls Tryz.prog 75 #[.slice A (m + 1) c] W (RetCv W (convs ts))) := fun W h => by
    have k := convergents_any A c ts W ((hx.below h).more h.size) (by omega) hbl
    rwa [hm] at k
  have HC2 : Hid (termsB (incL ts) = true → ∀ (B : Option Addr) (d : Nat) (W : World), Rd (Value.int .i64) W W.heap.size B (incL ts) → Calls Tryz.prog 75 #[.slice B (m + 1) d] W (RetCv W (convs (incL ts)))) := fun h B d W hr => by
    have k := convergents_any B d (incL ts) W hr (by omega) (termsB_at h).2
    rwa [hil] at k
  have HO1 : Hid (∀ R, convs ts = some R → R.length = m + 1 ∧ fracOk (lastF R).1 (lastF R).2 = true) := fun R h => ⟨by have := (convs_len h).1; omega, lastF_ok h l1⟩
  have HO2 : Hid (∀ R, convs (incL ts) = some R → R.length = m + 1 ∧ fracOk (lastF R).1 (lastF R).2 = true) := fun R h => ⟨by have := (convs_len h).1; omega, lastF_ok h (by omega)⟩
  have i1 : (0 : Int) ≤ (m : Int) + 1 - 1 := by omega
  have i2 : (m : Int) + 1 ≤ 60 := by omega
  have i3 : m + 1 ≤ 60 := by omega
  rw [HBD, hm]
  rw [hinc] at HVT HC2
  clear HBD hl hbl ht hx hil hz0 e0 hm hinc
  by_cases hz : z = 1000000000
  · rw [if_pos hz]
    have hd : decide (¬ z = 1000000000) = false := by simpa using hz
    rw [hd] at HVT
    clear hz hd
    go_enter Tryz.func45, Tryz.ntmps45
    go_wp2_with fail
    have T0 := Lib.hid (BW.start w 34 34)
    refine (HCL.out _ (ext_alloc (ext1 _ _) _)).mono ?_
    rintro e w1 ⟨A1, c1, rfl, hw1, hcc, hb1⟩
    rw [HM.out] at hcc ⊢
    have T1 := Lib.hid (T0.out.next hb1)
    obtain ⟨b1, off, rfl, hbb, hlt, hcx, hfx⟩ := hw1 (by rw [HM.out]; omega)
    have cx := hcx _ _ HL.out
    have fx := hfx (off + m)
    have HBB : Hid (w.heap.size + 1 < b1) := by
      have := hbb
      simp at this
      unfold Hid
      omega
    have T := Lib.hid (T1.out.setHi (j := off + m) HBB.out (.int .i64 (z + 1)))
    have RCI : Hid (RdC (w1.setCell ⟨b1, off + m, none⟩ (.int .i64 (z + 1))) (w1.setCell ⟨b1, off + m, none⟩ (.int .i64 (z + 1))).heap.size (some ⟨b1, off, none⟩) c1 (incL ts)) := by
      unfold Hid
      rw [HI.out]
      refine ⟨(hw1.setAt (by rw [HM.out]; omega)).rd, ?_, hcc.2⟩
      rw [List.length_set, HM.out]
      exact hcc.1
    clear hcx hfx hw1 hcc T0 T1
    have HRC := Lib.hid (RCI.out)
    go_wp2_with fail
    refine (HVT.out _ _ _ HRC.out).mono ?_
    rintro e w' ⟨rfl, rfl⟩
    obtain ⟨r0, r1, rf, _⟩ := T.out.x
    obtain ⟨y0, y1, yf, _⟩ := T.out.y
    have rf0 := rf 0
    have rf1 := rf 1
    have yf0 := yf 0
    have yf1 := yf 1
    clear rf yf
    obtain ⟨⟨Q1, Q2, Q3⟩, Q4, Q5, Q6⟩ := T.out.fin 0 0 0 0
    have F1 := Lib.hid Q1
    have F2 := Lib.hid Q2
    have F3 := Lib.hid Q3
    clear Q1 Q2 Q3 Q4 Q5 Q6
    go_wp2
    all_goals
      refine bodyPost_ret (v := .tuple #[fracV 0 0, fracV 0 0, .int .i64 5]) ?_ rfl ⟨rfl, F3.out⟩
      obtain ⟨z1, z2, _, _⟩ := F1.out
      obtain ⟨z3, z4, _, _⟩ := F2.out
      simp [results, Tryz.results45, go_sem, z1, z2, z3, z4]
  · rw [if_neg hz]
    have hd : decide (¬ z = 1000000000) = true := by simpa using hz
    rw [hd] at HVT HC2
    replace HC2 := Lib.hid (HC2.out rfl)
    clear hz hd
    have i4 : (0 : Int) ≤ (m : Int) := by omega
    have i5 : (m : Int) < (m : Int) + 1 := by omega
    have i6 : m < m + 1 := by omega
    have i7 : IntKind.i64.wrap ((m : Int) + 1 - 1) = (m : Int) := by rw [show (m : Int) + 1 - 1 = (m : Int) by omega]; exact IntWalk.i64_in _ (by omega)
    have i8 : IntKind.i64.wrap (m : Int) = (m : Int) := IntWalk.i64_in _ (by omega)
    cases h1 : convs ts with
    | none =>
      rw [h1] at HC1
      generalize convs (incL ts) = o2 at *
      clear HO1 HO2
      go_enter Tryz.func45, Tryz.ntmps45
      go_wp2_with fail
      have T0 := Lib.hid (BW.start w 34 34)
      refine (HCL.out _ (ext_alloc (ext1 _ _) _)).mono ?_
      rintro e w1 ⟨A1, c1, rfl, hw1, hcc, hb1⟩
      rw [HM.out] at hcc ⊢
      have T1 := Lib.hid (T0.out.next hb1)
      obtain ⟨b1, off, rfl, hbb, hlt, hcx, hfx⟩ := hw1 (by rw [HM.out]; omega)
      have cx := hcx _ _ HL.out
      have fx := hfx (off + m)
      have HBB : Hid (w.heap.size + 1 < b1) := by
        have := hbb
        simp at this
        unfold Hid
        omega
      have T := Lib.hid (T1.out.setHi (j := off + m) HBB.out (.int .i64 (z + 1)))
      have RCI : Hid (RdC (w1.setCell ⟨b1, off + m, none⟩ (.int .i64 (z + 1))) (w1.setCell ⟨b1, off + m, none⟩ (.int .i64 (z + 1))).heap.size (some ⟨b1, off, none⟩) c1 (incL ts)) := by
        unfold Hid
        rw [HI.out]
        refine ⟨(hw1.setAt (by rw [HM.out]; omega)).rd, ?_, hcc.2⟩
        rw [List.length_set, HM.out]
        exact hcc.1
      clear hcx hfx hw1 hcc T0 T1
      have HRC := Lib.hid (RCI.out)
      go_wp2_with fail
      refine (HVT.out _ _ _ HRC.out).mono ?_
      rintro e w' ⟨rfl, rfl⟩
      go_wp2_with fail
      refine (HC1.out _ T.out.e).mono ?_
      rintro e w2 ⟨A2, c2, rfl, hw2, hb2⟩
      generalize w1.setCell ⟨b1, off + m, none⟩ (.int .i64 (z + 1)) = W1 at *
      have T := Lib.hid (T.out.next hb2)
      have HR2 := Lib.hid ((HRC.out.1.below hb2).more hb2.size)
      have HW2 := Lib.hid hw2
      clear hw2 hb2 HRC RCI cx fx
      go_wp2_with fail
      refine (HC2.out _ _ _ HR2.out).mono ?_
      rintro e w3 ⟨A3, c3, rfl, hw3, hb3⟩
      have T := Lib.hid (T.out.next hb3)
      clear hw3 hb3 HR2 HW2
      generalize (o2.getD []).length = l2
      generalize o2.isSome = b2
      obtain ⟨r0, r1, rf, _⟩ := T.out.x
      obtain ⟨y0, y1, yf, _⟩ := T.out.y
      have rf0 := rf 0
      have rf1 := rf 1
      have yf0 := yf 0
      have yf1 := yf 1
      clear rf yf
      obtain ⟨⟨Q1, Q2, Q3⟩, Q4, Q5, Q6⟩ := T.out.fin 0 0 0 0
      have F1 := Lib.hid Q1
      have F2 := Lib.hid Q2
      have F3 := Lib.hid Q3
      clear Q1 Q2 Q3 Q4 Q5 Q6
      go_wp2
      all_goals
        refine bodyPost_ret (v := .tuple #[fracV 0 0, fracV 0 0, .int .i64 5]) ?_ rfl ⟨rfl, F3.out⟩
        obtain ⟨z1, z2, _, _⟩ := F1.out
        obtain ⟨z3, z4, _, _⟩ := F2.out
        simp [results, Tryz.results45, go_sem, z1, z2, z3, z4]
    | some one =>
      cases h2 : convs (incL ts) with
      | none =>
        rw [h1] at HC1
        rw [h2] at HC2
        clear HO1 HO2
        go_enter Tryz.func45, Tryz.ntmps45
        go_wp2_with fail
        have T0 := Lib.hid (BW.start w 34 34)
        refine (HCL.out _ (ext_alloc (ext1 _ _) _)).mono ?_
        rintro e w1 ⟨A1, c1, rfl, hw1, hcc, hb1⟩
        rw [HM.out] at hcc ⊢
        have T1 := Lib.hid (T0.out.next hb1)
        obtain ⟨b1, off, rfl, hbb, hlt, hcx, hfx⟩ := hw1 (by rw [HM.out]; omega)
        have cx := hcx _ _ HL.out
        have fx := hfx (off + m)
        have HBB : Hid (w.heap.size + 1 < b1) := by
          have := hbb
          simp at this
          unfold Hid
          omega
        have T := Lib.hid (T1.out.setHi (j := off + m) HBB.out (.int .i64 (z + 1)))
        have RCI : Hid (RdC (w1.setCell ⟨b1, off + m, none⟩ (.int .i64 (z + 1))) (w1.setCell ⟨b1, off + m, none⟩ (.int .i64 (z + 1))).heap.size (some ⟨b1, off, none⟩) c1 (incL ts)) := by
          unfold Hid
          rw [HI.out]
          refine ⟨(hw1.setAt (by rw [HM.out]; omega)).rd, ?_, hcc.2⟩
          rw [List.length_set, HM.out]
          exact hcc.1
        clear hcx hfx hw1 hcc T0 T1
        have HRC := Lib.hid (RCI.out)
        go_wp2_with fail
        refine (HVT.out _ _ _ HRC.out).mono ?_
        rintro e w' ⟨rfl, rfl⟩
        go_wp2_with fail
        refine (HC1.out _ T.out.e).mono ?_
        rintro e w2 ⟨A2, c2, rfl, hw2, hb2⟩
        generalize w1.setCell ⟨b1, off + m, none⟩ (.int .i64 (z + 1)) = W1 at *
        have T := Lib.hid (T.out.next hb2)
        have HR2 := Lib.hid ((HRC.out.1.below hb2).more hb2.size)
        have HW2 := Lib.hid hw2
        clear hw2 hb2 HRC RCI cx fx
        go_wp2_with fail
        refine (HC2.out _ _ _ HR2.out).mono ?_
        rintro e w3 ⟨A3, c3, rfl, hw3, hb3⟩
        have T := Lib.hid (T.out.next hb3)
        clear hw3 hb3 HR2 HW2
        generalize one.length = l2
        obtain ⟨r0, r1, rf, _⟩ := T.out.x
        obtain ⟨y0, y1, yf, _⟩ := T.out.y
        have rf0 := rf 0
        have rf1 := rf 1
        have yf0 := yf 0
        have yf1 := yf 1
        clear rf yf
        obtain ⟨⟨Q1, Q2, Q3⟩, Q4, Q5, Q6⟩ := T.out.fin 0 0 0 0
        have F1 := Lib.hid Q1
        have F2 := Lib.hid Q2
        have F3 := Lib.hid Q3
        clear Q1 Q2 Q3 Q4 Q5 Q6
        go_wp2
        all_goals
          refine bodyPost_ret (v := .tuple #[fracV 0 0, fracV 0 0, .int .i64 5]) ?_ rfl ⟨rfl, F3.out⟩
          obtain ⟨z1, z2, _, _⟩ := F1.out
          obtain ⟨z3, z4, _, _⟩ := F2.out
          simp [results, Tryz.results45, go_sem, z1, z2, z3, z4]
      | some two =>
        obtain ⟨n1, f1⟩ := HO1.out _ h1
        obtain ⟨n2, f2⟩ := HO2.out _ h2
        rw [h1] at HC1
        rw [h2] at HC2
        clear HO1 HO2
        have g1 : one[m]? = some (lastF one) := by
          unfold lastF
          rw [n1, show m + 1 - 1 = m by omega, List.getD_eq_getElem?_getD, List.getElem?_eq_getElem (by omega)]; rfl
        have g2 : two[m]? = some (lastF two) := by
          unfold lastF
          rw [n2, show m + 1 - 1 = m by omega, List.getD_eq_getElem?_getD, List.getElem?_eq_getElem (by omega)]; rfl
        obtain ⟨g10, g11⟩ := frL_get g1
        obtain ⟨g20, g21⟩ := frL_get g2
        have HN1 := Lib.hid n1
        have HN2 := Lib.hid n2
        have HM1 := Lib.hid (mul18 f1 f2)
        have HM2 := Lib.hid (mul18 f2 f1)
        clear g1 g2 f1 f2 h1 h2 n1 n2
        dsimp only
        generalize lastF one = x1 at *
        generalize lastF two = x2 at *
        obtain ⟨p1, q1⟩ := x1
        obtain ⟨p2, q2⟩ := x2
        dsimp only at HM1 HM2 g10 g11 g20 g21 ⊢
        have G10 := Lib.hid g10
        have G11 := Lib.hid g11
        have G20 := Lib.hid g20
        have G21 := Lib.hid g21
        clear g10 g11 g20 g21
        have HCF := Lib.hid (fun W => cmpFr_any p1 q1 p2 q2 W HM1.out HM2.out)
        by_cases hlt : p2 * q1 < p1 * q2
        · rw [show ordF (p1, q1) (p2, q2) = ((p2, q2), (p1, q1)) from if_pos hlt]
          have hc3 : cmp3 (p1 * q2) (p2 * q1) = 1 := by
            unfold cmp3
            rw [if_neg (by omega), if_pos hlt]
          rw [hc3] at HCF
          clear hc3 hlt HM1 HM2
          dsimp only [Option.getD_some, Option.isSome_some]
          go_enter Tryz.func45, Tryz.ntmps45
          go_wp2_with fail
          have T0 := Lib.hid (BW.start w 34 34)
          refine (HCL.out _ (ext_alloc (ext1 _ _) _)).mono ?_
          rintro e w1 ⟨A1, c1, rfl, hw1, hcc, hb1⟩
          rw [HM.out] at hcc ⊢
          have T1 := Lib.hid (T0.out.next hb1)
          obtain ⟨b1, off, rfl, hbb, hlt, hcx, hfx⟩ := hw1 (by rw [HM.out]; omega)
          have cx := hcx _ _ HL.out
          have fx := hfx (off + m)
          have HBB : Hid (w.heap.size + 1 < b1) := by
            have := hbb
            simp at this
            unfold Hid
            omega
          have T := Lib.hid (T1.out.setHi (j := off + m) HBB.out (.int .i64 (z + 1)))
          have RCI : Hid (RdC (w1.setCell ⟨b1, off + m, none⟩ (.int .i64 (z + 1))) (w1.setCell ⟨b1, off + m, none⟩ (.int .i64 (z + 1))).heap.size (some ⟨b1, off, none⟩) c1 (incL ts)) := by
            unfold Hid
            rw [HI.out]
            refine ⟨(hw1.setAt (by rw [HM.out]; omega)).rd, ?_, hcc.2⟩
            rw [List.length_set, HM.out]
            exact hcc.1
          clear hcx hfx hw1 hcc T0 T1
          have HRC := Lib.hid (RCI.out)
          go_wp2_with fail
          refine (HVT.out _ _ _ HRC.out).mono ?_
          rintro e w' ⟨rfl, rfl⟩
          go_wp2_with fail
          refine (HC1.out _ T.out.e).mono ?_
          rintro e w2 ⟨A2, c2, rfl, hw2, hb2⟩
          generalize w1.setCell ⟨b1, off + m, none⟩ (.int .i64 (z + 1)) = W1 at *
          have T := Lib.hid (T.out.next hb2)
          have HR2 := Lib.hid ((HRC.out.1.below hb2).more hb2.size)
          have HW2 := Lib.hid hw2
          clear hw2 hb2 HRC RCI cx fx
          go_wp2_with fail
          refine (HC2.out _ _ _ HR2.out).mono ?_
          rintro e w3 ⟨A3, c3, rfl, hw3, hb3⟩
          have T := Lib.hid (T.out.next hb3)
          have HW2 := Lib.hid (HW2.out.below hb3)
          have HW3 := Lib.hid hw3
          clear hw3 hb3 HR2
          simp only [Option.getD_some, Option.isSome_some] at HW2 HW3 ⊢
          obtain ⟨b2, off2, rfl, _, hlt2, hc2, _⟩ := HW2.out (by rw [frL_length, HN1.out]; omega)
          obtain ⟨b3, off3, rfl, _, hlt3, hc3, _⟩ := HW3.out (by rw [frL_length, HN2.out]; omega)
          have u0 := hc2 _ _ G10.out
          have u1 := hc2 _ _ G11.out
          rw [← Nat.add_assoc] at u1
          have v0 := hc3 _ _ G20.out
          have v1 := hc3 _ _ G21.out
          rw [← Nat.add_assoc] at v1
          rw [HN1.out, HN2.out]
          have HZ3 : Hid (w.heap.size + 1 < w3.heap.size) := T.out.y.2.2.2
          clear HW2 HW3 hc2 hc3
          go_wp2_with fail
          go_region_held3 (fun w' => w'.cell? ⟨b2, off2 + m * 2, none⟩ = some (.int .i64 p1) ∧ w'.cell? ⟨b2, off2 + m * 2 + 1, none⟩ = some (.int .i64 q1) ∧ w'.cell? ⟨b3, off3 + m * 2, none⟩ = some (.int .i64 p2) ∧ w'.cell? ⟨b3, off3 + m * 2 + 1, none⟩ = some (.int .i64 q2)) (go_keep) (fail)
          · skip
            have T := Lib.hid ((T.out.next (ext1 w3 (.cells #[.int .i64 p1, .int .i64 q1] 34))).next (ext1 _ (.cells #[.int .i64 p2, .int .i64 q2] 34)) |>.next (ext_drew (Below.refl _ _)))
            have X1 := Lib.hid (((B2.new w3 p1 q1 34).next (ext1 _ (.cells #[.int .i64 p2, .int .i64 q2] 34))).next (ext_drew (Below.refl _ _)))
            have X2 := Lib.hid ((B2.new_at (g := w3.heap.size + 1) (W := w3.alloc (.cells #[.int .i64 p1, .int .i64 q1] 34)) p2 q2 34 (by simp)).next (ext_drew (Below.refl _ _)))
            generalize ((w3.alloc (.cells #[.int .i64 p1, .int .i64 q1] 34)).alloc (.cells #[.int .i64 p2, .int .i64 q2] 34)).drew = W4 at *
            have hg1 : w.heap.size + 1 < w3.heap.size := HZ3.out
            have hg2 : w.heap.size + 1 < w3.heap.size + 1 := Nat.lt_succ_of_lt HZ3.out
            have hne : ¬ w3.heap.size = w3.heap.size + 1 := by omega
            clear u0 u1 v0 v1 HZ3 hlt2 hlt3
            generalize w3.heap.size + 1 = h2 at *
            generalize w3.heap.size = h1 at *
            obtain ⟨x10, x11, x1f, x1l⟩ := X1.out
            obtain ⟨x20, x21, x2f, x2l⟩ := X2.out
            have xf10 := x1f 0
            have xf11 := x1f 1
            have xf20 := x2f 0
            have xf21 := x2f 1
            clear x1f x2f
            go_wp2_with fail
            refine (HCF.out _).mono ?_
            rintro e w4 ⟨rfl, hb4⟩
            have T := Lib.hid (T.out.next hb4)
            have X1 := Lib.hid (X1.out.next hb4)
            have X2 := Lib.hid (X2.out.next hb4)
            clear x10 x11 x1l x20 x21 x2l xf10 xf11 xf20 xf21 hb4
            obtain ⟨x10, x11, x1f, x1l⟩ := X1.out
            obtain ⟨x20, x21, x2f, x2l⟩ := X2.out
            have xf10 := x1f 0
            have xf11 := x1f 1
            have xf20 := x2f 0
            have xf21 := x2f 1
            clear x1f x2f
            have T := Lib.hid ((((T.out.setHi (j := 0) hg1 (.int .i64 p2)).setHi (j := 1) hg1 (.int .i64 q2)).setHi (j := 0) hg2 (.int .i64 p1)).setHi (j := 1) hg2 (.int .i64 q1))
            have X1 := Lib.hid (((X1.out.set p2 q2).far (j := 0) hne (.int .i64 p1)).far (j := 1) hne (.int .i64 q1))
            have X2 := Lib.hid (((X2.out.far (j := 0) (fun e => hne e.symm) (.int .i64 p2)).far (j := 1) (fun e => hne e.symm) (.int .i64 q2)).set p1 q1)
            go_upto_region 12 with fail
            generalize (((w4.setCell ⟨h1, 0, none⟩ (.int .i64 p2)).setCell ⟨h1, 1, none⟩ (.int .i64 q2)).setCell ⟨h2, 0, none⟩ (.int .i64 p1)).setCell ⟨h2, 1, none⟩ (.int .i64 q1) = W5 at *
            clear x10 x11 x1l x20 x21 x2l xf10 xf11 xf20 xf21
            obtain ⟨x10, x11, _, _⟩ := X1.out
            obtain ⟨x20, x21, _, _⟩ := X2.out
            have F0 := T.out.fin p2 q2 p1 q1
            have F1 := Lib.hid F0.1
            have F2 := Lib.hid F0.2
            clear F0
            obtain ⟨r0, r1, rf, _⟩ := T.out.x
            obtain ⟨y0, y1, yf, _⟩ := T.out.y
            have rf0 := rf 0
            have rf1 := rf 1
            have yf0 := yf 0
            have yf1 := yf 1
            clear rf yf
            have n1 : h1 ≠ w.heap.size := by omega
            have n2 : h1 ≠ w.heap.size + 1 := by omega
            have n3 : h2 ≠ w.heap.size := by omega
            have n4 : h2 ≠ w.heap.size + 1 := by omega
            have n5 : ¬ w.heap.size = h1 := by omega
            have n6 : ¬ w.heap.size + 1 = h1 := by omega
            have n7 : ¬ w.heap.size = h2 := by omega
            have n8 : ¬ w.heap.size + 1 = h2 := by omega
            go_region_held3 (fun w' => w'.cell? ⟨h1, 0, none⟩ = some (.int .i64 p2) ∧ w'.cell? ⟨h1, 1, none⟩ = some (.int .i64 q2) ∧ w'.cell? ⟨h2, 0, none⟩ = some (.int .i64 p1) ∧ w'.cell? ⟨h2, 1, none⟩ = some (.int .i64 q1)) (go_keep) (fail)
            all_goals
              go_wp2
              first
                | (refine bodyPost_ret (v := .tuple #[fracV p2 q2, fracV p1 q1, .int .i64 0]) ?_ rfl ⟨rfl, ext_drew F1.out.2.2⟩; obtain ⟨⟨z1, z2, _, _⟩, ⟨z3, z4, _, _⟩, _⟩ := F1.out; simp [results, Tryz.results45, go_sem, z1, z2, z3, z4]; done)
                | (refine bodyPost_ret (v := .tuple #[fracV p2 q2, fracV p1 q1, .int .i64 0]) ?_ rfl ⟨rfl, ext_drew F2.out.2.2⟩; obtain ⟨⟨z1, z2, _, _⟩, ⟨z3, z4, _, _⟩, _⟩ := F2.out; simp [results, Tryz.results45, go_sem, z1, z2, z3, z4]; done)
          · skip
            have T := Lib.hid ((T.out.next (ext1 w3 (.cells #[.int .i64 p2, .int .i64 q2] 34))).next (ext1 _ (.cells #[.int .i64 p1, .int .i64 q1] 34)) |>.next (ext_drew (Below.refl _ _)))
            have X2 := Lib.hid (((B2.new w3 p2 q2 34).next (ext1 _ (.cells #[.int .i64 p1, .int .i64 q1] 34))).next (ext_drew (Below.refl _ _)))
            have X1 := Lib.hid ((B2.new_at (g := w3.heap.size + 1) (W := w3.alloc (.cells #[.int .i64 p2, .int .i64 q2] 34)) p1 q1 34 (by simp)).next (ext_drew (Below.refl _ _)))
            generalize ((w3.alloc (.cells #[.int .i64 p2, .int .i64 q2] 34)).alloc (.cells #[.int .i64 p1, .int .i64 q1] 34)).drew = W4 at *
            have hg2 : w.heap.size + 1 < w3.heap.size := HZ3.out
            have hg1 : w.heap.size + 1 < w3.heap.size + 1 := Nat.lt_succ_of_lt HZ3.out
            have hne : ¬ w3.heap.size + 1 = w3.heap.size := by omega
            clear u0 u1 v0 v1 HZ3 hlt2 hlt3
            generalize w3.heap.size + 1 = h1 at *
            generalize w3.heap.size = h2 at *
            obtain ⟨x10, x11, x1f, x1l⟩ := X1.out
            obtain ⟨x20, x21, x2f, x2l⟩ := X2.out
            have xf10 := x1f 0
            have xf11 := x1f 1
            have xf20 := x2f 0
            have xf21 := x2f 1
            clear x1f x2f
            go_wp2_with fail
            refine (HCF.out _).mono ?_
            rintro e w4 ⟨rfl, hb4⟩
            have T := Lib.hid (T.out.next hb4)
            have X1 := Lib.hid (X1.out.next hb4)
            have X2 := Lib.hid (X2.out.next hb4)
            clear x10 x11 x1l x20 x21 x2l xf10 xf11 xf20 xf21 hb4
            obtain ⟨x10, x11, x1f, x1l⟩ := X1.out
            obtain ⟨x20, x21, x2f, x2l⟩ := X2.out
            have xf10 := x1f 0
            have xf11 := x1f 1
            have xf20 := x2f 0
            have xf21 := x2f 1
            clear x1f x2f
            have T := Lib.hid ((((T.out.setHi (j := 0) hg1 (.int .i64 p2)).setHi (j := 1) hg1 (.int .i64 q2)).setHi (j := 0) hg2 (.int .i64 p1)).setHi (j := 1) hg2 (.int .i64 q1))
            have X1 := Lib.hid (((X1.out.set p2 q2).far (j := 0) hne (.int .i64 p1)).far (j := 1) hne (.int .i64 q1))
            have X2 := Lib.hid (((X2.out.far (j := 0) (fun e => hne e.symm) (.int .i64 p2)).far (j := 1) (fun e => hne e.symm) (.int .i64 q2)).set p1 q1)
            go_upto_region 12 with fail
            generalize (((w4.setCell ⟨h1, 0, none⟩ (.int .i64 p2)).setCell ⟨h1, 1, none⟩ (.int .i64 q2)).setCell ⟨h2, 0, none⟩ (.int .i64 p1)).setCell ⟨h2, 1, none⟩ (.int .i64 q1) = W5 at *
            clear x10 x11 x1l x20 x21 x2l xf10 xf11 xf20 xf21
            obtain ⟨x10, x11, _, _⟩ := X1.out
            obtain ⟨x20, x21, _, _⟩ := X2.out
            have F0 := T.out.fin p2 q2 p1 q1
            have F1 := Lib.hid F0.1
            have F2 := Lib.hid F0.2
            clear F0
            obtain ⟨r0, r1, rf, _⟩ := T.out.x
            obtain ⟨y0, y1, yf, _⟩ := T.out.y
            have rf0 := rf 0
            have rf1 := rf 1
            have yf0 := yf 0
            have yf1 := yf 1
            clear rf yf
            have n1 : h1 ≠ w.heap.size := by omega
            have n2 : h1 ≠ w.heap.size + 1 := by omega
            have n3 : h2 ≠ w.heap.size := by omega
            have n4 : h2 ≠ w.heap.size + 1 := by omega
            have n5 : ¬ w.heap.size = h1 := by omega
            have n6 : ¬ w.heap.size + 1 = h1 := by omega
            have n7 : ¬ w.heap.size = h2 := by omega
            have n8 : ¬ w.heap.size + 1 = h2 := by omega
            go_region_held3 (fun w' => w'.cell? ⟨h1, 0, none⟩ = some (.int .i64 p2) ∧ w'.cell? ⟨h1, 1, none⟩ = some (.int .i64 q2) ∧ w'.cell? ⟨h2, 0, none⟩ = some (.int .i64 p1) ∧ w'.cell? ⟨h2, 1, none⟩ = some (.int .i64 q1)) (go_keep) (fail)
            all_goals
              go_wp2
              first
                | (refine bodyPost_ret (v := .tuple #[fracV p2 q2, fracV p1 q1, .int .i64 0]) ?_ rfl ⟨rfl, ext_drew F1.out.2.2⟩; obtain ⟨⟨z1, z2, _, _⟩, ⟨z3, z4, _, _⟩, _⟩ := F1.out; simp [results, Tryz.results45, go_sem, z1, z2, z3, z4]; done)
                | (refine bodyPost_ret (v := .tuple #[fracV p2 q2, fracV p1 q1, .int .i64 0]) ?_ rfl ⟨rfl, ext_drew F2.out.2.2⟩; obtain ⟨⟨z1, z2, _, _⟩, ⟨z3, z4, _, _⟩, _⟩ := F2.out; simp [results, Tryz.results45, go_sem, z1, z2, z3, z4]; done)
        · rw [show ordF (p1, q1) (p2, q2) = ((p1, q1), (p2, q2)) from if_neg hlt]
          have hc3 : decide (0 < cmp3 (p1 * q2) (p2 * q1)) = false := by
            unfold cmp3
            rw [if_neg hlt]
            split <;> simp
          clear hlt HM1 HM2
          generalize cmp3 (p1 * q2) (p2 * q1) = v at *
          dsimp only [Option.getD_some, Option.isSome_some]
          go_enter Tryz.func45, Tryz.ntmps45
          go_wp2_with fail
          have T0 := Lib.hid (BW.start w 34 34)
          refine (HCL.out _ (ext_alloc (ext1 _ _) _)).mono ?_
          rintro e w1 ⟨A1, c1, rfl, hw1, hcc, hb1⟩
          rw [HM.out] at hcc ⊢
          have T1 := Lib.hid (T0.out.next hb1)
          obtain ⟨b1, off, rfl, hbb, hlt, hcx, hfx⟩ := hw1 (by rw [HM.out]; omega)
          have cx := hcx _ _ HL.out
          have fx := hfx (off + m)
          have HBB : Hid (w.heap.size + 1 < b1) := by
            have := hbb
            simp at this
            unfold Hid
            omega
          have T := Lib.hid (T1.out.setHi (j := off + m) HBB.out (.int .i64 (z + 1)))
          have RCI : Hid (RdC (w1.setCell ⟨b1, off + m, none⟩ (.int .i64 (z + 1))) (w1.setCell ⟨b1, off + m, none⟩ (.int .i64 (z + 1))).heap.size (some ⟨b1, off, none⟩) c1 (incL ts)) := by
            unfold Hid
            rw [HI.out]
            refine ⟨(hw1.setAt (by rw [HM.out]; omega)).rd, ?_, hcc.2⟩
            rw [List.length_set, HM.out]
            exact hcc.1
          clear hcx hfx hw1 hcc T0 T1
          have HRC := Lib.hid (RCI.out)
          go_wp2_with fail
          refine (HVT.out _ _ _ HRC.out).mono ?_
          rintro e w' ⟨rfl, rfl⟩
          go_wp2_with fail
          refine (HC1.out _ T.out.e).mono ?_
          rintro e w2 ⟨A2, c2, rfl, hw2, hb2⟩
          generalize w1.setCell ⟨b1, off + m, none⟩ (.int .i64 (z + 1)) = W1 at *
          have T := Lib.hid (T.out.next hb2)
          have HR2 := Lib.hid ((HRC.out.1.below hb2).more hb2.size)
          have HW2 := Lib.hid hw2
          clear hw2 hb2 HRC RCI cx fx
          go_wp2_with fail
          refine (HC2.out _ _ _ HR2.out).mono ?_
          rintro e w3 ⟨A3, c3, rfl, hw3, hb3⟩
          have T := Lib.hid (T.out.next hb3)
          have HW2 := Lib.hid (HW2.out.below hb3)
          have HW3 := Lib.hid hw3
          clear hw3 hb3 HR2
          simp only [Option.getD_some, Option.isSome_some] at HW2 HW3 ⊢
          obtain ⟨b2, off2, rfl, _, hlt2, hc2, _⟩ := HW2.out (by rw [frL_length, HN1.out]; omega)
          obtain ⟨b3, off3, rfl, _, hlt3, hc3, _⟩ := HW3.out (by rw [frL_length, HN2.out]; omega)
          have u0 := hc2 _ _ G10.out
          have u1 := hc2 _ _ G11.out
          rw [← Nat.add_assoc] at u1
          have v0 := hc3 _ _ G20.out
          have v1 := hc3 _ _ G21.out
          rw [← Nat.add_assoc] at v1
          rw [HN1.out, HN2.out]
          have HZ3 : Hid (w.heap.size + 1 < w3.heap.size) := T.out.y.2.2.2
          clear HW2 HW3 hc2 hc3
          go_wp2_with fail
          go_region_held3 (fun w' => w'.cell? ⟨b2, off2 + m * 2, none⟩ = some (.int .i64 p1) ∧ w'.cell? ⟨b2, off2 + m * 2 + 1, none⟩ = some (.int .i64 q1) ∧ w'.cell? ⟨b3, off3 + m * 2, none⟩ = some (.int .i64 p2) ∧ w'.cell? ⟨b3, off3 + m * 2 + 1, none⟩ = some (.int .i64 q2)) (go_keep) (fail)
          · skip
            have T := Lib.hid ((T.out.next (ext1 w3 (.cells #[.int .i64 p1, .int .i64 q1] 34))).next (ext1 _ (.cells #[.int .i64 p2, .int .i64 q2] 34)) |>.next (ext_drew (Below.refl _ _)))
            have X1 := Lib.hid (((B2.new w3 p1 q1 34).next (ext1 _ (.cells #[.int .i64 p2, .int .i64 q2] 34))).next (ext_drew (Below.refl _ _)))
            have X2 := Lib.hid ((B2.new_at (g := w3.heap.size + 1) (W := w3.alloc (.cells #[.int .i64 p1, .int .i64 q1] 34)) p2 q2 34 (by simp)).next (ext_drew (Below.refl _ _)))
            generalize ((w3.alloc (.cells #[.int .i64 p1, .int .i64 q1] 34)).alloc (.cells #[.int .i64 p2, .int .i64 q2] 34)).drew = W4 at *
            have hg1 : w.heap.size + 1 < w3.heap.size := HZ3.out
            have hg2 : w.heap.size + 1 < w3.heap.size + 1 := Nat.lt_succ_of_lt HZ3.out
            have hne : ¬ w3.heap.size = w3.heap.size + 1 := by omega
            clear u0 u1 v0 v1 HZ3 hlt2 hlt3
            generalize w3.heap.size + 1 = h2 at *
            generalize w3.heap.size = h1 at *
            obtain ⟨x10, x11, x1f, x1l⟩ := X1.out
            obtain ⟨x20, x21, x2f, x2l⟩ := X2.out
            have xf10 := x1f 0
            have xf11 := x1f 1
            have xf20 := x2f 0
            have xf21 := x2f 1
            clear x1f x2f
            go_wp2_with fail
            refine (HCF.out _).mono ?_
            rintro e w4 ⟨rfl, hb4⟩
            have T := Lib.hid (T.out.next hb4)
            have X1 := Lib.hid (X1.out.next hb4)
            have X2 := Lib.hid (X2.out.next hb4)
            clear x10 x11 x1l x20 x21 x2l xf10 xf11 xf20 xf21 hb4
            obtain ⟨x10, x11, x1f, x1l⟩ := X1.out
            obtain ⟨x20, x21, x2f, x2l⟩ := X2.out
            have xf10 := x1f 0
            have xf11 := x1f 1
            have xf20 := x2f 0
            have xf21 := x2f 1
            clear x1f x2f
            go_upto_region 12 with fail
            clear x10 x11 x1l x20 x21 x2l xf10 xf11 xf20 xf21
            obtain ⟨x10, x11, _, _⟩ := X1.out
            obtain ⟨x20, x21, _, _⟩ := X2.out
            have F0 := T.out.fin p1 q1 p2 q2
            have F1 := Lib.hid F0.1
            have F2 := Lib.hid F0.2
            clear F0
            obtain ⟨r0, r1, rf, _⟩ := T.out.x
            obtain ⟨y0, y1, yf, _⟩ := T.out.y
            have rf0 := rf 0
            have rf1 := rf 1
            have yf0 := yf 0
            have yf1 := yf 1
            clear rf yf
            have n1 : h1 ≠ w.heap.size := by omega
            have n2 : h1 ≠ w.heap.size + 1 := by omega
            have n3 : h2 ≠ w.heap.size := by omega
            have n4 : h2 ≠ w.heap.size + 1 := by omega
            have n5 : ¬ w.heap.size = h1 := by omega
            have n6 : ¬ w.heap.size + 1 = h1 := by omega
            have n7 : ¬ w.heap.size = h2 := by omega
            have n8 : ¬ w.heap.size + 1 = h2 := by omega
            go_region_held3 (fun w' => w'.cell? ⟨h1, 0, none⟩ = some (.int .i64 p1) ∧ w'.cell? ⟨h1, 1, none⟩ = some (.int .i64 q1) ∧ w'.cell? ⟨h2, 0, none⟩ = some (.int .i64 p2) ∧ w'.cell? ⟨h2, 1, none⟩ = some (.int .i64 q2)) (go_keep) (fail)
            all_goals
              go_wp2
              first
                | (refine bodyPost_ret (v := .tuple #[fracV p1 q1, fracV p2 q2, .int .i64 0]) ?_ rfl ⟨rfl, ext_drew F1.out.2.2⟩; obtain ⟨⟨z1, z2, _, _⟩, ⟨z3, z4, _, _⟩, _⟩ := F1.out; simp [results, Tryz.results45, go_sem, z1, z2, z3, z4]; done)
                | (refine bodyPost_ret (v := .tuple #[fracV p1 q1, fracV p2 q2, .int .i64 0]) ?_ rfl ⟨rfl, ext_drew F2.out.2.2⟩; obtain ⟨⟨z1, z2, _, _⟩, ⟨z3, z4, _, _⟩, _⟩ := F2.out; simp [results, Tryz.results45, go_sem, z1, z2, z3, z4]; done)
          · skip
            have T := Lib.hid ((T.out.next (ext1 w3 (.cells #[.int .i64 p2, .int .i64 q2] 34))).next (ext1 _ (.cells #[.int .i64 p1, .int .i64 q1] 34)) |>.next (ext_drew (Below.refl _ _)))
            have X2 := Lib.hid (((B2.new w3 p2 q2 34).next (ext1 _ (.cells #[.int .i64 p1, .int .i64 q1] 34))).next (ext_drew (Below.refl _ _)))
            have X1 := Lib.hid ((B2.new_at (g := w3.heap.size + 1) (W := w3.alloc (.cells #[.int .i64 p2, .int .i64 q2] 34)) p1 q1 34 (by simp)).next (ext_drew (Below.refl _ _)))
            generalize ((w3.alloc (.cells #[.int .i64 p2, .int .i64 q2] 34)).alloc (.cells #[.int .i64 p1, .int .i64 q1] 34)).drew = W4 at *
            have hg2 : w.heap.size + 1 < w3.heap.size := HZ3.out
            have hg1 : w.heap.size + 1 < w3.heap.size + 1 := Nat.lt_succ_of_lt HZ3.out
            have hne : ¬ w3.heap.size + 1 = w3.heap.size := by omega
            clear u0 u1 v0 v1 HZ3 hlt2 hlt3
            generalize w3.heap.size + 1 = h1 at *
            generalize w3.heap.size = h2 at *
            obtain ⟨x10, x11, x1f, x1l⟩ := X1.out
            obtain ⟨x20, x21, x2f, x2l⟩ := X2.out
            have xf10 := x1f 0
            have xf11 := x1f 1
            have xf20 := x2f 0
            have xf21 := x2f 1
            clear x1f x2f
            go_wp2_with fail
            refine (HCF.out _).mono ?_
            rintro e w4 ⟨rfl, hb4⟩
            have T := Lib.hid (T.out.next hb4)
            have X1 := Lib.hid (X1.out.next hb4)
            have X2 := Lib.hid (X2.out.next hb4)
            clear x10 x11 x1l x20 x21 x2l xf10 xf11 xf20 xf21 hb4
            obtain ⟨x10, x11, x1f, x1l⟩ := X1.out
            obtain ⟨x20, x21, x2f, x2l⟩ := X2.out
            have xf10 := x1f 0
            have xf11 := x1f 1
            have xf20 := x2f 0
            have xf21 := x2f 1
            clear x1f x2f
            go_upto_region 12 with fail
            clear x10 x11 x1l x20 x21 x2l xf10 xf11 xf20 xf21
            obtain ⟨x10, x11, _, _⟩ := X1.out
            obtain ⟨x20, x21, _, _⟩ := X2.out
            have F0 := T.out.fin p1 q1 p2 q2
            have F1 := Lib.hid F0.1
            have F2 := Lib.hid F0.2
            clear F0
            obtain ⟨r0, r1, rf, _⟩ := T.out.x
            obtain ⟨y0, y1, yf, _⟩ := T.out.y
            have rf0 := rf 0
            have rf1 := rf 1
            have yf0 := yf 0
            have yf1 := yf 1
            clear rf yf
            have n1 : h1 ≠ w.heap.size := by omega
            have n2 : h1 ≠ w.heap.size + 1 := by omega
            have n3 : h2 ≠ w.heap.size := by omega
            have n4 : h2 ≠ w.heap.size + 1 := by omega
            have n5 : ¬ w.heap.size = h1 := by omega
            have n6 : ¬ w.heap.size + 1 = h1 := by omega
            have n7 : ¬ w.heap.size = h2 := by omega
            have n8 : ¬ w.heap.size + 1 = h2 := by omega
            go_region_held3 (fun w' => w'.cell? ⟨h1, 0, none⟩ = some (.int .i64 p1) ∧ w'.cell? ⟨h1, 1, none⟩ = some (.int .i64 q1) ∧ w'.cell? ⟨h2, 0, none⟩ = some (.int .i64 p2) ∧ w'.cell? ⟨h2, 1, none⟩ = some (.int .i64 q2)) (go_keep) (fail)
            all_goals
              go_wp2
              first
                | (refine bodyPost_ret (v := .tuple #[fracV p1 q1, fracV p2 q2, .int .i64 0]) ?_ rfl ⟨rfl, ext_drew F1.out.2.2⟩; obtain ⟨⟨z1, z2, _, _⟩, ⟨z3, z4, _, _⟩, _⟩ := F1.out; simp [results, Tryz.results45, go_sem, z1, z2, z3, z4]; done)
                | (refine bodyPost_ret (v := .tuple #[fracV p1 q1, fracV p2 q2, .int .i64 0]) ?_ rfl ⟨rfl, ext_drew F2.out.2.2⟩; obtain ⟨⟨z1, z2, _, _⟩, ⟨z3, z4, _, _⟩, _⟩ := F2.out; simp [results, Tryz.results45, go_sem, z1, z2, z3, z4]; done)
end Go.Proofs.YtjgafjbccfjojaaGreat
