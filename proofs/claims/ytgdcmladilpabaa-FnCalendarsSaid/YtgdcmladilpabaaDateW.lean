/- LeapsBefore and DateOf: the walks. No condition but those that each theorem names. -/
import Derived.Test.YtgdcmladilpabaaCalW
import Derived.Test.YtgdcmladilpabaaSlices
namespace Go.Proofs.Ytgdcmladilpabaa
open Go.RowKit Go.Sort

/-- The number of a year's first day. -/
def startV (l c s y : Int) : Int := 365 * y + befV l c s y
theorem start_mono {l c s a b : Int} (hl : 0 ≤ l) (hc : 1 ≤ c) (h : a ≤ b) : startV l c s a ≤ startV l c s b := by
  have h1 : a * l ≤ b * l := Int.mul_le_mul_of_nonneg_right h hl
  have h2 : befV l c s a ≤ befV l c s b := Int.ediv_le_ediv (by omega) (by omega)
  unfold startV
  omega
theorem start_zero {l c s : Int} (hs : 0 ≤ s) (hs' : s ≤ c - 1) : startV l c s 0 = 0 := by
  unfold startV befV
  rw [Int.zero_mul, Int.zero_add, Int.ediv_eq_zero_of_lt hs (by omega)]; rfl
theorem start_bd {l c s y : Int} (hl : 0 ≤ l) (hl' : l ≤ c) (hc : 1 ≤ c) (hs : 0 ≤ s) (hs' : s ≤ c - 1) (hy : 0 ≤ y) : 365 * y ≤ startV l c s y ∧ startV l c s y ≤ 366 * y := by
  obtain ⟨b1, b2⟩ := befV_bd hl hl' hc hs hs' hy
  unfold startV
  omega
theorem year_ex {l c s n : Int} (hs : 0 ≤ s) (hs' : s ≤ c - 1) (hn : 0 ≤ n) : ∀ m : Nat, n < startV l c s m → ∃ y : Int, 0 ≤ y ∧ y < m ∧ startV l c s y ≤ n ∧ n < startV l c s (y + 1)
  | 0, h => by
    have := start_zero (l := l) hs hs'
    simp at h
    omega
  | m + 1, h => by
    by_cases h1 : n < startV l c s m
    · obtain ⟨y, a1, a2, a3, a4⟩ := year_ex hs hs' hn m h1
      exact ⟨y, a1, by omega, a3, a4⟩
    · exact ⟨m, by omega, by omega, by omega, by simpa using h⟩
def dateC (l c s n : Int) : Int := if ruleOk l c s = true then (if inR n 0 (startV l c s 100001 - 1) = true then 0 else 2) else 1
theorem date_zero {l c s n : Int} (h : dateC l c s n = 0) : ruleOk l c s = true ∧ inR n 0 (startV l c s 100001 - 1) = true ∧ ∃ y : Int, 0 ≤ y ∧ y ≤ 100000 ∧ startV l c s y ≤ n ∧ n < startV l c s (y + 1) := by
  unfold dateC at h
  split at h
  · rename_i h1
    split at h
    · rename_i h2
      obtain ⟨c1, c2, l1, l2, s1, s2⟩ := ruleOk_true.1 h1
      obtain ⟨n1, n2⟩ := inR_true.1 h2
      obtain ⟨y, a1, a2, a3, a4⟩ := year_ex (l := l) s1 s2 n1 100001 (by simpa using (show n < startV l c s 100001 by omega))
      exact ⟨h1, h2, y, a1, by omega, a3, a4⟩
    · cases h
  · cases h

/-- The rule's cells in block w.heap.size. -/
def RC (l c s : Int) (w W : World) : Prop := Below w.heap.size w W ∧ w.heap.size < W.heap.size ∧ W.cell? ⟨w.heap.size, 0, none⟩ = some (.int .i64 l) ∧ W.cell? ⟨w.heap.size, 1, none⟩ = some (.int .i64 c) ∧ W.cell? ⟨w.heap.size, 2, none⟩ = some (.int .i64 s)
theorem RC.new (l c s : Int) (w : World) (T : TypeId) : RC l c s w (w.alloc (.cells #[.int .i64 l, .int .i64 c, .int .i64 s] T)) :=
  ⟨ext1 _ _, by simp, by rw [cell_one]; rfl, by rw [cell_one]; rfl, by rw [cell_one]; rfl⟩
theorem RC.next {l c s : Int} {w W W' : World} (h : RC l c s w W) (k : Below W.heap.size W W') : RC l c s w W' := by
  obtain ⟨h1, h2, h3, h4, h5⟩ := h
  exact ⟨ext_trans h1 k, Nat.lt_of_lt_of_le h2 k.size, (k.cell (p := ⟨w.heap.size, 0, none⟩) h2).trans h3, (k.cell (p := ⟨w.heap.size, 1, none⟩) h2).trans h4, (k.cell (p := ⟨w.heap.size, 2, none⟩) h2).trans h5⟩

theorem iLeapsBefore_any (l c s y : Int) (w : World) :
    Calls Try.prog 27 #[ruleV l c s, .int .i64 y] w fun e w' => e = .returned (.tuple #[.int .i64 (if yearCode l c s y = 0 then befV l c s y else 0), .int .i64 (yearCode l c s y)]) ∧ Below w.heap.size w w' := by
  by_cases h0 : yearCode l c s y = 0
  · obtain ⟨a1, a2, a3, a4, a5, a6, a7, a8⟩ := yearCode_zero h0
    rw [if_pos h0]
    unfold ruleV
    go_enter Try.func27, Try.ntmps27
    go_wp2_with fail
    refine (checkYear_any l c s y _).mono ?_
    rintro e w1 ⟨rfl, hb1⟩
    obtain ⟨hc1, hf1⟩ := bcell hb1
    have hy1 := hb1.size
    (try simp at hy1)
    have hz1_0 : w.heap.size < w1.heap.size := by omega
    go_wp2_with fail
    refine (before_any l c s y _ a1 a2 a3 a4 a5 a6 a7 (by omega)).mono ?_
    rintro e w2 ⟨rfl, hb2⟩
    obtain ⟨hc2, hf2⟩ := bcell hb2
    have hy2 := hb2.size
    (try simp at hy2)
    have hz2_0 : w.heap.size < w2.heap.size := by omega
    go_wp2
    go_ret2
    refine ⟨by simp [h0], ?_⟩
    repeat (first | exact Below.refl _ _ | assumption | refine ext_alloc ?_ _ | refine ext_drew ?_ | refine ext_trans ?_ (by assumption))
  · have h0' : (yearCode l c s y == 0) = false := by simpa using h0
    have h0'' : (yearCode l c s y != 0) = true := by simpa using h0
    rw [if_neg h0]
    unfold ruleV
    go_enter Try.func27, Try.ntmps27
    go_wp2_with fail
    refine (checkYear_any l c s y _).mono ?_
    rintro e w1 ⟨rfl, hb1⟩
    obtain ⟨hc1, hf1⟩ := bcell hb1
    have hy1 := hb1.size
    (try simp at hy1)
    have hz1_0 : w.heap.size < w1.heap.size := by omega
    go_wp2
    go_ret2
    refine ⟨rfl, ?_⟩
    repeat (first | exact Below.refl _ _ | assumption | refine ext_alloc ?_ _ | refine ext_drew ?_ | refine ext_trans ?_ (by assumption))
theorem sLeapsBefore_any (l c s y : Int) (w : World) :
    Calls Try.prog 28 #[ruleV l c s, .int .i64 y] w fun e w' => e = .returned (.tuple #[.int .i64 (if yearCode l c s y = 0 then befV l c s y else 0), .int .i64 (yearCode l c s y)]) ∧ Below w.heap.size w w' := by
  by_cases h0 : yearCode l c s y = 0
  · obtain ⟨a1, a2, a3, a4, a5, a6, a7, a8⟩ := yearCode_zero h0
    rw [if_pos h0]
    unfold ruleV
    go_enter Try.func28, Try.ntmps28
    go_wp2_with fail
    refine (l24Code_any l c s y _).mono ?_
    rintro e w1 ⟨rfl, hb1⟩
    obtain ⟨hc1, hf1⟩ := bcell hb1
    have hy1 := hb1.size
    (try simp at hy1)
    have hz1_0 : w.heap.size < w1.heap.size := by omega
    go_wp2_with fail
    refine (l24Leaps_any l c s y _ a1 a2 a3 a4 a5 a6 a7 (by omega)).mono ?_
    rintro e w2 ⟨rfl, hb2⟩
    obtain ⟨hc2, hf2⟩ := bcell hb2
    have hy2 := hb2.size
    (try simp at hy2)
    have hz2_0 : w.heap.size < w2.heap.size := by omega
    go_wp2
    go_ret2
    refine ⟨by simp [h0], ?_⟩
    repeat (first | exact Below.refl _ _ | assumption | refine ext_alloc ?_ _ | refine ext_drew ?_ | refine ext_trans ?_ (by assumption))
  · have h0' : (yearCode l c s y == 0) = false := by simpa using h0
    have h0'' : (yearCode l c s y != 0) = true := by simpa using h0
    rw [if_neg h0]
    unfold ruleV
    go_enter Try.func28, Try.ntmps28
    go_wp2_with fail
    refine (l24Code_any l c s y _).mono ?_
    rintro e w1 ⟨rfl, hb1⟩
    obtain ⟨hc1, hf1⟩ := bcell hb1
    have hy1 := hb1.size
    (try simp at hy1)
    have hz1_0 : w.heap.size < w1.heap.size := by omega
    go_wp2
    go_ret2
    refine ⟨rfl, ?_⟩
    repeat (first | exact Below.refl _ _ | assumption | refine ext_alloc ?_ _ | refine ext_drew ?_ | refine ext_trans ?_ (by assumption))

set_option maxHeartbeats 2000000 in
theorem iDateOf_good (l c s n y : Int) (w : World) (hr : ruleOk l c s = true) (hi : inR n 0 (startV l c s 100001 - 1) = true) (y1 : 0 ≤ y) (y2 : y ≤ 100000) (h1 : startV l c s y ≤ n) (h2 : n < startV l c s (y + 1)) :
    Calls Try.prog 19 #[ruleV l c s, .int .i64 n] w fun e w' => e = .returned (.tuple #[.int .i64 y, .int .i64 (n - startV l c s y), .int .i64 0]) ∧ Below w.heap.size w w' := by
  obtain ⟨c1, c2, l1, l2, s1, s2⟩ := ruleOk_true.1 hr
  have HV : Hid (∀ W, Calls Try.prog 30 #[ruleV l c s] W fun e w' => e = .returned (.bool true) ∧ Below W.heap.size W w') := fun W => by
    have h := ValidRule_any l c s W
    rwa [hr] at h
  have HF : Hid (∀ y W, 0 ≤ y → y ≤ 100001 → Calls Try.prog 100 #[ruleV l c s, .int .i64 y] W fun e w' => e = .returned (.int .i64 (startV l c s y)) ∧ Below W.heap.size W w') := fun y W h1 h2 => first_any l c s y W l1 l2 c1 c2 s1 s2 h1 h2
  have HZ := Lib.hid (start_zero (l := l) s1 s2)
  have HN := Lib.hid hi
  have HM := Lib.hid (fun (a b : Int) (h : a ≤ b) => start_mono (s := s) l1 c1 h)
  have HBD := Lib.hid (fun (y : Int) (hy : 0 ≤ y) => start_bd l1 l2 c1 s1 s2 hy)
  have H1 := Lib.hid h1
  have H2 := Lib.hid h2
  have hE := HBD.out 100001 (by omega)
  obtain ⟨e1, e2⟩ := hE
  have hY := HBD.out y (by omega)
  obtain ⟨e3, e4⟩ := hY
  obtain ⟨n1, n2⟩ := inR_true.1 hi
  have HF0 : Hid (∀ W, Calls Try.prog 100 #[ruleV l c s, .int .i64 0] W fun e w' => e = .returned (.int .i64 0) ∧ Below W.heap.size W w') := fun W => by
    have h := HF.out 0 W (by omega) (by omega)
    rwa [HZ.out] at h
  have HFE := Lib.hid (fun W => HF.out 100001 W (by omega) (by omega))
  clear hr hi h1 h2
  generalize hEE : startV l c s 100001 = E at *
  unfold ruleV at *
  go_enter Try.func19, Try.ntmps19
  go_wp2_with fail
  refine (HV.out _).mono ?_
  rintro e w1 ⟨rfl, hb1⟩
  obtain ⟨hc1, hf1⟩ := bcell hb1
  have hy1 := hb1.size
  (try simp at hy1)
  have hz1_0 : w.heap.size < w1.heap.size := by omega
  have hRC : RC l c s w w1 := (RC.new l c s w _).next hb1
  obtain ⟨_, _, k0', k1', k2'⟩ := id hRC
  go_wp2_with fail
  have k0 : ∀ d os, (grow (redrawn w1 d) os).cell? ⟨w.heap.size, 0, none⟩ = some (.int .i64 l) := cell_regrown k0'
  have k1 : ∀ d os, (grow (redrawn w1 d) os).cell? ⟨w.heap.size, 1, none⟩ = some (.int .i64 c) := cell_regrown k1'
  have k2 : ∀ d os, (grow (redrawn w1 d) os).cell? ⟨w.heap.size, 2, none⟩ = some (.int .i64 s) := cell_regrown k2'
  refine wp_region_quiet_below (by kernel_rfl) (by kernel_rfl) ?_
  repeat (first | go_big_quiet_step ((first | (with_reducible exact Calls.regrown_of (HF0.out _)) | (with_reducible exact Calls.regrown_of (HFE.out _)) | (with_reducible exact regrown_same (within_is HN.out _)))) | quiet_step ((first | (with_reducible exact Calls.regrown_of (HF0.out _)) | (with_reducible exact Calls.regrown_of (HFE.out _)) | (with_reducible exact regrown_same (within_is HN.out _)))))
  refine wpQuiet_nil ?_
  intro _ hw'
  obtain ⟨⟨dq, oq⟩, hw''⟩ := hw'
  subst hw''
  obtain ⟨w2, hW2⟩ : ∃ Wq, Wq = grow (redrawn w1 dq) oq := ⟨_, rfl⟩
  have hb2 : Below w1.heap.size w1 w2 := by rw [hW2]; exact below_regrown _ _ _
  rw [← hW2]
  clear hW2
  obtain ⟨hc2, hf2⟩ := bcell hb2
  have hy2 := hb2.size
  have hz2_0 : w.heap.size < w2.heap.size := by omega
  have HRC2 := Lib.hid (hRC.next hb2)
  clear hRC k0 k1 k2 k0' k1' k2' hb1 hc1 hf1 hb2 hc2 hf2
  go_wp2_with fail
  go_loopw [7, 8] (fun a b wr => ∃ lo hi : Int, a = .int .i64 lo ∧ b = .int .i64 hi ∧ 0 ≤ lo ∧ lo ≤ y ∧ y ≤ hi ∧ hi ≤ 100000 ∧ Hid (RC l c s w wr)) (fun a b _ => (intOf b - intOf a).toNat)
  case atStart => exact ⟨0, 100000, rfl, rfl, by omega, by omega, by omega, by omega, HRC2.out⟩
  case round =>
    obtain ⟨lo, hi, rfl, rfl, b1, b2, b3, b4, HRC⟩ := hrel
    clear HRC2
    obtain ⟨hbe, hbs, k0, k1, k2⟩ := HRC.out
    by_cases hlt : lo < hi
    · obtain ⟨m, hm⟩ : ∃ m, (lo + hi + 1).tdiv 2 = m := ⟨_, rfl⟩
      have hm2 : (lo + hi + 1) / 2 = m := by rw [← Int.tdiv_eq_ediv_of_nonneg (by omega)]; exact hm
      have m1 : lo < m ∧ m ≤ hi := by omega
      obtain ⟨m1, m2⟩ := m1
      obtain ⟨f1, f2⟩ := HBD.out m (by omega)
      have HFM := Lib.hid (fun W => HF.out m W (by omega) (by omega))
      have hcmp : (startV l c s m ≤ n) ↔ m ≤ y := by
        constructor
        · intro h
          rcases Int.lt_or_le y m with h3 | h3
          · have := HM.out (y + 1) m (by omega)
            have := H2.out
            omega
          · exact h3
        · intro h
          have := HM.out m y h
          have := H1.out
          omega
      have HCM := Lib.hid hcmp
      clear hcmp
      generalize startV l c s m = v at *
      have HMM := Lib.hid hm2
      clear hm2
      by_cases hle : v ≤ n
      · have hmy := HCM.out.1 hle
        go_wp2_with fail
        refine (HFM.out _).mono ?_
        rintro e w3 ⟨rfl, hb3⟩
        go_wp2
        go_roundw
        case rel => exact ⟨m, hi, rfl, rfl, by omega, by omega, by omega, by omega, HRC.out.next hb3⟩
        case measure => simp [intOf]; omega
      · have hmy := mt HCM.out.2 hle
        go_wp2_with fail
        refine (HFM.out _).mono ?_
        rintro e w3 ⟨rfl, hb3⟩
        go_wp2
        go_roundw
        case rel => exact ⟨lo, m - 1, rfl, rfl, by omega, by omega, by omega, by omega, HRC.out.next hb3⟩
        case measure => simp [intOf]; omega
    · obtain rfl : lo = y := by omega
      have HFY := Lib.hid (fun W => HF.out lo W (by omega) (by omega))
      generalize hvv : startV l c s lo = v at *
      have HVE := Lib.hid hvv
      clear hvv
      go_wp2_with fail
      refine (HFY.out _).mono ?_
      rintro e w3 ⟨rfl, hb3⟩
      go_wp2
      exact bodyPost_ret (v := .tuple #[.int .i64 lo, .int .i64 (n - v), .int .i64 0]) (by simp [results, Try.results19, go_sem]; done) rfl ⟨by rw [HVE.out], ext_trans hbe hb3⟩
set_option maxHeartbeats 2000000 in
theorem sDateOf_good (l c s n y : Int) (w : World) (hr : ruleOk l c s = true) (hi : inR n 0 (startV l c s 100001 - 1) = true) (y1 : 0 ≤ y) (y2 : y ≤ 100000) (h1 : startV l c s y ≤ n) (h2 : n < startV l c s (y + 1)) :
    Calls Try.prog 20 #[ruleV l c s, .int .i64 n] w fun e w' => e = .returned (.tuple #[.int .i64 y, .int .i64 (n - startV l c s y), .int .i64 0]) ∧ Below w.heap.size w w' := by
  obtain ⟨c1, c2, l1, l2, s1, s2⟩ := ruleOk_true.1 hr
  have HV : Hid (∀ W, Calls Try.prog 105 #[ruleV l c s] W fun e w' => e = .returned (.bool true) ∧ Below W.heap.size W w') := fun W => by
    have h := l24Ok_any l c s W
    rwa [hr] at h
  have HF : Hid (∀ y W, 0 ≤ y → y ≤ 100001 → Calls Try.prog 104 #[ruleV l c s, .int .i64 y] W fun e w' => e = .returned (.int .i64 (startV l c s y)) ∧ Below W.heap.size W w') := fun y W h1 h2 => l24Start_any l c s y W l1 l2 c1 c2 s1 s2 h1 h2
  have HN := Lib.hid hi
  have HM := Lib.hid (fun (a b : Int) (h : a ≤ b) => start_mono (s := s) l1 c1 h)
  have HBD := Lib.hid (fun (y : Int) (hy : 0 ≤ y) => start_bd l1 l2 c1 s1 s2 hy)
  have H1 := Lib.hid h1
  have H2 := Lib.hid h2
  have hE := HBD.out 100001 (by omega)
  obtain ⟨e1, e2⟩ := hE
  have hY := HBD.out y (by omega)
  obtain ⟨e3, e4⟩ := hY
  obtain ⟨_, e5⟩ := HBD.out (y + 1) (by omega)
  obtain ⟨n1, n2⟩ := inR_true.1 hi
  have HFE := Lib.hid (fun W => HF.out 100001 W (by omega) (by omega))
  have hq : n / 366 ≤ y := by omega
  have hq0 : 0 ≤ n / 366 := by omega
  have hqt : n.tdiv 366 = n / 366 := Int.tdiv_eq_ediv_of_nonneg n1
  clear hr hi h1 h2 e5
  generalize hEE : startV l c s 100001 = E at *
  generalize n / 366 = q at *
  unfold ruleV at *
  go_enter Try.func20, Try.ntmps20
  go_wp2_with fail
  refine (HV.out _).mono ?_
  rintro e w1 ⟨rfl, hb1⟩
  obtain ⟨hc1, hf1⟩ := bcell hb1
  have hy1 := hb1.size
  (try simp at hy1)
  have hz1_0 : w.heap.size < w1.heap.size := by omega
  have hRC : RC l c s w w1 := (RC.new l c s w _).next hb1
  obtain ⟨_, _, k0', k1', k2'⟩ := id hRC
  go_wp2_with fail
  refine (HFE.out _).mono ?_
  rintro e w2 ⟨rfl, hb2⟩
  have HRC2 := Lib.hid (hRC.next hb2)
  obtain ⟨_, _, k0, k1, k2⟩ := HRC2.out
  clear hRC k0' k1' k2' hb1 hc1 hf1 hb2
  go_wp2_with (go_at_call 102; (with_reducible refine (l00In_is HN.out _).mono ?_); rintro e w' ⟨rfl, rfl⟩)
  clear k0 k1 k2
  go_loopw [7] (fun a wr => ∃ z : Int, a = .int .i64 z ∧ 0 ≤ z ∧ z ≤ y ∧ Hid (RC l c s w wr)) (fun a _ => (y - intOf a).toNat)
  case atStart => exact ⟨q, val_int (by omega), by omega, by omega, HRC2.out⟩
  case round =>
    obtain ⟨z, rfl, b1, b2, HRC⟩ := hrel
    clear HRC2
    obtain ⟨hbe, hbs, k0, k1, k2⟩ := HRC.out
    by_cases hlt : z < y
    · have hle : startV l c s (z + 1) ≤ n := by
        have := HM.out (z + 1) y (by omega)
        have := H1.out
        omega
      have HFM := Lib.hid (fun W => HF.out (z + 1) W (by omega) (by omega))
      generalize startV l c s (z + 1) = v at *
      go_wp2_with fail
      refine (HFM.out _).mono ?_
      rintro e w3 ⟨rfl, hb3⟩
      go_wp2
      go_roundw
      case rel => exact ⟨z + 1, rfl, by omega, by omega, HRC.out.next hb3⟩
      case measure => simp [intOf]; omega
    · obtain rfl : z = y := by omega
      have HFM := Lib.hid (fun W => HF.out (z + 1) W (by omega) (by omega))
      have HFY := Lib.hid (fun W => HF.out z W (by omega) (by omega))
      have hgt : ¬ startV l c s (z + 1) ≤ n := by have := H2.out; omega
      generalize startV l c s (z + 1) = u at *
      generalize hvv : startV l c s z = v at *
      have HVE := Lib.hid hvv
      clear hvv
      go_wp2_with fail
      refine (HFM.out _).mono ?_
      rintro e w3 ⟨rfl, hb3⟩
      obtain ⟨hbe3, hbs3, j0, j1, j2⟩ := HRC.out.next hb3
      clear k0 k1 k2
      go_wp2_with fail
      refine (HFY.out _).mono ?_
      rintro e w4 ⟨rfl, hb4⟩
      go_wp2
      exact bodyPost_ret (v := .tuple #[.int .i64 z, .int .i64 (n - v), .int .i64 0]) (by simp [results, Try.results20, go_sem]; done) rfl ⟨by rw [HVE.out], ext_trans hbe3 hb4⟩
set_option maxHeartbeats 1000000 in
theorem iDateOf_bad (l c s n : Int) (w : World) (h0 : ¬ dateC l c s n = 0) :
    Calls Try.prog 19 #[ruleV l c s, .int .i64 n] w fun e w' => e = .returned (.tuple #[.int .i64 0, .int .i64 0, .int .i64 (dateC l c s n)]) ∧ Below w.heap.size w w' := by
  cases hr : ruleOk l c s
  · have e1 : dateC l c s n = 1 := by simp [dateC, hr]
    rw [e1]
    have HV : Hid (∀ W, Calls Try.prog 30 #[ruleV l c s] W fun e w' => e = .returned (.bool false) ∧ Below W.heap.size W w') := fun W => by
      have h := ValidRule_any l c s W
      rwa [hr] at h
    clear e1 h0 hr
    unfold ruleV at *
    go_enter Try.func19, Try.ntmps19
    go_wp2_with fail
    refine (HV.out _).mono ?_
    rintro e w1 ⟨rfl, hb1⟩
    obtain ⟨hc1, hf1⟩ := bcell hb1
    have hy1 := hb1.size
    (try simp at hy1)
    have hz1_0 : w.heap.size < w1.heap.size := by omega
    go_wp2
    exact bodyPost_ret (v := .tuple #[.int .i64 0, .int .i64 0, .int .i64 1]) (by simp [results, Try.results19, go_sem]; done) rfl ⟨rfl, ext_trans (ext1 _ _) hb1⟩
  · cases hi : inR n 0 (startV l c s 100001 - 1)
    · have e1 : dateC l c s n = 2 := by simp [dateC, hr, hi]
      rw [e1]
      obtain ⟨c1, c2, l1, l2, s1, s2⟩ := ruleOk_true.1 hr
      have HV : Hid (∀ W, Calls Try.prog 30 #[ruleV l c s] W fun e w' => e = .returned (.bool true) ∧ Below W.heap.size W w') := fun W => by
        have h := ValidRule_any l c s W
        rwa [hr] at h
      have HF : Hid (∀ y W, 0 ≤ y → y ≤ 100001 → Calls Try.prog 100 #[ruleV l c s, .int .i64 y] W fun e w' => e = .returned (.int .i64 (startV l c s y)) ∧ Below W.heap.size W w') := fun y W h1 h2 => first_any l c s y W l1 l2 c1 c2 s1 s2 h1 h2
      have HF0 : Hid (∀ W, Calls Try.prog 100 #[ruleV l c s, .int .i64 0] W fun e w' => e = .returned (.int .i64 0) ∧ Below W.heap.size W w') := fun W => by
        have h := HF.out 0 W (by omega) (by omega)
        rwa [start_zero s1 s2] at h
      have HFE := Lib.hid (fun W => HF.out 100001 W (by omega) (by omega))
      have HN := Lib.hid hi
      obtain ⟨e3, e4⟩ := start_bd (y := 100001) l1 l2 c1 s1 s2 (by omega)
      clear e1 h0 hr hi
      generalize startV l c s 100001 = E at *
      unfold ruleV at *
      go_enter Try.func19, Try.ntmps19
      go_wp2_with fail
      refine (HV.out _).mono ?_
      rintro e w1 ⟨rfl, hb1⟩
      obtain ⟨hc1, hf1⟩ := bcell hb1
      have hy1 := hb1.size
      (try simp at hy1)
      have hz1_0 : w.heap.size < w1.heap.size := by omega
      have hRC : RC l c s w w1 := (RC.new l c s w _).next hb1
      obtain ⟨_, _, k0', k1', k2'⟩ := id hRC
      go_wp2_with fail
      have k0 : ∀ d os, (grow (redrawn w1 d) os).cell? ⟨w.heap.size, 0, none⟩ = some (.int .i64 l) := cell_regrown k0'
      have k1 : ∀ d os, (grow (redrawn w1 d) os).cell? ⟨w.heap.size, 1, none⟩ = some (.int .i64 c) := cell_regrown k1'
      have k2 : ∀ d os, (grow (redrawn w1 d) os).cell? ⟨w.heap.size, 2, none⟩ = some (.int .i64 s) := cell_regrown k2'
      refine wp_region_quiet_below (by kernel_rfl) (by kernel_rfl) ?_
      repeat (first | go_big_quiet_step ((first | (with_reducible exact Calls.regrown_of (HF0.out _)) | (with_reducible exact Calls.regrown_of (HFE.out _)) | (with_reducible exact regrown_same (within_is HN.out _)))) | quiet_step ((first | (with_reducible exact Calls.regrown_of (HF0.out _)) | (with_reducible exact Calls.regrown_of (HFE.out _)) | (with_reducible exact regrown_same (within_is HN.out _)))))
      refine wpQuiet_nil ?_
      intro _ hw'
      obtain ⟨⟨dq, oq⟩, hw''⟩ := hw'
      subst hw''
      obtain ⟨w2, hW2⟩ : ∃ Wq, Wq = grow (redrawn w1 dq) oq := ⟨_, rfl⟩
      have hb2 : Below w1.heap.size w1 w2 := by rw [hW2]; exact below_regrown _ _ _
      rw [← hW2]
      clear hW2
      obtain ⟨hc2, hf2⟩ := bcell hb2
      have hy2 := hb2.size
      have hz2_0 : w.heap.size < w2.heap.size := by omega
      go_wp2
      exact bodyPost_ret (v := .tuple #[.int .i64 0, .int .i64 0, .int .i64 2]) (by simp [results, Try.results19, go_sem]; done) rfl ⟨rfl, ext_trans hRC.1 hb2⟩
    · exact absurd (by simp [dateC, hr, hi]) h0
set_option maxHeartbeats 1000000 in
theorem sDateOf_bad (l c s n : Int) (w : World) (h0 : ¬ dateC l c s n = 0) :
    Calls Try.prog 20 #[ruleV l c s, .int .i64 n] w fun e w' => e = .returned (.tuple #[.int .i64 0, .int .i64 0, .int .i64 (dateC l c s n)]) ∧ Below w.heap.size w w' := by
  cases hr : ruleOk l c s
  · have e1 : dateC l c s n = 1 := by simp [dateC, hr]
    rw [e1]
    have HV : Hid (∀ W, Calls Try.prog 105 #[ruleV l c s] W fun e w' => e = .returned (.bool false) ∧ Below W.heap.size W w') := fun W => by
      have h := l24Ok_any l c s W
      rwa [hr] at h
    clear e1 h0 hr
    unfold ruleV at *
    go_enter Try.func20, Try.ntmps20
    go_wp2_with fail
    refine (HV.out _).mono ?_
    rintro e w1 ⟨rfl, hb1⟩
    obtain ⟨hc1, hf1⟩ := bcell hb1
    have hy1 := hb1.size
    (try simp at hy1)
    have hz1_0 : w.heap.size < w1.heap.size := by omega
    go_wp2
    exact bodyPost_ret (v := .tuple #[.int .i64 0, .int .i64 0, .int .i64 1]) (by simp [results, Try.results20, go_sem]; done) rfl ⟨rfl, ext_trans (ext1 _ _) hb1⟩
  · cases hi : inR n 0 (startV l c s 100001 - 1)
    · have e1 : dateC l c s n = 2 := by simp [dateC, hr, hi]
      rw [e1]
      obtain ⟨c1, c2, l1, l2, s1, s2⟩ := ruleOk_true.1 hr
      have HV : Hid (∀ W, Calls Try.prog 105 #[ruleV l c s] W fun e w' => e = .returned (.bool true) ∧ Below W.heap.size W w') := fun W => by
        have h := l24Ok_any l c s W
        rwa [hr] at h
      have HFE : Hid (∀ W, Calls Try.prog 104 #[ruleV l c s, .int .i64 100001] W fun e w' => e = .returned (.int .i64 (startV l c s 100001)) ∧ Below W.heap.size W w') := fun W => l24Start_any l c s 100001 W l1 l2 c1 c2 s1 s2 (by omega) (by omega)
      have HN := Lib.hid hi
      obtain ⟨e3, e4⟩ := start_bd (y := 100001) l1 l2 c1 s1 s2 (by omega)
      clear e1 h0 hr hi
      generalize startV l c s 100001 = E at *
      unfold ruleV at *
      go_enter Try.func20, Try.ntmps20
      go_wp2_with fail
      refine (HV.out _).mono ?_
      rintro e w1 ⟨rfl, hb1⟩
      obtain ⟨hc1, hf1⟩ := bcell hb1
      have hy1 := hb1.size
      (try simp at hy1)
      have hz1_0 : w.heap.size < w1.heap.size := by omega
      have hRC : RC l c s w w1 := (RC.new l c s w _).next hb1
      obtain ⟨_, _, k0', k1', k2'⟩ := id hRC
      go_wp2_with fail
      refine (HFE.out _).mono ?_
      rintro e w2 ⟨rfl, hb2⟩
      go_wp2_with (go_at_call 102; (with_reducible refine (l00In_is HN.out _).mono ?_); rintro e w' ⟨rfl, rfl⟩)
      exact bodyPost_ret (v := .tuple #[.int .i64 0, .int .i64 0, .int .i64 2]) (by simp [results, Try.results20, go_sem]; done) rfl ⟨rfl, ext_trans hRC.1 hb2⟩
    · exact absurd (by simp [dateC, hr, hi]) h0
end Go.Proofs.Ytgdcmladilpabaa
