/- The walks of the calendars' small functions. No condition but those that each theorem names. -/
import Derived.Test.YtgdcmladilpabaaBase
namespace Go.Proofs.Ytgdcmladilpabaa
open Go.RowKit Go.Sort

@[reducible] def ruleV (l c s : Int) : Value := .agg #[.int .i64 l, .int .i64 c, .int .i64 s]
def befV (l c s y : Int) : Int := (y * l + s) / c
def leapB (l c s y : Int) : Bool := decide (befV l c s y < befV l c s (y + 1))
theorem befV_bd {l c s y : Int} (hl : 0 ≤ l) (hl' : l ≤ c) (hc : 1 ≤ c) (hs : 0 ≤ s) (hs' : s ≤ c - 1) (hy : 0 ≤ y) : 0 ≤ befV l c s y ∧ befV l c s y ≤ y := by
  unfold befV
  have h1 : 0 ≤ y * l := Int.mul_nonneg hy hl
  have h2 : y * l ≤ y * c := Int.mul_le_mul_of_nonneg_left hl' hy
  refine ⟨Int.ediv_nonneg (by omega) (by omega), ?_⟩
  have h3 : (y * l + s) / c < y + 1 := Int.ediv_lt_of_lt_mul (by omega) (by rw [Int.add_mul]; omega)
  omega
theorem befV_step {l c s y : Int} (hl : 0 ≤ l) (hl' : l ≤ c) (hc : 1 ≤ c) : befV l c s y ≤ befV l c s (y + 1) ∧ befV l c s (y + 1) ≤ befV l c s y + 1 := by
  unfold befV
  have e : (y + 1) * l + s = y * l + s + l := by rw [Int.add_mul]; omega
  rw [e]
  constructor
  · exact Int.ediv_le_ediv (by omega) (by omega)
  · have : (y * l + s + l) / c ≤ (y * l + s + c) / c := Int.ediv_le_ediv (by omega) (by omega)
    rw [Int.add_ediv_of_dvd_right (Int.dvd_refl c), Int.ediv_self (by omega)] at this
    exact this

/-- A rule is valid. -/
def ruleOk (l c s : Int) : Bool := inR c 1 1000 && inR l 0 c && inR s 0 (c - 1)
theorem ruleOk_true {l c s : Int} : ruleOk l c s = true ↔ 1 ≤ c ∧ c ≤ 1000 ∧ 0 ≤ l ∧ l ≤ c ∧ 0 ≤ s ∧ s ≤ c - 1 := by
  unfold ruleOk; rw [Bool.and_eq_true, Bool.and_eq_true, inR_true, inR_true, inR_true]; omega
/-- The code of a rule and a year. -/
def yearCode (l c s y : Int) : Int := if ruleOk l c s = true then (if inR y 0 100000 = true then 0 else 2) else 1
theorem yearCode_zero {l c s y : Int} (h : yearCode l c s y = 0) : 0 ≤ l ∧ l ≤ c ∧ 1 ≤ c ∧ c ≤ 1000 ∧ 0 ≤ s ∧ s ≤ c - 1 ∧ 0 ≤ y ∧ y ≤ 100000 := by
  unfold yearCode at h
  split at h
  · split at h
    · rename_i h1 h2
      have h1 := ruleOk_true.1 h1
      have h2 := inR_true.1 h2
      omega
    · cases h
  · cases h

theorem before_any (l c s y : Int) (w : World) (hl : 0 ≤ l) (hl' : l ≤ c) (hc : 1 ≤ c) (hc' : c ≤ 1000) (hs : 0 ≤ s) (hs' : s ≤ c - 1) (hy : 0 ≤ y) (hy' : y ≤ 200000) :
    Calls Try.prog 109 #[ruleV l c s, .int .i64 y] w fun e w' => e = .returned (.int .i64 (befV l c s y)) ∧ Below w.heap.size w w' := by
  have h1 : 0 ≤ y * l := Int.mul_nonneg hy hl
  have h2 : y * l ≤ 200000000 := Int.le_trans (Int.mul_le_mul hy' (Int.le_trans hl' hc') hl (by omega)) (by omega)
  unfold ruleV
  go_enter Try.func109, Try.ntmps109
  go_wp2
  go_ret
  exact ⟨rfl, ext_alloc (Below.refl _ _) _⟩
theorem isLeapM_any (l c s y : Int) (w : World) (hl : 0 ≤ l) (hl' : l ≤ c) (hc : 1 ≤ c) (hc' : c ≤ 1000) (hs : 0 ≤ s) (hs' : s ≤ c - 1) (hy : 0 ≤ y) (hy' : y ≤ 100001) :
    Calls Try.prog 106 #[ruleV l c s, .int .i64 y] w fun e w' => e = .returned (.bool (leapB l c s y)) ∧ Below w.heap.size w w' := by
  unfold ruleV
  have hs1 : IntKind.i64.wrap (y + 1) = y + 1 := IntWalk.i64_in _ (by omega)
  go_enter Try.func106, Try.ntmps106
  go_wp2
  generalize hW : w.alloc _ = W
  have hb0 : Below w.heap.size w W := by rw [← hW]; exact ext_alloc (Below.refl _ _) _
  have k0 : ∀ d os, (grow (redrawn W d) os).cell? ⟨w.heap.size, 0, none⟩ = some (.int .i64 l) := cell_regrown (by rw [← hW]; simp)
  have k1 : ∀ d os, (grow (redrawn W d) os).cell? ⟨w.heap.size, 1, none⟩ = some (.int .i64 c) := cell_regrown (by rw [← hW]; simp)
  have k2 : ∀ d os, (grow (redrawn W d) os).cell? ⟨w.heap.size, 2, none⟩ = some (.int .i64 s) := cell_regrown (by rw [← hW]; simp)
  refine wp_region_quiet_below (by kernel_rfl) (by kernel_rfl) ?_
  repeat (first | go_big_quiet_step ((first | exact Calls.regrown_of (before_any _ _ _ _ _ hl hl' hc hc' hs hs' hy (by omega)) | exact Calls.regrown_of (before_any _ _ _ _ _ hl hl' hc hc' hs hs' (by omega) (by omega)))) | quiet_step ((first | exact Calls.regrown_of (before_any _ _ _ _ _ hl hl' hc hc' hs hs' hy (by omega)) | exact Calls.regrown_of (before_any _ _ _ _ _ hl hl' hc hc' hs hs' (by omega) (by omega)))))
  refine wpQuiet_nil ?_
  intro _ hw'
  obtain ⟨⟨dq, oq⟩, hw''⟩ := hw'
  subst hw''
  go_wp2
  go_ret
  exact ⟨rfl, ext_trans hb0 (below_regrown W dq oq)⟩
theorem ValidRule_any (l c s : Int) (w : World) :
    Calls Try.prog 30 #[ruleV l c s] w fun e w' => e = .returned (.bool (ruleOk l c s)) ∧ Below w.heap.size w w' := by
  unfold ruleV ruleOk
  cases h1 : inR c 1 1000
  · go_enter Try.func30, Try.ntmps30
    go_wp2_with (go_at_call 99; refine (within_any _ _ _ _).mono ?_; rintro e w' ⟨rfl, rfl⟩)
    go_ret
    exact ⟨rfl, ext_alloc (Below.refl _ _) _⟩
  · have h1' := inR_true.1 h1
    obtain ⟨h1a, h1b⟩ := h1'
    cases h2 : inR l 0 c
    all_goals
      go_enter Try.func30, Try.ntmps30
      go_wp2_with (go_at_call 99; refine (within_any _ _ _ _).mono ?_; rintro e w' ⟨rfl, rfl⟩)
      go_ret
      exact ⟨rfl, ext_alloc (Below.refl _ _) _⟩
theorem checkYear_any (l c s y : Int) (w : World) :
    Calls Try.prog 98 #[ruleV l c s, .int .i64 y] w fun e w' => e = .returned (.int .i64 (yearCode l c s y)) ∧ Below w.heap.size w w' := by
  unfold yearCode
  cases h1 : ruleOk l c s
  · unfold ruleV
    go_enter Try.func98, Try.ntmps98
    go_wp2_with fail
    refine (ValidRule_any l c s _).mono ?_
    rintro e w1 ⟨rfl, hb1⟩
    obtain ⟨hc1, hf1⟩ := bcell hb1
    have hy1 := hb1.size
    (try simp at hy1)
    have hz1_0 : w.heap.size < w1.heap.size := by omega
    go_wp2
    go_ret
    exact ⟨rfl, ext_trans (ext_alloc (Below.refl _ _) _) hb1⟩
  · cases h2 : inR y 0 100000
    all_goals
      unfold ruleV
      go_enter Try.func98, Try.ntmps98
      go_wp2_with fail
      refine (ValidRule_any l c s _).mono ?_
      rintro e w1 ⟨rfl, hb1⟩
      obtain ⟨hc1, hf1⟩ := bcell hb1
      have hy1 := hb1.size
      (try simp at hy1)
      have hz1_0 : w.heap.size < w1.heap.size := by omega
      go_wp2_with (go_at_call 99; refine (within_any _ _ _ _).mono ?_; rintro e w' ⟨rfl, rfl⟩)
      go_ret
      exact ⟨rfl, ext_trans (ext_alloc (Below.refl _ _) _) hb1⟩
theorem iIsLeap_any (l c s y : Int) (w : World) :
    Calls Try.prog 25 #[ruleV l c s, .int .i64 y] w fun e w' => e = .returned (.tuple #[.bool (decide (yearCode l c s y = 0) && leapB l c s y), .int .i64 (yearCode l c s y)]) ∧ Below w.heap.size w w' := by
  by_cases h0 : yearCode l c s y = 0
  · obtain ⟨a1, a2, a3, a4, a5, a6, a7, a8⟩ := yearCode_zero h0
    unfold ruleV
    go_enter Try.func25, Try.ntmps25
    go_wp2_with fail
    refine (checkYear_any l c s y _).mono ?_
    rintro e w1 ⟨rfl, hb1⟩
    obtain ⟨hc1, hf1⟩ := bcell hb1
    have hy1 := hb1.size
    (try simp at hy1)
    have hz1_0 : w.heap.size < w1.heap.size := by omega
    go_wp2_with fail
    refine (isLeapM_any l c s y _ a1 a2 a3 a4 a5 a6 a7 (by omega)).mono ?_
    rintro e w2 ⟨rfl, hb2⟩
    obtain ⟨hc2, hf2⟩ := bcell hb2
    have hy2 := hb2.size
    (try simp at hy2)
    have hz2_0 : w.heap.size < w2.heap.size := by omega
    go_wp2
    go_ret2
    refine ⟨by simp [h0], ?_⟩
    repeat (first | exact Below.refl _ _ | assumption | refine ext_alloc ?_ _ | refine ext_drew ?_ | refine ext_trans ?_ (by assumption))
  · have h0' : (yearCode l c s y == 0) = false := by simpa using h0
    have h0'' : (yearCode l c s y != 0) = true := by simpa using h0
    unfold ruleV
    go_enter Try.func25, Try.ntmps25
    go_wp2_with fail
    refine (checkYear_any l c s y _).mono ?_
    rintro e w1 ⟨rfl, hb1⟩
    obtain ⟨hc1, hf1⟩ := bcell hb1
    have hy1 := hb1.size
    (try simp at hy1)
    have hz1_0 : w.heap.size < w1.heap.size := by omega
    go_wp2
    go_ret2
    refine ⟨by simp [h0], ?_⟩
    repeat (first | exact Below.refl _ _ | assumption | refine ext_alloc ?_ _ | refine ext_drew ?_ | refine ext_trans ?_ (by assumption))
theorem first_any (l c s y : Int) (w : World) (hl : 0 ≤ l) (hl' : l ≤ c) (hc : 1 ≤ c) (hc' : c ≤ 1000) (hs : 0 ≤ s) (hs' : s ≤ c - 1) (hy : 0 ≤ y) (hy' : y ≤ 100001) :
    Calls Try.prog 100 #[ruleV l c s, .int .i64 y] w fun e w' => e = .returned (.int .i64 (365 * y + befV l c s y)) ∧ Below w.heap.size w w' := by
  obtain ⟨b1, b2⟩ := befV_bd hl hl' hc hs hs' hy
  unfold ruleV
  go_enter Try.func100, Try.ntmps100
  go_wp2_with fail
  refine (before_any l c s y _ hl hl' hc hc' hs hs' hy (by omega)).mono ?_
  rintro e w1 ⟨rfl, hb1⟩
  obtain ⟨hc1, hf1⟩ := bcell hb1
  have hy1 := hb1.size
  (try simp at hy1)
  have hz1_0 : w.heap.size < w1.heap.size := by omega
  go_wp2
  go_ret
  refine ⟨rfl, ?_⟩
  repeat (first | exact Below.refl _ _ | assumption | refine ext_alloc ?_ _ | refine ext_drew ?_ | refine ext_trans ?_ (by assumption))
theorem l24Leaps_any (l c s y : Int) (w : World) (hl : 0 ≤ l) (hl' : l ≤ c) (hc : 1 ≤ c) (hc' : c ≤ 1000) (hs : 0 ≤ s) (hs' : s ≤ c - 1) (hy : 0 ≤ y) (hy' : y ≤ 200000) :
    Calls Try.prog 110 #[ruleV l c s, .int .i64 y] w fun e w' => e = .returned (.int .i64 (befV l c s y)) ∧ Below w.heap.size w w' := by
  have h1 : 0 ≤ y * l := Int.mul_nonneg hy hl
  have h2 : y * l ≤ 200000000 := Int.le_trans (Int.mul_le_mul hy' (Int.le_trans hl' hc') hl (by omega)) (by omega)
  unfold ruleV
  go_enter Try.func110, Try.ntmps110
  go_wp2
  go_ret
  exact ⟨rfl, ext_alloc (Below.refl _ _) _⟩
theorem l24Is_any (l c s y : Int) (w : World) (hl : 0 ≤ l) (hl' : l ≤ c) (hc : 1 ≤ c) (hc' : c ≤ 1000) (hs : 0 ≤ s) (hs' : s ≤ c - 1) (hy : 0 ≤ y) (hy' : y ≤ 100001) :
    Calls Try.prog 107 #[ruleV l c s, .int .i64 y] w fun e w' => e = .returned (.bool (leapB l c s y)) ∧ Below w.heap.size w w' := by
  unfold ruleV
  have hs1 : IntKind.i64.wrap (y + 1) = y + 1 := IntWalk.i64_in _ (by omega)
  go_enter Try.func107, Try.ntmps107
  go_wp2
  generalize hW : w.alloc _ = W
  have hb0 : Below w.heap.size w W := by rw [← hW]; exact ext_alloc (Below.refl _ _) _
  have k0 : ∀ d os, (grow (redrawn W d) os).cell? ⟨w.heap.size, 0, none⟩ = some (.int .i64 l) := cell_regrown (by rw [← hW]; simp)
  have k1 : ∀ d os, (grow (redrawn W d) os).cell? ⟨w.heap.size, 1, none⟩ = some (.int .i64 c) := cell_regrown (by rw [← hW]; simp)
  have k2 : ∀ d os, (grow (redrawn W d) os).cell? ⟨w.heap.size, 2, none⟩ = some (.int .i64 s) := cell_regrown (by rw [← hW]; simp)
  refine wp_region_quiet_below (by kernel_rfl) (by kernel_rfl) ?_
  repeat (first | go_big_quiet_step ((first | exact Calls.regrown_of (l24Leaps_any _ _ _ _ _ hl hl' hc hc' hs hs' hy (by omega)) | exact Calls.regrown_of (l24Leaps_any _ _ _ _ _ hl hl' hc hc' hs hs' (by omega) (by omega)))) | quiet_step ((first | exact Calls.regrown_of (l24Leaps_any _ _ _ _ _ hl hl' hc hc' hs hs' hy (by omega)) | exact Calls.regrown_of (l24Leaps_any _ _ _ _ _ hl hl' hc hc' hs hs' (by omega) (by omega)))))
  refine wpQuiet_nil ?_
  intro _ hw'
  obtain ⟨⟨dq, oq⟩, hw''⟩ := hw'
  subst hw''
  go_wp2
  go_ret
  exact ⟨rfl, ext_trans hb0 (below_regrown W dq oq)⟩
theorem l24Ok_any (l c s : Int) (w : World) :
    Calls Try.prog 105 #[ruleV l c s] w fun e w' => e = .returned (.bool (ruleOk l c s)) ∧ Below w.heap.size w w' := by
  unfold ruleV ruleOk
  cases h1 : inR c 1 1000
  · go_enter Try.func105, Try.ntmps105
    go_wp2_with (go_at_call 102; refine (l00In_any _ _ _ _).mono ?_; rintro e w' ⟨rfl, rfl⟩)
    go_ret
    exact ⟨rfl, ext_alloc (Below.refl _ _) _⟩
  · have h1' := inR_true.1 h1
    obtain ⟨h1a, h1b⟩ := h1'
    cases h2 : inR l 0 c
    all_goals
      go_enter Try.func105, Try.ntmps105
      go_wp2_with (go_at_call 102; refine (l00In_any _ _ _ _).mono ?_; rintro e w' ⟨rfl, rfl⟩)
      go_ret
      exact ⟨rfl, ext_alloc (Below.refl _ _) _⟩
theorem l24Code_any (l c s y : Int) (w : World) :
    Calls Try.prog 101 #[ruleV l c s, .int .i64 y] w fun e w' => e = .returned (.int .i64 (yearCode l c s y)) ∧ Below w.heap.size w w' := by
  unfold yearCode
  cases h1 : ruleOk l c s
  · unfold ruleV
    go_enter Try.func101, Try.ntmps101
    go_wp2_with fail
    refine (l24Ok_any l c s _).mono ?_
    rintro e w1 ⟨rfl, hb1⟩
    obtain ⟨hc1, hf1⟩ := bcell hb1
    have hy1 := hb1.size
    (try simp at hy1)
    have hz1_0 : w.heap.size < w1.heap.size := by omega
    go_wp2
    go_ret
    exact ⟨rfl, ext_trans (ext_alloc (Below.refl _ _) _) hb1⟩
  · cases h2 : inR y 0 100000
    all_goals
      unfold ruleV
      go_enter Try.func101, Try.ntmps101
      go_wp2_with fail
      refine (l24Ok_any l c s _).mono ?_
      rintro e w1 ⟨rfl, hb1⟩
      obtain ⟨hc1, hf1⟩ := bcell hb1
      have hy1 := hb1.size
      (try simp at hy1)
      have hz1_0 : w.heap.size < w1.heap.size := by omega
      go_wp2_with (go_at_call 102; refine (l00In_any _ _ _ _).mono ?_; rintro e w' ⟨rfl, rfl⟩)
      go_ret
      exact ⟨rfl, ext_trans (ext_alloc (Below.refl _ _) _) hb1⟩
theorem sIsLeap_any (l c s y : Int) (w : World) :
    Calls Try.prog 26 #[ruleV l c s, .int .i64 y] w fun e w' => e = .returned (.tuple #[.bool (decide (yearCode l c s y = 0) && leapB l c s y), .int .i64 (yearCode l c s y)]) ∧ Below w.heap.size w w' := by
  by_cases h0 : yearCode l c s y = 0
  · obtain ⟨a1, a2, a3, a4, a5, a6, a7, a8⟩ := yearCode_zero h0
    unfold ruleV
    go_enter Try.func26, Try.ntmps26
    go_wp2_with fail
    refine (l24Code_any l c s y _).mono ?_
    rintro e w1 ⟨rfl, hb1⟩
    obtain ⟨hc1, hf1⟩ := bcell hb1
    have hy1 := hb1.size
    (try simp at hy1)
    have hz1_0 : w.heap.size < w1.heap.size := by omega
    go_wp2_with fail
    refine (l24Is_any l c s y _ a1 a2 a3 a4 a5 a6 a7 (by omega)).mono ?_
    rintro e w2 ⟨rfl, hb2⟩
    obtain ⟨hc2, hf2⟩ := bcell hb2
    have hy2 := hb2.size
    (try simp at hy2)
    have hz2_0 : w.heap.size < w2.heap.size := by omega
    go_wp2
    go_ret2
    refine ⟨by simp [h0], ?_⟩
    repeat (first | exact Below.refl _ _ | assumption | refine ext_alloc ?_ _ | refine ext_drew ?_ | refine ext_trans ?_ (by assumption))
  · have h0' : (yearCode l c s y == 0) = false := by simpa using h0
    have h0'' : (yearCode l c s y != 0) = true := by simpa using h0
    unfold ruleV
    go_enter Try.func26, Try.ntmps26
    go_wp2_with fail
    refine (l24Code_any l c s y _).mono ?_
    rintro e w1 ⟨rfl, hb1⟩
    obtain ⟨hc1, hf1⟩ := bcell hb1
    have hy1 := hb1.size
    (try simp at hy1)
    have hz1_0 : w.heap.size < w1.heap.size := by omega
    go_wp2
    go_ret2
    refine ⟨by simp [h0], ?_⟩
    repeat (first | exact Below.refl _ _ | assumption | refine ext_alloc ?_ _ | refine ext_drew ?_ | refine ext_trans ?_ (by assumption))
theorem l24Start_any (l c s y : Int) (w : World) (hl : 0 ≤ l) (hl' : l ≤ c) (hc : 1 ≤ c) (hc' : c ≤ 1000) (hs : 0 ≤ s) (hs' : s ≤ c - 1) (hy : 0 ≤ y) (hy' : y ≤ 100001) :
    Calls Try.prog 104 #[ruleV l c s, .int .i64 y] w fun e w' => e = .returned (.int .i64 (365 * y + befV l c s y)) ∧ Below w.heap.size w w' := by
  obtain ⟨b1, b2⟩ := befV_bd hl hl' hc hs hs' hy
  unfold ruleV
  go_enter Try.func104, Try.ntmps104
  go_wp2_with fail
  refine (l24Leaps_any l c s y _ hl hl' hc hc' hs hs' hy (by omega)).mono ?_
  rintro e w1 ⟨rfl, hb1⟩
  obtain ⟨hc1, hf1⟩ := bcell hb1
  have hy1 := hb1.size
  (try simp at hy1)
  have hz1_0 : w.heap.size < w1.heap.size := by omega
  go_wp2
  go_ret
  refine ⟨rfl, ?_⟩
  repeat (first | exact Below.refl _ _ | assumption | refine ext_alloc ?_ _ | refine ext_drew ?_ | refine ext_trans ?_ (by assumption))

/-- How many days a year has; the code and the number of a day. -/
def daysV (l c s y : Int) : Int := 365 + (befV l c s (y + 1) - befV l c s y)
def dayC (l c s y d : Int) : Int := if yearCode l c s y = 0 then (if inR d 0 (daysV l c s y - 1) = true then 0 else 2) else yearCode l c s y
def dayA (l c s y d : Int) : Int := if dayC l c s y d = 0 then 365 * y + befV l c s y + d else 0

theorem daysV_leap {l c s y : Int} (hl : 0 ≤ l) (hl' : l ≤ c) (hc : 1 ≤ c) : daysV l c s y = if leapB l c s y = true then 366 else 365 := by
  have hst := befV_step (s := s) (y := y) hl hl' hc
  unfold daysV leapB
  split
  · rename_i h
    have h := of_decide_eq_true h
    omega
  · rename_i h
    have h := of_decide_eq_false (Bool.eq_false_iff.2 h)
    omega

theorem l24Days_any (l c s y : Int) (w : World) (hl : 0 ≤ l) (hl' : l ≤ c) (hc : 1 ≤ c) (hc' : c ≤ 1000) (hs : 0 ≤ s) (hs' : s ≤ c - 1) (hy : 0 ≤ y) (hy' : y ≤ 100001) :
    Calls Try.prog 103 #[ruleV l c s, .int .i64 y] w fun e w' => e = .returned (.int .i64 (daysV l c s y)) ∧ Below w.heap.size w w' := by
  rw [daysV_leap hl hl' hc]
  cases h : leapB l c s y
  all_goals
    unfold ruleV
    go_enter Try.func103, Try.ntmps103
    go_wp2_with fail
    refine (l24Is_any l c s y _ hl hl' hc hc' hs hs' hy hy').mono ?_
    rintro e w1 ⟨rfl, hb1⟩
    obtain ⟨hc1, hf1⟩ := bcell hb1
    have hy1 := hb1.size
    (try simp at hy1)
    have hz1_0 : w.heap.size < w1.heap.size := by omega
    go_wp2
    go_ret
    refine ⟨rfl, ?_⟩
    repeat (first | exact Below.refl _ _ | assumption | refine ext_alloc ?_ _ | refine ext_drew ?_ | refine ext_trans ?_ (by assumption))

theorem sDayNumber_any (l c s y d : Int) (w : World) :
    Calls Try.prog 17 #[ruleV l c s, .int .i64 y, .int .i64 d] w fun e w' => e = .returned (.tuple #[.int .i64 (dayA l c s y d), .int .i64 (dayC l c s y d)]) ∧ Below w.heap.size w w' := by
  by_cases h0 : yearCode l c s y = 0
  · obtain ⟨a1, a2, a3, a4, a5, a6, a7, a8⟩ := yearCode_zero h0
    have hst := befV_step (s := s) (y := y) a1 a2 a3
    obtain ⟨b1, b2⟩ := befV_bd a1 a2 a3 a5 a6 a7
    have hd : 365 ≤ daysV l c s y ∧ daysV l c s y ≤ 366 := by unfold daysV; omega
    obtain ⟨hd1, hd2⟩ := hd
    cases h1 : inR d 0 (daysV l c s y - 1)
    · have e1 : dayC l c s y d = 2 := by simp [dayC, h0, h1]
      have e2 : dayA l c s y d = 0 := by simp [dayA, e1]
      rw [e1, e2]
      clear e1 e2
      unfold ruleV
      go_enter Try.func17, Try.ntmps17
      go_wp2_with fail
      refine (l24Code_any l c s y _).mono ?_
      rintro e w1 ⟨rfl, hb1⟩
      obtain ⟨hc1, hf1⟩ := bcell hb1
      have hy1 := hb1.size
      (try simp at hy1)
      have hz1_0 : w.heap.size < w1.heap.size := by omega
      go_wp2_with fail
      refine (l24Days_any l c s y _ a1 a2 a3 a4 a5 a6 a7 (by omega)).mono ?_
      rintro e w2 ⟨rfl, hb2⟩
      obtain ⟨hc2, hf2⟩ := bcell hb2
      have hy2 := hb2.size
      (try simp at hy2)
      have hz2_0 : w.heap.size < w2.heap.size := by omega
      go_wp2_with (go_at_call 102; refine (l00In_any _ _ _ _).mono ?_; rintro e w' ⟨rfl, rfl⟩)
      go_ret2
      refine ⟨rfl, ?_⟩
      repeat (first | exact Below.refl _ _ | assumption | refine ext_alloc ?_ _ | refine ext_drew ?_ | refine ext_trans ?_ (by assumption))
    · have e1 : dayC l c s y d = 0 := by simp [dayC, h0, h1]
      have e2 : dayA l c s y d = 365 * y + befV l c s y + d := by simp [dayA, e1]
      rw [e1, e2]
      obtain ⟨b3, b4⟩ := inR_true.1 h1
      clear e1 e2
      unfold ruleV
      go_enter Try.func17, Try.ntmps17
      go_wp2_with fail
      refine (l24Code_any l c s y _).mono ?_
      rintro e w1 ⟨rfl, hb1⟩
      obtain ⟨hc1, hf1⟩ := bcell hb1
      have hy1 := hb1.size
      (try simp at hy1)
      have hz1_0 : w.heap.size < w1.heap.size := by omega
      go_wp2_with fail
      refine (l24Days_any l c s y _ a1 a2 a3 a4 a5 a6 a7 (by omega)).mono ?_
      rintro e w2 ⟨rfl, hb2⟩
      obtain ⟨hc2, hf2⟩ := bcell hb2
      have hy2 := hb2.size
      (try simp at hy2)
      have hz2_0 : w.heap.size < w2.heap.size := by omega
      go_wp2_with (go_at_call 102; refine (l00In_any _ _ _ _).mono ?_; rintro e w' ⟨rfl, rfl⟩)
      go_wp2_with fail
      refine (l24Start_any l c s y _ a1 a2 a3 a4 a5 a6 a7 (by omega)).mono ?_
      rintro e w3 ⟨rfl, hb3⟩
      obtain ⟨hc3, hf3⟩ := bcell hb3
      have hy3 := hb3.size
      (try simp at hy3)
      have hz3_0 : w.heap.size < w3.heap.size := by omega
      go_wp2
      go_ret2
      refine ⟨rfl, ?_⟩
      repeat (first | exact Below.refl _ _ | assumption | refine ext_alloc ?_ _ | refine ext_drew ?_ | refine ext_trans ?_ (by assumption))
  · have h0' : (yearCode l c s y == 0) = false := by simpa using h0
    have h0'' : (yearCode l c s y != 0) = true := by simpa using h0
    have e1 : dayC l c s y d = yearCode l c s y := by simp [dayC, h0]
    have e2 : dayA l c s y d = 0 := by simp [dayA, e1, h0]
    rw [e1, e2]
    clear e1 e2
    unfold ruleV
    go_enter Try.func17, Try.ntmps17
    go_wp2_with fail
    refine (l24Code_any l c s y _).mono ?_
    rintro e w1 ⟨rfl, hb1⟩
    obtain ⟨hc1, hf1⟩ := bcell hb1
    have hy1 := hb1.size
    (try simp at hy1)
    have hz1_0 : w.heap.size < w1.heap.size := by omega
    go_wp2
    go_ret2
    refine ⟨rfl, ?_⟩
    repeat (first | exact Below.refl _ _ | assumption | refine ext_alloc ?_ _ | refine ext_drew ?_ | refine ext_trans ?_ (by assumption))

theorem iDayNumber_any (l c s y d : Int) (w : World) :
    Calls Try.prog 16 #[ruleV l c s, .int .i64 y, .int .i64 d] w fun e w' => e = .returned (.tuple #[.int .i64 (dayA l c s y d), .int .i64 (dayC l c s y d)]) ∧ Below w.heap.size w w' := by
  by_cases h0 : yearCode l c s y = 0
  · obtain ⟨a1, a2, a3, a4, a5, a6, a7, a8⟩ := yearCode_zero h0
    obtain ⟨b1, b2⟩ := befV_bd a1 a2 a3 a5 a6 a7
    obtain ⟨b1', b2'⟩ := befV_bd a1 a2 a3 a5 a6 (y := y + 1) (by omega)
    have ed : daysV l c s y - 1 = 365 * (y + 1) + befV l c s (y + 1) - (365 * y + befV l c s y) - 1 := by unfold daysV; omega
    cases h1 : inR d 0 (daysV l c s y - 1)
    all_goals
      first
        | (have e1 : dayC l c s y d = 2 := by simp [dayC, h0, h1])
        | (have e1 : dayC l c s y d = 0 := by simp [dayC, h0, h1])
      first
        | (have e2 : dayA l c s y d = 0 := by simp [dayA, e1]; done)
        | (have e2 : dayA l c s y d = 365 * y + befV l c s y + d := by simp [dayA, e1])
      rw [e1, e2]
      rw [ed] at h1
      clear e1 e2 ed
      first
        | (obtain ⟨b3, b4⟩ := inR_true.1 h1)
        | skip
      unfold ruleV
      go_enter Try.func16, Try.ntmps16
      go_wp2_with fail
      refine (checkYear_any l c s y _).mono ?_
      rintro e w1 ⟨rfl, hb1⟩
      obtain ⟨hc1, hf1⟩ := bcell hb1
      have hy1 := hb1.size
      (try simp at hy1)
      have hz1_0 : w.heap.size < w1.heap.size := by omega
      have hsz := hb1.size
      go_wp2
      have k0 : ∀ d os, (grow (redrawn w1 d) os).cell? ⟨w.heap.size, 0, none⟩ = some (.int .i64 l) := cell_regrown (by rw [hc1 _ _ (by simp)]; simp)
      have k1 : ∀ d os, (grow (redrawn w1 d) os).cell? ⟨w.heap.size, 1, none⟩ = some (.int .i64 c) := cell_regrown (by rw [hc1 _ _ (by simp)]; simp)
      have k2 : ∀ d os, (grow (redrawn w1 d) os).cell? ⟨w.heap.size, 2, none⟩ = some (.int .i64 s) := cell_regrown (by rw [hc1 _ _ (by simp)]; simp)
      refine wp_region_quiet_below (by kernel_rfl) (by kernel_rfl) ?_
      repeat (first | go_big_quiet_step ((first | (with_reducible exact Calls.regrown_of (first_any _ _ _ _ _ a1 a2 a3 a4 a5 a6 (by omega) (by omega))) | (with_reducible exact regrown_same (within_any _ _ _ _)))) | quiet_step ((first | (with_reducible exact Calls.regrown_of (first_any _ _ _ _ _ a1 a2 a3 a4 a5 a6 (by omega) (by omega))) | (with_reducible exact regrown_same (within_any _ _ _ _)))))
      refine wpQuiet_nil ?_
      intro _ hw'
      obtain ⟨⟨dq, oq⟩, hw''⟩ := hw'
      subst hw''
      obtain ⟨w2, hW2⟩ : ∃ Wq, Wq = grow (redrawn w1 dq) oq := ⟨_, rfl⟩
      have hb2 : Below w1.heap.size w1 w2 := by rw [hW2]; exact below_regrown _ _ _
      rw [← hW2]
      clear hW2
      obtain ⟨hc2, hf2⟩ := bcell hb2
      have hy2 := hb2.size
      have hz2_0 : w.heap.size < w2.heap.size := by omega
      go_wp2_with (go_at_call 100; refine (first_any _ _ _ _ _ a1 a2 a3 a4 a5 a6 (by omega) (by omega)).mono ?_; rintro e w3 ⟨rfl, hb3⟩)
      go_ret2
      refine ⟨rfl, ?_⟩
      repeat (first | exact Below.refl _ _ | assumption | refine ext_alloc ?_ _ | refine ext_drew ?_ | refine ext_trans ?_ (by assumption))
  · have h0' : (yearCode l c s y == 0) = false := by simpa using h0
    have h0'' : (yearCode l c s y != 0) = true := by simpa using h0
    have e1 : dayC l c s y d = yearCode l c s y := by simp [dayC, h0]
    have e2 : dayA l c s y d = 0 := by simp [dayA, e1, h0]
    rw [e1, e2]
    clear e1 e2
    unfold ruleV
    go_enter Try.func16, Try.ntmps16
    go_wp2_with fail
    refine (checkYear_any l c s y _).mono ?_
    rintro e w1 ⟨rfl, hb1⟩
    obtain ⟨hc1, hf1⟩ := bcell hb1
    have hy1 := hb1.size
    (try simp at hy1)
    have hz1_0 : w.heap.size < w1.heap.size := by omega
    go_wp2
    go_ret2
    refine ⟨rfl, ?_⟩
    repeat (first | exact Below.refl _ _ | assumption | refine ext_alloc ?_ _ | refine ext_drew ?_ | refine ext_trans ?_ (by assumption))

end Go.Proofs.Ytgdcmladilpabaa
