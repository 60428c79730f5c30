/- Lengths of years and drifts: the walks. No condition but those that each theorem names. -/
import Derived.Test.YtdjnblkgeaphmaaFracW
import Derived.Test.YtdjnblkgeaphmaaCalW
namespace Go.Proofs.Ytdjnblkgeaphmaa
open Go.RowKit Go.Sort

theorem floor_eq {n d : Int} (hd : 0 < d) : n / d = if n.tmod d < 0 then n.tdiv d - 1 else n.tdiv d := by
  rcases Int.lt_or_le n 0 with h | h
  · have e1 : n.tmod d = -((-n) % d) := by
      rw [← Int.tmod_eq_emod_of_nonneg (by omega), Int.neg_tmod]; omega
    have e2 : n.tdiv d = -((-n) / d) := by
      rw [← Int.tdiv_eq_ediv_of_nonneg (by omega), Int.neg_tdiv]; omega
    have h1 := Int.emod_nonneg (-n) (b := d) (by omega)
    have h2 := Int.emod_lt_of_pos (-n) hd
    have h3 := Int.mul_ediv_add_emod (-n) d
    have h4 := Int.mul_ediv_add_emod n d
    have h5 := Int.emod_nonneg n (b := d) (by omega)
    have h6 := Int.emod_lt_of_pos n hd
    rw [e1, e2]
    generalize (-n) / d = q at *
    generalize (-n) % d = r at *
    generalize n / d = q' at *
    generalize n % d = r' at *
    by_cases hr : r = 0
    · rw [if_neg (by omega)]
      have : d * (q + q') + r' = 0 := by rw [Int.mul_add]; omega
      have hq : q + q' = 0 := by
        rcases Int.lt_trichotomy (q + q') 0 with hh | hh | hh
        · have := Int.mul_le_mul_of_nonneg_left (show q + q' ≤ -1 by omega) (show 0 ≤ d by omega); omega
        · exact hh
        · have := Int.mul_le_mul_of_nonneg_left (show 1 ≤ q + q' by omega) (show 0 ≤ d by omega); omega
      omega
    · rw [if_pos (by omega)]
      have : d * (q + q') + r + r' = 0 := by rw [Int.mul_add]; omega
      have hq : q + q' = -1 := by
        rcases Int.lt_trichotomy (q + q') (-1) with hh | hh | hh
        · have := Int.mul_le_mul_of_nonneg_left (show q + q' ≤ -2 by omega) (show 0 ≤ d by omega); omega
        · exact hh
        · have := Int.mul_le_mul_of_nonneg_left (show 0 ≤ q + q' by omega) (show 0 ≤ d by omega); omega
      omega
  · rw [Int.tmod_eq_emod_of_nonneg h, Int.tdiv_eq_ediv_of_nonneg h, if_neg (by have := Int.emod_nonneg n (b := d) (by omega); omega)]

theorem tdiv_bd {n d M : Int} (hd : 0 < d) (h1 : -M ≤ n) (h2 : n ≤ M) : -M ≤ n.tdiv d ∧ n.tdiv d ≤ M := by
  have h := ediv_bd hd h1 h2
  rcases Int.lt_or_le n 0 with hn | hn
  · have h' := ediv_bd (n := -n) (M := M) hd (by omega) (by omega)
    have e2 : n.tdiv d = -((-n) / d) := by
      rw [← Int.tdiv_eq_ediv_of_nonneg (by omega), Int.neg_tdiv]; omega
    omega
  · rw [Int.tdiv_eq_ediv_of_nonneg hn]; exact h
theorem tmod_bd {n d : Int} (hd : 0 < d) : -d < n.tmod d ∧ n.tmod d < d := by
  have := Int.tmod_lt_of_pos n hd
  have := Int.tmod_lt_of_pos (-n) hd
  rw [Int.neg_tmod] at this
  omega

theorem l02Floor_any (n d : Int) (w : World) (n1 : -9223372036854775806 ≤ n) (n2 : n ≤ 9223372036854775806) (d1 : 1 ≤ d) (d2 : d ≤ 9223372036854775807) :
    Calls Try.prog 176 #[.int .i64 n, .int .i64 d] w fun e w' => e = .returned (.int .i64 (n / d)) ∧ w = w' := by
  rw [floor_eq (by omega)]
  obtain ⟨q1, q2⟩ := tdiv_bd (n := n) (d := d) (by omega) n1 n2
  obtain ⟨r1, r2⟩ := tmod_bd (n := n) (d := d) (by omega)
  have d0 : (d == 0) = false := by simp; omega
  generalize hq : n.tdiv d = q at *
  generalize hr : n.tmod d = r at *
  have w1 : IntKind.i64.wrap q = q := IntWalk.i64_in _ (by omega)
  have w2 : IntKind.i64.wrap r = r := IntWalk.i64_in _ (by omega)
  by_cases h : r < 0
  all_goals
    go_enter Try.func176, Try.ntmps176
    go_wp2
    go_ret
    exact ⟨ret_int (by first | rfl | rw [if_pos h] | rw [if_neg (by omega)]), rfl⟩

/-- A fraction is the length of a year. -/
def lenOk (n d : Int) : Bool := fracOk n d && decide (d ≤ 1000000) && decide (365 * d ≤ n) && decide (n < 366 * d)
theorem lenOk_true {n d : Int} : lenOk n d = true ↔ fracOk n d = true ∧ d ≤ 1000000 ∧ 365 * d ≤ n ∧ n < 366 * d := by
  unfold lenOk; simp only [Bool.and_eq_true, decide_eq_true_eq]; constructor
  · rintro ⟨⟨⟨a, b⟩, c⟩, d⟩; exact ⟨a, b, c, d⟩
  · rintro ⟨a, b, c, d⟩; exact ⟨⟨⟨a, b⟩, c⟩, d⟩
theorem lenOk_floor {n d : Int} (h1 : fracOk n d = true) (h2 : d ≤ 1000000) : lenOk n d = (n / d == 365) := by
  obtain ⟨d1, _⟩ := fracOk_true.1 h1
  rw [Bool.eq_iff_iff, lenOk_true, beq_iff_eq]
  have h3 := Int.mul_ediv_add_emod n d
  have h5 := Int.emod_nonneg n (b := d) (by omega)
  have h6 := Int.emod_lt_of_pos n (show 0 < d by omega)
  constructor
  · rintro ⟨_, _, a, b⟩
    have l1 : n / d < 366 := Int.ediv_lt_of_lt_mul (by omega) (by omega)
    have l2 : 365 ≤ n / d := by rw [Int.le_ediv_iff_mul_le (by omega)]; omega
    omega
  · intro h
    rw [h] at h3
    exact ⟨h1, h2, by omega, by omega⟩
def driftV (l c n d : Int) : Int := l * d - (n - 365 * d) * c

set_option maxHeartbeats 1000000 in
theorem isLength_any (n d : Int) (w : World) :
    Calls Try.prog 109 #[fracV n d] w fun e w' => e = .returned (.bool (lenOk n d)) ∧ Below w.heap.size w w' := by
  unfold lenOk
  cases h1 : fracOk n d
  · unfold fracV
    go_enter Try.func109, Try.ntmps109
    go_wp2_with fail
    refine (ValidFraction_any n d _).mono ?_
    rintro e w1 ⟨rfl, hb1⟩
    obtain ⟨hc1, hf1⟩ := bcell hb1
    have hy1 := hb1.size
    (try simp at hy1)
    have hz1_0 : w.heap.size < w1.heap.size := by omega
    go_wp2
    go_ret
    refine ⟨rfl, ?_⟩
    repeat (first | exact Below.refl _ _ | assumption | refine ext_alloc ?_ _ | refine ext_drew ?_ | refine ext_trans ?_ (by assumption))
  · obtain ⟨d1, d2, n1, n2, _⟩ := fracOk_true.1 h1
    by_cases h2 : d ≤ 1000000
    · by_cases h3 : 365 * d ≤ n
      · by_cases h4 : n < 366 * d
        all_goals
          unfold fracV
          go_enter Try.func109, Try.ntmps109
          go_wp2_with fail
          refine (ValidFraction_any n d _).mono ?_
          rintro e w1 ⟨rfl, hb1⟩
          obtain ⟨hc1, hf1⟩ := bcell hb1
          have hy1 := hb1.size
          (try simp at hy1)
          have hz1_0 : w.heap.size < w1.heap.size := by omega
          go_wp2
          go_ret
          refine ⟨ret_bool (by simp; omega), ?_⟩
          repeat (first | exact Below.refl _ _ | assumption | refine ext_alloc ?_ _ | refine ext_drew ?_ | refine ext_trans ?_ (by assumption))
      · have h3' : n < 365 * d := by omega
        unfold fracV
        go_enter Try.func109, Try.ntmps109
        go_wp2_with fail
        refine (ValidFraction_any n d _).mono ?_
        rintro e w1 ⟨rfl, hb1⟩
        obtain ⟨hc1, hf1⟩ := bcell hb1
        have hy1 := hb1.size
        (try simp at hy1)
        have hz1_0 : w.heap.size < w1.heap.size := by omega
        go_wp2
        go_ret
        refine ⟨ret_bool (by simp; omega), ?_⟩
        repeat (first | exact Below.refl _ _ | assumption | refine ext_alloc ?_ _ | refine ext_drew ?_ | refine ext_trans ?_ (by assumption))
    · have h2' : 1000000 < d := by omega
      unfold fracV
      go_enter Try.func109, Try.ntmps109
      go_wp2_with fail
      refine (ValidFraction_any n d _).mono ?_
      rintro e w1 ⟨rfl, hb1⟩
      obtain ⟨hc1, hf1⟩ := bcell hb1
      have hy1 := hb1.size
      (try simp at hy1)
      have hz1_0 : w.heap.size < w1.heap.size := by omega
      go_wp2
      go_ret
      refine ⟨ret_bool (by simp; omega), ?_⟩
      repeat (first | exact Below.refl _ _ | assumption | refine ext_alloc ?_ _ | refine ext_drew ?_ | refine ext_trans ?_ (by assumption))

set_option maxHeartbeats 1000000 in
theorem l24Year_any (n d : Int) (w : World) :
    Calls Try.prog 114 #[fracV n d] w fun e w' => e = .returned (.bool (lenOk n d)) ∧ Below w.heap.size w w' := by
  cases h1 : fracOk n d
  · have e : lenOk n d = false := by simp [lenOk, h1]
    rw [e]
    clear e
    unfold fracV
    go_enter Try.func114, Try.ntmps114
    go_wp2_with fail
    refine (l02Ok_any n d _).mono ?_
    rintro e w1 ⟨rfl, hb1⟩
    obtain ⟨hc1, hf1⟩ := bcell hb1
    have hy1 := hb1.size
    (try simp at hy1)
    have hz1_0 : w.heap.size < w1.heap.size := by omega
    go_wp2
    go_ret
    refine ⟨rfl, ?_⟩
    repeat (first | exact Below.refl _ _ | assumption | refine ext_alloc ?_ _ | refine ext_drew ?_ | refine ext_trans ?_ (by assumption))
  · obtain ⟨d1, d2, n1, n2, _⟩ := fracOk_true.1 h1
    by_cases h2 : d ≤ 1000000
    · rw [lenOk_floor h1 h2]
      unfold fracV
      go_enter Try.func114, Try.ntmps114
      go_wp2_with fail
      refine (l02Ok_any n d _).mono ?_
      rintro e w1 ⟨rfl, hb1⟩
      obtain ⟨hc1, hf1⟩ := bcell hb1
      have hy1 := hb1.size
      (try simp at hy1)
      have hz1_0 : w.heap.size < w1.heap.size := by omega
      go_wp2_with (go_at_call 176; refine (l02Floor_any _ _ _ (by omega) (by omega) (by omega) (by omega)).mono ?_; rintro e w' ⟨rfl, rfl⟩)
      go_ret
      refine ⟨rfl, ?_⟩
      repeat (first | exact Below.refl _ _ | assumption | refine ext_alloc ?_ _ | refine ext_drew ?_ | refine ext_trans ?_ (by assumption))
    · have h2' : 1000000 < d := by omega
      have e : lenOk n d = false := by simp [lenOk, h2]
      rw [e]
      clear e
      unfold fracV
      go_enter Try.func114, Try.ntmps114
      go_wp2_with fail
      refine (l02Ok_any n d _).mono ?_
      rintro e w1 ⟨rfl, hb1⟩
      obtain ⟨hc1, hf1⟩ := bcell hb1
      have hy1 := hb1.size
      (try simp at hy1)
      have hz1_0 : w.heap.size < w1.heap.size := by omega
      go_wp2
      go_ret
      refine ⟨rfl, ?_⟩
      repeat (first | exact Below.refl _ _ | assumption | refine ext_alloc ?_ _ | refine ext_drew ?_ | refine ext_trans ?_ (by assumption))

theorem restOf_any (n d : Int) (w : World) (d1 : 1 ≤ d) (d2 : d ≤ 1000000) (n1 : 365 * d ≤ n) (n2 : n < 366 * d) :
    Calls Try.prog 111 #[fracV n d] w fun e w' => e = .returned (.agg #[.int .i64 (n - 365 * d), .int .i64 d]) ∧ Below w.heap.size w w' := by
  unfold fracV
  go_enter Try.func111, Try.ntmps111
  go_wp2
  exact bodyPost_ret (v := .agg #[.int .i64 (n - 365 * d), .int .i64 d]) (by simp [results, Try.results111, go_sem]) rfl ⟨rfl, ext_alloc (ext_alloc (Below.refl _ _) _) _⟩

theorem drift_bd {l c n d : Int} (l1 : 0 ≤ l) (l2 : l ≤ c) (c1 : 1 ≤ c) (c2 : c ≤ 1000) (d1 : 1 ≤ d) (d2 : d ≤ 1000000) (n1 : 365 * d ≤ n) (n2 : n < 366 * d) :
    0 ≤ l * d ∧ l * d ≤ 1000000000 ∧ 0 ≤ (n - 365 * d) * c ∧ (n - 365 * d) * c ≤ 1000000000 := by
  have a1 := Int.mul_nonneg l1 (show 0 ≤ d by omega)
  have a2 : l * d ≤ 1000 * 1000000 := Int.mul_le_mul (by omega) d2 (by omega) (by omega)
  have a3 := Int.mul_nonneg (show 0 ≤ n - 365 * d by omega) (show 0 ≤ c by omega)
  have a4 : (n - 365 * d) * c ≤ 1000000 * 1000 := Int.mul_le_mul (by omega) c2 (by omega) (by omega)
  omega

theorem l24Wrong_any (l c s n d : Int) (w : World) (l1 : 0 ≤ l) (l2 : l ≤ c) (c1 : 1 ≤ c) (c2 : c ≤ 1000) (d1 : 1 ≤ d) (d2 : d ≤ 1000000) (n1 : 365 * d ≤ n) (n2 : n < 366 * d) :
    Calls Try.prog 125 #[ruleV l c s, fracV n d] w fun e w' => e = .returned (.int .i64 (driftV l c n d)) ∧ Below w.heap.size w w' := by
  obtain ⟨b1, b2, b3, b4⟩ := drift_bd l1 l2 c1 c2 d1 d2 n1 n2
  unfold ruleV fracV
  go_enter Try.func125, Try.ntmps125
  go_wp2
  go_ret
  exact ⟨rfl, ext_alloc (ext_alloc (Below.refl _ _) _) _⟩

theorem driftBy_any (l c s n d : Int) (w : World) (l1 : 0 ≤ l) (l2 : l ≤ c) (c1 : 1 ≤ c) (c2 : c ≤ 1000) (d1 : 1 ≤ d) (d2 : d ≤ 1000000) (n1 : 365 * d ≤ n) (n2 : n < 366 * d) :
    Calls Try.prog 122 #[ruleV l c s, fracV n d] w fun e w' => e = .returned (.int .i64 (driftV l c n d)) ∧ Below w.heap.size w w' := by
  obtain ⟨b1, b2, b3, b4⟩ := drift_bd l1 l2 c1 c2 d1 d2 n1 n2
  have hfd := fracF0 (n - 365 * d) d
  unfold ruleV fracV
  go_enter Try.func122, Try.ntmps122
  go_wp2
  have hb0 : Below w.heap.size w ((w.alloc (.cells #[.int .i64 l, .int .i64 c, .int .i64 s] 60)).alloc (.cells #[.int .i64 n, .int .i64 d] 25)) := ext_alloc (ext_alloc (Below.refl _ _) _) _
  have k0 : ∀ x os, (grow (redrawn _ x) os).cell? ⟨w.heap.size, 0, none⟩ = some (.int .i64 l) := cell_regrown (cell_two_fst w #[.int .i64 l, .int .i64 c, .int .i64 s] #[.int .i64 n, .int .i64 d] 60 25 0)
  have k1 : ∀ x os, (grow (redrawn _ x) os).cell? ⟨w.heap.size, 1, none⟩ = some (.int .i64 c) := cell_regrown (cell_two_fst w #[.int .i64 l, .int .i64 c, .int .i64 s] #[.int .i64 n, .int .i64 d] 60 25 1)
  have k3 : ∀ x os, (grow (redrawn _ x) os).cell? ⟨w.heap.size + 1, 0, none⟩ = some (.int .i64 n) := cell_regrown (cell_two_snd w #[.int .i64 l, .int .i64 c, .int .i64 s] #[.int .i64 n, .int .i64 d] 60 25 0)
  have k4 : ∀ x os, (grow (redrawn _ x) os).cell? ⟨w.heap.size + 1, 1, none⟩ = some (.int .i64 d) := cell_regrown (cell_two_snd w #[.int .i64 l, .int .i64 c, .int .i64 s] #[.int .i64 n, .int .i64 d] 60 25 1)
  generalize (w.alloc (.cells #[.int .i64 l, .int .i64 c, .int .i64 s] 60)).alloc (.cells #[.int .i64 n, .int .i64 d] 25) = W at *
  refine wp_region_quiet_below (by kernel_rfl) (by kernel_rfl) ?_
  repeat (first | go_big_quiet_step ((with_reducible exact Calls.regrown_of (restOf_any _ _ _ d1 d2 n1 n2))) | quiet_step ((with_reducible exact Calls.regrown_of (restOf_any _ _ _ d1 d2 n1 n2))))
  refine wpQuiet_nil ?_
  intro _ hw'
  obtain ⟨⟨dq, oq⟩, hw''⟩ := hw'
  subst hw''
  go_wp2
  go_ret
  exact ⟨rfl, ext_trans hb0 (below_regrown W dq oq)⟩

/-- The least number of years: the code and the number. -/
def ytB (l c s n d : Int) : Bool := ruleOk l c s && lenOk n d
def ytC (l c s n d : Int) : Int := if ytB l c s n d = true then (if driftV l c n d = 0 then 3 else 0) else 1
def ytA (l c s n d : Int) : Int := if ytC l c s n d = 0 then (c * d + (driftV l c n d).natAbs - 1) / (driftV l c n d).natAbs else 0

set_option maxHeartbeats 1000000 in
theorem iYears_any (l c s n d : Int) (w : World) :
    Calls Try.prog 36 #[ruleV l c s, fracV n d] w fun e w' => e = .returned (.tuple #[.int .i64 (ytA l c s n d), .int .i64 (ytC l c s n d)]) ∧ Below w.heap.size w w' := by
  cases h1 : ruleOk l c s
  · have e1 : ytC l c s n d = 1 := by simp [ytC, ytB, h1]
    have e2 : ytA l c s n d = 0 := by simp [ytA, e1]
    rw [e1, e2]
    clear e1 e2
    unfold ruleV fracV
    go_enter Try.func36, Try.ntmps36
    go_wp2_with fail
    refine (ValidRule_any l c s _).mono ?_
    rintro e w1 ⟨rfl, hb1⟩
    obtain ⟨hc1, hf1⟩ := bcell hb1
    have hy1 := hb1.size
    (try simp at hy1)
    have hz1_0 : w.heap.size < w1.heap.size := by omega
    have hz1_1 : w.heap.size + 1 < w1.heap.size := by omega
    go_wp2
    go_ret2
    refine ⟨rfl, ?_⟩
    repeat (first | exact Below.refl _ _ | assumption | refine ext_alloc ?_ _ | refine ext_drew ?_ | refine ext_trans ?_ (by assumption))
  · cases h2 : lenOk n d
    · have e1 : ytC l c s n d = 1 := by simp [ytC, ytB, h2]
      have e2 : ytA l c s n d = 0 := by simp [ytA, e1]
      rw [e1, e2]
      clear e1 e2
      unfold ruleV fracV
      go_enter Try.func36, Try.ntmps36
      go_wp2_with fail
      refine (ValidRule_any l c s _).mono ?_
      rintro e w1 ⟨rfl, hb1⟩
      obtain ⟨hc1, hf1⟩ := bcell hb1
      have hy1 := hb1.size
      (try simp at hy1)
      have hz1_0 : w.heap.size < w1.heap.size := by omega
      have hz1_1 : w.heap.size + 1 < w1.heap.size := by omega
      go_wp2_with fail
      refine (isLength_any n d _).mono ?_
      rintro e w2 ⟨rfl, hb2⟩
      obtain ⟨hc2, hf2⟩ := bcell hb2
      have hy2 := hb2.size
      (try simp at hy2)
      have hz2_0 : w.heap.size < w2.heap.size := by omega
      have hz2_1 : w.heap.size + 1 < w2.heap.size := by omega
      go_wp2
      go_ret2
      refine ⟨rfl, ?_⟩
      repeat (first | exact Below.refl _ _ | assumption | refine ext_alloc ?_ _ | refine ext_drew ?_ | refine ext_trans ?_ (by assumption))
    · obtain ⟨c1, c2, l1, l2, s1, s2⟩ := ruleOk_true.1 h1
      obtain ⟨hf, d2, n1, n2⟩ := lenOk_true.1 h2
      obtain ⟨d1, _⟩ := fracOk_true.1 hf
      obtain ⟨b1, b2, b3, b4⟩ := drift_bd l1 l2 c1 c2 d1 d2 n1 n2
      have hdb : -1000000000 ≤ driftV l c n d ∧ driftV l c n d ≤ 1000000000 := by unfold driftV; omega
      have hcd : 1 ≤ c * d := Int.mul_pos (by omega) (by omega)
      have hcd2 : c * d ≤ 1000 * 1000000 := Int.mul_le_mul c2 d2 (by omega) (by omega)
      have e1 : ytC l c s n d = if driftV l c n d = 0 then 3 else 0 := by simp [ytC, ytB, h1, h2]
      have e2 : ytA l c s n d = if driftV l c n d = 0 then 0 else (c * d + (driftV l c n d).natAbs - 1) / (driftV l c n d).natAbs := by
        rw [ytA, e1]; split <;> simp
      rw [e1, e2]
      have HD := Lib.hid (driftBy_any l c s n d · l1 l2 c1 c2 d1 d2 n1 n2)
      clear e1 e2 b1 b2 b3 b4
      generalize driftV l c n d = v at *
      obtain ⟨v1, v2⟩ := hdb
      have HA := Lib.hid (abs_any v · (by omega) (by omega))
      by_cases hv : v = 0
      · subst hv
        unfold ruleV fracV
        go_enter Try.func36, Try.ntmps36
        go_wp2_with fail
        refine (ValidRule_any l c s _).mono ?_
        rintro e w1 ⟨rfl, hb1⟩
        obtain ⟨hc1, hf1⟩ := bcell hb1
        have hy1 := hb1.size
        (try simp at hy1)
        have hz1_0 : w.heap.size < w1.heap.size := by omega
        have hz1_1 : w.heap.size + 1 < w1.heap.size := by omega
        go_wp2_with fail
        refine (isLength_any n d _).mono ?_
        rintro e w2 ⟨rfl, hb2⟩
        obtain ⟨hc2, hf2⟩ := bcell hb2
        have hy2 := hb2.size
        (try simp at hy2)
        have hz2_0 : w.heap.size < w2.heap.size := by omega
        have hz2_1 : w.heap.size + 1 < w2.heap.size := by omega
        go_wp2_with fail
        refine (HD.out _).mono ?_
        rintro e w3 ⟨rfl, hb3⟩
        obtain ⟨hc3, hf3⟩ := bcell hb3
        have hy3 := hb3.size
        (try simp at hy3)
        have hz3_0 : w.heap.size < w3.heap.size := by omega
        have hz3_1 : w.heap.size + 1 < w3.heap.size := by omega
        go_wp2_with fail
        refine (HA.out _).mono ?_
        rintro e w' ⟨rfl, rfl⟩
        go_wp2
        go_ret2
        refine ⟨rfl, ?_⟩
        repeat (first | exact Below.refl _ _ | assumption | refine ext_alloc ?_ _ | refine ext_drew ?_ | refine ext_trans ?_ (by assumption))
      · rw [if_neg hv, if_neg hv]
        have hv0 : 1 ≤ (v.natAbs : Int) := by omega
        have hv1 : (v.natAbs : Int) ≤ 1000000000 := by omega
        generalize (v.natAbs : Int) = u at *
        have hu : (u == 0) = false := by simp; omega
        unfold ruleV fracV
        go_enter Try.func36, Try.ntmps36
        go_wp2_with fail
        refine (ValidRule_any l c s _).mono ?_
        rintro e w1 ⟨rfl, hb1⟩
        obtain ⟨hc1, hf1⟩ := bcell hb1
        have hy1 := hb1.size
        (try simp at hy1)
        have hz1_0 : w.heap.size < w1.heap.size := by omega
        have hz1_1 : w.heap.size + 1 < w1.heap.size := by omega
        go_wp2_with fail
        refine (isLength_any n d _).mono ?_
        rintro e w2 ⟨rfl, hb2⟩
        obtain ⟨hc2, hf2⟩ := bcell hb2
        have hy2 := hb2.size
        (try simp at hy2)
        have hz2_0 : w.heap.size < w2.heap.size := by omega
        have hz2_1 : w.heap.size + 1 < w2.heap.size := by omega
        go_wp2_with fail
        refine (HD.out _).mono ?_
        rintro e w3 ⟨rfl, hb3⟩
        obtain ⟨hc3, hf3⟩ := bcell hb3
        have hy3 := hb3.size
        (try simp at hy3)
        have hz3_0 : w.heap.size < w3.heap.size := by omega
        have hz3_1 : w.heap.size + 1 < w3.heap.size := by omega
        go_wp2_with fail
        refine (HA.out _).mono ?_
        rintro e w' ⟨rfl, rfl⟩
        go_wp2
        go_ret2
        refine ⟨rfl, ?_⟩
        repeat (first | exact Below.refl _ _ | assumption | refine ext_alloc ?_ _ | refine ext_drew ?_ | refine ext_trans ?_ (by assumption))
set_option maxHeartbeats 1000000 in
theorem sYears_any (l c s n d : Int) (w : World) :
    Calls Try.prog 37 #[ruleV l c s, fracV n d] w fun e w' => e = .returned (.tuple #[.int .i64 (ytA l c s n d), .int .i64 (ytC l c s n d)]) ∧ Below w.heap.size w w' := by
  cases h1 : ruleOk l c s
  · have e1 : ytC l c s n d = 1 := by simp [ytC, ytB, h1]
    have e2 : ytA l c s n d = 0 := by simp [ytA, e1]
    rw [e1, e2]
    clear e1 e2
    unfold ruleV fracV
    go_enter Try.func37, Try.ntmps37
    go_wp2_with fail
    refine (l24Ok_any l c s _).mono ?_
    rintro e w1 ⟨rfl, hb1⟩
    obtain ⟨hc1, hf1⟩ := bcell hb1
    have hy1 := hb1.size
    (try simp at hy1)
    have hz1_0 : w.heap.size < w1.heap.size := by omega
    have hz1_1 : w.heap.size + 1 < w1.heap.size := by omega
    go_wp2
    go_ret2
    refine ⟨rfl, ?_⟩
    repeat (first | exact Below.refl _ _ | assumption | refine ext_alloc ?_ _ | refine ext_drew ?_ | refine ext_trans ?_ (by assumption))
  · cases h2 : lenOk n d
    · have e1 : ytC l c s n d = 1 := by simp [ytC, ytB, h2]
      have e2 : ytA l c s n d = 0 := by simp [ytA, e1]
      rw [e1, e2]
      clear e1 e2
      unfold ruleV fracV
      go_enter Try.func37, Try.ntmps37
      go_wp2_with fail
      refine (l24Ok_any l c s _).mono ?_
      rintro e w1 ⟨rfl, hb1⟩
      obtain ⟨hc1, hf1⟩ := bcell hb1
      have hy1 := hb1.size
      (try simp at hy1)
      have hz1_0 : w.heap.size < w1.heap.size := by omega
      have hz1_1 : w.heap.size + 1 < w1.heap.size := by omega
      go_wp2_with fail
      refine (l24Year_any n d _).mono ?_
      rintro e w2 ⟨rfl, hb2⟩
      obtain ⟨hc2, hf2⟩ := bcell hb2
      have hy2 := hb2.size
      (try simp at hy2)
      have hz2_0 : w.heap.size < w2.heap.size := by omega
      have hz2_1 : w.heap.size + 1 < w2.heap.size := by omega
      go_wp2
      go_ret2
      refine ⟨rfl, ?_⟩
      repeat (first | exact Below.refl _ _ | assumption | refine ext_alloc ?_ _ | refine ext_drew ?_ | refine ext_trans ?_ (by assumption))
    · obtain ⟨c1, c2, l1, l2, s1, s2⟩ := ruleOk_true.1 h1
      obtain ⟨hf, d2, n1, n2⟩ := lenOk_true.1 h2
      obtain ⟨d1, _⟩ := fracOk_true.1 hf
      obtain ⟨b1, b2, b3, b4⟩ := drift_bd l1 l2 c1 c2 d1 d2 n1 n2
      have hdb : -1000000000 ≤ driftV l c n d ∧ driftV l c n d ≤ 1000000000 := by unfold driftV; omega
      have hcd : 1 ≤ c * d := Int.mul_pos (by omega) (by omega)
      have hcd2 : c * d ≤ 1000 * 1000000 := Int.mul_le_mul c2 d2 (by omega) (by omega)
      have e1 : ytC l c s n d = if driftV l c n d = 0 then 3 else 0 := by simp [ytC, ytB, h1, h2]
      have e2 : ytA l c s n d = if driftV l c n d = 0 then 0 else (c * d + (driftV l c n d).natAbs - 1) / (driftV l c n d).natAbs := by
        rw [ytA, e1]; split <;> simp
      rw [e1, e2]
      have HD := Lib.hid (l24Wrong_any l c s n d · l1 l2 c1 c2 d1 d2 n1 n2)
      clear e1 e2 b1 b2 b3 b4
      generalize driftV l c n d = v at *
      obtain ⟨v1, v2⟩ := hdb
      have HA := Lib.hid (l02Size_any v · (by omega) (by omega))
      by_cases hv : v = 0
      · subst hv
        unfold ruleV fracV
        go_enter Try.func37, Try.ntmps37
        go_wp2_with fail
        refine (l24Ok_any l c s _).mono ?_
        rintro e w1 ⟨rfl, hb1⟩
        obtain ⟨hc1, hf1⟩ := bcell hb1
        have hy1 := hb1.size
        (try simp at hy1)
        have hz1_0 : w.heap.size < w1.heap.size := by omega
        have hz1_1 : w.heap.size + 1 < w1.heap.size := by omega
        go_wp2_with fail
        refine (l24Year_any n d _).mono ?_
        rintro e w2 ⟨rfl, hb2⟩
        obtain ⟨hc2, hf2⟩ := bcell hb2
        have hy2 := hb2.size
        (try simp at hy2)
        have hz2_0 : w.heap.size < w2.heap.size := by omega
        have hz2_1 : w.heap.size + 1 < w2.heap.size := by omega
        go_wp2_with fail
        refine (HD.out _).mono ?_
        rintro e w3 ⟨rfl, hb3⟩
        obtain ⟨hc3, hf3⟩ := bcell hb3
        have hy3 := hb3.size
        (try simp at hy3)
        have hz3_0 : w.heap.size < w3.heap.size := by omega
        have hz3_1 : w.heap.size + 1 < w3.heap.size := by omega
        go_wp2_with fail
        refine (HA.out _).mono ?_
        rintro e w' ⟨rfl, rfl⟩
        go_wp2
        go_ret2
        refine ⟨rfl, ?_⟩
        repeat (first | exact Below.refl _ _ | assumption | refine ext_alloc ?_ _ | refine ext_drew ?_ | refine ext_trans ?_ (by assumption))
      · rw [if_neg hv, if_neg hv]
        have hv0 : 1 ≤ (v.natAbs : Int) := by omega
        have hv1 : (v.natAbs : Int) ≤ 1000000000 := by omega
        generalize (v.natAbs : Int) = u at *
        have hu : (u == 0) = false := by simp; omega
        unfold ruleV fracV
        go_enter Try.func37, Try.ntmps37
        go_wp2_with fail
        refine (l24Ok_any l c s _).mono ?_
        rintro e w1 ⟨rfl, hb1⟩
        obtain ⟨hc1, hf1⟩ := bcell hb1
        have hy1 := hb1.size
        (try simp at hy1)
        have hz1_0 : w.heap.size < w1.heap.size := by omega
        have hz1_1 : w.heap.size + 1 < w1.heap.size := by omega
        go_wp2_with fail
        refine (l24Year_any n d _).mono ?_
        rintro e w2 ⟨rfl, hb2⟩
        obtain ⟨hc2, hf2⟩ := bcell hb2
        have hy2 := hb2.size
        (try simp at hy2)
        have hz2_0 : w.heap.size < w2.heap.size := by omega
        have hz2_1 : w.heap.size + 1 < w2.heap.size := by omega
        go_wp2_with fail
        refine (HD.out _).mono ?_
        rintro e w3 ⟨rfl, hb3⟩
        obtain ⟨hc3, hf3⟩ := bcell hb3
        have hy3 := hb3.size
        (try simp at hy3)
        have hz3_0 : w.heap.size < w3.heap.size := by omega
        have hz3_1 : w.heap.size + 1 < w3.heap.size := by omega
        go_wp2_with fail
        refine (HA.out _).mono ?_
        rintro e w' ⟨rfl, rfl⟩
        go_wp2
        go_ret2
        refine ⟨rfl, ?_⟩
        repeat (first | exact Below.refl _ _ | assumption | refine ext_alloc ?_ _ | refine ext_drew ?_ | refine ext_trans ?_ (by assumption))
end Go.Proofs.Ytdjnblkgeaphmaa
