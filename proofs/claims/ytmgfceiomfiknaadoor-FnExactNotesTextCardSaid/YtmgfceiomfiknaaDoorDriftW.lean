/- Lengths of years and drifts: the walks. No condition but those that each theorem names. -/
import Derived.Test.YtmgfceiomfiknaaDoorFracW
import Derived.Test.YtmgfceiomfiknaaDoorCalW
namespace Go.Proofs.YtmgfceiomfiknaaDoor
open Go.RowKit Go.Sort

theorem floor_eq {n d : Int} (hd : 0 < d) : n / d = if n.tmod d < 0 then n.tdiv d - 1 else n.tdiv d := by
  rcases Int.lt_or_le n 0 with h | h
  · have e1 : n.tmod d = -((-n) % d) := by
      rw [← Int.tmod_eq_emod_of_nonneg (by omega), Int.neg_tmod]; omega
    have e2 : n.tdiv d = -((-n) / d) := by
      rw [← Int.tdiv_eq_ediv_of_nonneg (by omega), Int.neg_tdiv]; omega
    have h1 := Int.emod_nonneg (-n) (b := d) (by omega)
    have h2 := Int.emod_lt_of_pos (-n) hd
    have h3 := Int.mul_ediv_add_emod (-n) d
    have h4 := Int.mul_ediv_add_emod n d
    have h5 := Int.emod_nonneg n (b := d) (by omega)
    have h6 := Int.emod_lt_of_pos n hd
    rw [e1, e2]
    generalize (-n) / d = q at *
    generalize (-n) % d = r at *
    generalize n / d = q' at *
    generalize n % d = r' at *
    by_cases hr : r = 0
    · rw [if_neg (by omega)]
      have : d * (q + q') + r' = 0 := by rw [Int.mul_add]; omega
      have hq : q + q' = 0 := by
        rcases Int.lt_trichotomy (q + q') 0 with hh | hh | hh
        · have := Int.mul_le_mul_of_nonneg_left (show q + q' ≤ -1 by omega) (show 0 ≤ d by omega); omega
        · exact hh
        · have := Int.mul_le_mul_of_nonneg_left (show 1 ≤ q + q' by omega) (show 0 ≤ d by omega); omega
      omega
    · rw [if_pos (by omega)]
      have : d * (q + q') + r + r' = 0 := by rw [Int.mul_add]; omega
      have hq : q + q' = -1 := by
        rcases Int.lt_trichotomy (q + q') (-1) with hh | hh | hh
        · have := Int.mul_le_mul_of_nonneg_left (show q + q' ≤ -2 by omega) (show 0 ≤ d by omega); omega
        · exact hh
        · have := Int.mul_le_mul_of_nonneg_left (show 0 ≤ q + q' by omega) (show 0 ≤ d by omega); omega
      omega
  · rw [Int.tmod_eq_emod_of_nonneg h, Int.tdiv_eq_ediv_of_nonneg h, if_neg (by have := Int.emod_nonneg n (b := d) (by omega); omega)]

theorem tdiv_bd {n d M : Int} (hd : 0 < d) (h1 : -M ≤ n) (h2 : n ≤ M) : -M ≤ n.tdiv d ∧ n.tdiv d ≤ M := by
  have h := ediv_bd hd h1 h2
  rcases Int.lt_or_le n 0 with hn | hn
  · have h' := ediv_bd (n := -n) (M := M) hd (by omega) (by omega)
    have e2 : n.tdiv d = -((-n) / d) := by
      rw [← Int.tdiv_eq_ediv_of_nonneg (by omega), Int.neg_tdiv]; omega
    omega
  · rw [Int.tdiv_eq_ediv_of_nonneg hn]; exact h
theorem tmod_bd {n d : Int} (hd : 0 < d) : -d < n.tmod d ∧ n.tmod d < d := by
  have := Int.tmod_lt_of_pos n hd
  have := Int.tmod_lt_of_pos (-n) hd
  rw [Int.neg_tmod] at this
  omega

theorem l02Floor_any (n d : Int) (w : World) (n1 : -9223372036854775806 ≤ n) (n2 : n ≤ 9223372036854775806) (d1 : 1 ≤ d) (d2 : d ≤ 9223372036854775807) :
    Calls Tryd.prog 132 #[.int .i64 n, .int .i64 d] w fun e w' => e = .returned (.int .i64 (n / d)) ∧ w = w' := by
  rw [floor_eq (by omega)]
  obtain ⟨q1, q2⟩ := tdiv_bd (n := n) (d := d) (by omega) n1 n2
  obtain ⟨r1, r2⟩ := tmod_bd (n := n) (d := d) (by omega)
  have d0 : (d == 0) = false := by simp; omega
  generalize hq : n.tdiv d = q at *
  generalize hr : n.tmod d = r at *
  have w1 : IntKind.i64.wrap q = q := IntWalk.i64_in _ (by omega)
  have w2 : IntKind.i64.wrap r = r := IntWalk.i64_in _ (by omega)
  by_cases h : r < 0
  all_goals
    go_enter Tryd.func132, Tryd.ntmps132
    go_wp2
    go_ret
    exact ⟨ret_int (by first | rfl | rw [if_pos h] | rw [if_neg (by omega)]), rfl⟩

/-- A fraction is the length of a year. -/
def lenOk (n d : Int) : Bool := fracOk n d && decide (d ≤ 1000000) && decide (365 * d ≤ n) && decide (n < 366 * d)
theorem lenOk_true {n d : Int} : lenOk n d = true ↔ fracOk n d = true ∧ d ≤ 1000000 ∧ 365 * d ≤ n ∧ n < 366 * d := by
  unfold lenOk; simp only [Bool.and_eq_true, decide_eq_true_eq]; constructor
  · rintro ⟨⟨⟨a, b⟩, c⟩, d⟩; exact ⟨a, b, c, d⟩
  · rintro ⟨a, b, c, d⟩; exact ⟨⟨⟨a, b⟩, c⟩, d⟩
theorem lenOk_floor {n d : Int} (h1 : fracOk n d = true) (h2 : d ≤ 1000000) : lenOk n d = (n / d == 365) := by
  obtain ⟨d1, _⟩ := fracOk_true.1 h1
  rw [Bool.eq_iff_iff, lenOk_true, beq_iff_eq]
  have h3 := Int.mul_ediv_add_emod n d
  have h5 := Int.emod_nonneg n (b := d) (by omega)
  have h6 := Int.emod_lt_of_pos n (show 0 < d by omega)
  constructor
  · rintro ⟨_, _, a, b⟩
    have l1 : n / d < 366 := Int.ediv_lt_of_lt_mul (by omega) (by omega)
    have l2 : 365 ≤ n / d := by rw [Int.le_ediv_iff_mul_le (by omega)]; omega
    omega
  · intro h
    rw [h] at h3
    exact ⟨h1, h2, by omega, by omega⟩
def driftV (l c n d : Int) : Int := l * d - (n - 365 * d) * c

end Go.Proofs.YtmgfceiomfiknaaDoor
