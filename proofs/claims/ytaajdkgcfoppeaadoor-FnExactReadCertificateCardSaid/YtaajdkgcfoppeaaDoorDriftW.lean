/- Lengths of years and drifts: the walks. No condition but those that each theorem names. -/
import Derived.Test.YtaajdkgcfoppeaaDoorFracW
import Derived.Test.YtaajdkgcfoppeaaDoorCalW
namespace Go.Proofs.YtaajdkgcfoppeaaDoor
open Go.RowKit Go.Sort

theorem floor_eq {n d : Int} (hd : 0 < d) : n / d = if n.tmod d < 0 then n.tdiv d - 1 else n.tdiv d := by
  rcases Int.lt_or_le n 0 with h | h
  · have e1 : n.tmod d = -((-n) % d) := by
      rw [← Int.tmod_eq_emod_of_nonneg (by omega), Int.neg_tmod]; omega
    have e2 : n.tdiv d = -((-n) / d) := by
      rw [← Int.tdiv_eq_ediv_of_nonneg (by omega), Int.neg_tdiv]; omega
    have h1 := Int.emod_nonneg (-n) (b := d) (by omega)
    have h2 := Int.emod_lt_of_pos (-n) hd
    have h3 := Int.mul_ediv_add_emod (-n) d
    have h4 := Int.mul_ediv_add_emod n d
    have h5 := Int.emod_nonneg n (b := d) (by omega)
    have h6 := Int.emod_lt_of_pos n hd
    rw [e1, e2]
    generalize (-n) / d = q at *
    generalize (-n) % d = r at *
    generalize n / d = q' at *
    generalize n % d = r' at *
    by_cases hr : r = 0
    · rw [if_neg (by omega)]
      have : d * (q + q') + r' = 0 := by rw [Int.mul_add]; omega
      have hq : q + q' = 0 := by
        rcases Int.lt_trichotomy (q + q') 0 with hh | hh | hh
        · have := Int.mul_le_mul_of_nonneg_left (show q + q' ≤ -1 by omega) (show 0 ≤ d by omega); omega
        · exact hh
        · have := Int.mul_le_mul_of_nonneg_left (show 1 ≤ q + q' by omega) (show 0 ≤ d by omega); omega
      omega
    · rw [if_pos (by omega)]
      have : d * (q + q') + r + r' = 0 := by rw [Int.mul_add]; omega
      have hq : q + q' = -1 := by
        rcases Int.lt_trichotomy (q + q') (-1) with hh | hh | hh
        · have := Int.mul_le_mul_of_nonneg_left (show q + q' ≤ -2 by omega) (show 0 ≤ d by omega); omega
        · exact hh
        · have := Int.mul_le_mul_of_nonneg_left (show 0 ≤ q + q' by omega) (show 0 ≤ d by omega); omega
      omega
  · rw [Int.tmod_eq_emod_of_nonneg h, Int.tdiv_eq_ediv_of_nonneg h, if_neg (by have := Int.emod_nonneg n (b := d) (by omega); omega)]

theorem tdiv_bd {n d M : Int} (hd : 0 < d) (h1 : -M ≤ n) (h2 : n ≤ M) : -M ≤ n.tdiv d ∧ n.tdiv d ≤ M := by
  have h := ediv_bd hd h1 h2
  rcases Int.lt_or_le n 0 with hn | hn
  · have h' := ediv_bd (n := -n) (M := M) hd (by omega) (by omega)
    have e2 : n.tdiv d = -((-n) / d) := by
      rw [← Int.tdiv_eq_ediv_of_nonneg (by omega), Int.neg_tdiv]; omega
    omega
  · rw [Int.tdiv_eq_ediv_of_nonneg hn]; exact h
theorem tmod_bd {n d : Int} (hd : 0 < d) : -d < n.tmod d ∧ n.tmod d < d := by
  have := Int.tmod_lt_of_pos n hd
  have := Int.tmod_lt_of_pos (-n) hd
  rw [Int.neg_tmod] at this
  omega

end Go.Proofs.YtaajdkgcfoppeaaDoor
