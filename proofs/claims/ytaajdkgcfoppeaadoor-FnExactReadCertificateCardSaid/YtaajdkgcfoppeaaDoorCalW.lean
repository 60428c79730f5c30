/- The walks of the calendars' small functions. No condition but those that each theorem names. -/
import Derived.Test.YtaajdkgcfoppeaaDoorBase
namespace Go.Proofs.YtaajdkgcfoppeaaDoor
open Go.RowKit Go.Sort

@[reducible] def ruleV (l c s : Int) : Value := .agg #[.int .i64 l, .int .i64 c, .int .i64 s]
def befV (l c s y : Int) : Int := (y * l + s) / c
def leapB (l c s y : Int) : Bool := decide (befV l c s y < befV l c s (y + 1))
theorem befV_bd {l c s y : Int} (hl : 0 ≤ l) (hl' : l ≤ c) (hc : 1 ≤ c) (hs : 0 ≤ s) (hs' : s ≤ c - 1) (hy : 0 ≤ y) : 0 ≤ befV l c s y ∧ befV l c s y ≤ y := by
  unfold befV
  have h1 : 0 ≤ y * l := Int.mul_nonneg hy hl
  have h2 : y * l ≤ y * c := Int.mul_le_mul_of_nonneg_left hl' hy
  refine ⟨Int.ediv_nonneg (by omega) (by omega), ?_⟩
  have h3 : (y * l + s) / c < y + 1 := Int.ediv_lt_of_lt_mul (by omega) (by rw [Int.add_mul]; omega)
  omega
theorem befV_step {l c s y : Int} (hl : 0 ≤ l) (hl' : l ≤ c) (hc : 1 ≤ c) : befV l c s y ≤ befV l c s (y + 1) ∧ befV l c s (y + 1) ≤ befV l c s y + 1 := by
  unfold befV
  have e : (y + 1) * l + s = y * l + s + l := by rw [Int.add_mul]; omega
  rw [e]
  constructor
  · exact Int.ediv_le_ediv (by omega) (by omega)
  · have : (y * l + s + l) / c ≤ (y * l + s + c) / c := Int.ediv_le_ediv (by omega) (by omega)
    rw [Int.add_ediv_of_dvd_right (Int.dvd_refl c), Int.ediv_self (by omega)] at this
    exact this

/-- A rule is valid. -/
def ruleOk (l c s : Int) : Bool := inR c 1 1000 && inR l 0 c && inR s 0 (c - 1)
theorem ruleOk_true {l c s : Int} : ruleOk l c s = true ↔ 1 ≤ c ∧ c ≤ 1000 ∧ 0 ≤ l ∧ l ≤ c ∧ 0 ≤ s ∧ s ≤ c - 1 := by
  unfold ruleOk; rw [Bool.and_eq_true, Bool.and_eq_true, inR_true, inR_true, inR_true]; omega
/-- The code of a rule and a year. -/
def yearCode (l c s y : Int) : Int := if ruleOk l c s = true then (if inR y 0 100000 = true then 0 else 2) else 1
theorem yearCode_zero {l c s y : Int} (h : yearCode l c s y = 0) : 0 ≤ l ∧ l ≤ c ∧ 1 ≤ c ∧ c ≤ 1000 ∧ 0 ≤ s ∧ s ≤ c - 1 ∧ 0 ≤ y ∧ y ≤ 100000 := by
  unfold yearCode at h
  split at h
  · split at h
    · rename_i h1 h2
      have h1 := ruleOk_true.1 h1
      have h2 := inR_true.1 h2
      omega
    · cases h
  · cases h


/-- How many days a year has; the code and the number of a day. -/
def daysV (l c s y : Int) : Int := 365 + (befV l c s (y + 1) - befV l c s y)
def dayC (l c s y d : Int) : Int := if yearCode l c s y = 0 then (if inR d 0 (daysV l c s y - 1) = true then 0 else 2) else yearCode l c s y
def dayA (l c s y d : Int) : Int := if dayC l c s y d = 0 then 365 * y + befV l c s y + d else 0

theorem daysV_leap {l c s y : Int} (hl : 0 ≤ l) (hl' : l ≤ c) (hc : 1 ≤ c) : daysV l c s y = if leapB l c s y = true then 366 else 365 := by
  have hst := befV_step (s := s) (y := y) hl hl' hc
  unfold daysV leapB
  split
  · rename_i h
    have h := of_decide_eq_true h
    omega
  · rename_i h
    have h := of_decide_eq_false (Bool.eq_false_iff.2 h)
    omega

end Go.Proofs.YtaajdkgcfoppeaaDoor
