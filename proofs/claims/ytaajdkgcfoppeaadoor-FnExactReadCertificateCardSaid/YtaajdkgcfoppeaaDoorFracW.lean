/- Fractions: absolute values, greatest common divisors, plain fractions. No condition but those that each theorem names. -/
import Derived.Test.YtaajdkgcfoppeaaDoorBase
import Derived.RegionTactic
namespace Go.Proofs.YtaajdkgcfoppeaaDoor
open Go.RowKit Go.Sort

@[reducible] def fracV (n d : Int) : Value := .agg #[.int .i64 n, .int .i64 d]
/-- A product of bounded numbers. -/
theorem mul_bd {x y M N : Int} (hM : 0 ≤ M) (h2 : x ≤ M) (hN : 0 ≤ N) (h4 : y ≤ N) (h1 : -M ≤ x) (h3 : -N ≤ y) : -(M * N) ≤ x * y ∧ x * y ≤ M * N := by
  have a : (x * y).natAbs ≤ (M * N).natAbs := by
    rw [Int.natAbs_mul, Int.natAbs_mul]
    exact Nat.mul_le_mul (by omega) (by omega)
  have p : 0 ≤ M * N := Int.mul_nonneg hM hN
  omega
def fracOk (n d : Int) : Bool := inR d 1 1000000000 && inR n (-1000000000) 1000000000 && decide (Int.gcd n d = 1)
theorem fracOk_true {n d : Int} : fracOk n d = true ↔ 1 ≤ d ∧ d ≤ 1000000000 ∧ -1000000000 ≤ n ∧ n ≤ 1000000000 ∧ Int.gcd n d = 1 := by
  unfold fracOk; rw [Bool.and_eq_true, Bool.and_eq_true, inR_true, inR_true, decide_eq_true_iff]; omega


theorem beq_one (x : Nat) : ((x : Int) == 1) = decide (x = 1) := by rw [Bool.eq_iff_iff]; simp; omega
theorem gcd_step (x y : Nat) (_ : 0 < y) : Nat.gcd y (x % y) = Nat.gcd x y := by
  rw [Nat.gcd_comm x y, Nat.gcd_rec y x, Nat.gcd_comm]


/-- A fraction in lowest terms, its denominator positive. -/
def qN (n d : Int) : Int := (if d < 0 then -n else n) / (Int.gcd n d : Int)
def qD (n d : Int) : Int := (d.natAbs : Int) / (Int.gcd n d : Int)
def fullN (n d : Int) : Int := if fracOk (qN n d) (qD n d) = true then qN n d else 0
def fullD (n d : Int) : Int := if fracOk (qN n d) (qD n d) = true then qD n d else 0
def fullC (n d : Int) : Int := if fracOk (qN n d) (qD n d) = true then 0 else 5

theorem gcd_pos' {n d : Int} (hd : d ≠ 0) : 0 < (Int.gcd n d : Int) := by
  have : 0 < Int.gcd n d := Int.gcd_pos_of_ne_zero_right _ hd
  omega
theorem tdiv_gcd {n d : Int} : n.tdiv (Int.gcd n d : Int) = n / (Int.gcd n d : Int) ∧ d.tdiv (Int.gcd n d : Int) = d / (Int.gcd n d : Int) :=
  ⟨Int.tdiv_eq_ediv_of_dvd (Int.gcd_dvd_left ..), Int.tdiv_eq_ediv_of_dvd (Int.gcd_dvd_right ..)⟩
theorem ediv_bd {n g M : Int} (hg : 0 < g) (h1 : -M ≤ n) (h2 : n ≤ M) : -M ≤ n / g ∧ n / g ≤ M := by
  constructor
  · have : (-M) / g ≤ n / g := Int.ediv_le_ediv hg h1
    have h3 : -M ≤ (-M) / g := by
      rw [Int.le_ediv_iff_mul_le hg]
      have : M * 1 ≤ M * g := Int.mul_le_mul_of_nonneg_left (by omega) (by omega)
      rw [Int.neg_mul]; omega
    omega
  · have : n / g ≤ M / g := Int.ediv_le_ediv hg h2
    have := Int.ediv_le_self g (show 0 ≤ M by omega)
    omega

end Go.Proofs.YtaajdkgcfoppeaaDoor
