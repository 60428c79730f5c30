/- Square roots, rounded down: the walks. No condition but those that each theorem names. -/
import Derived.Test.YtaajdkgcfoppeaaDoorBase
import Derived.Test.YtaajdkgcfoppeaaDoorSqrtP
namespace Go.Proofs.YtaajdkgcfoppeaaDoor
open Go.RowKit Go.Sort

/-- The square root, rounded down. -/
def rt : Nat → Nat
  | 0 => 0
  | n + 1 => if (rt n + 1) * (rt n + 1) ≤ n + 1 then rt n + 1 else rt n
theorem rt_spec : ∀ n : Nat, rt n * rt n ≤ n ∧ n < (rt n + 1) * (rt n + 1)
  | 0 => by simp [rt]
  | n + 1 => by
    obtain ⟨h1, h2⟩ := rt_spec n
    unfold rt
    generalize rt n = r at *
    split
    · rename_i h
      refine ⟨h, ?_⟩
      have e : (r + 1 + 1) * (r + 1 + 1) = (r + 1) * (r + 1) + 2 * r + 3 := by
        rw [Nat.add_mul (r + 1) 1, Nat.mul_add (r + 1) (r + 1) 1]; omega
      omega
    · exact ⟨by omega, by omega⟩
def rtI (n : Int) : Int := (rt n.toNat : Int)
/-- r is n's root. -/
def IsRt (n r : Int) : Prop := 0 ≤ r ∧ r * r ≤ n ∧ n < (r + 1) * (r + 1)
theorem rtI_is {n : Int} (h : 0 ≤ n) : IsRt n (rtI n) := by
  obtain ⟨m, rfl⟩ := Int.eq_ofNat_of_zero_le h
  obtain ⟨h1, h2⟩ := rt_spec m
  unfold rtI
  rw [Int.toNat_natCast]
  refine ⟨Int.natCast_nonneg _, ?_, ?_⟩
  · exact_mod_cast h1
  · exact_mod_cast h2
theorem sq_mono {a b : Int} (h0 : 0 ≤ a) (h : a ≤ b) : a * a ≤ b * b := Int.mul_le_mul h h h0 (by omega)
theorem IsRt.uniq {n r s : Int} (h : IsRt n r) (k : IsRt n s) : r = s := by
  obtain ⟨a1, a2, a3⟩ := h
  obtain ⟨b1, b2, b3⟩ := k
  rcases Int.lt_trichotomy r s with g | g | g
  · have := sq_mono (a := r + 1) (b := s) (by omega) (by omega); omega
  · exact g
  · have := sq_mono (a := s + 1) (b := r) (by omega) (by omega); omega

/-- A number is a square. -/
def sqB (n : Int) : Bool := decide (rtI n * rtI n = n)
theorem rtI_bd {n M : Int} (h0 : 0 ≤ n) (hM : 0 ≤ M) (h : n < M * M) : 0 ≤ rtI n ∧ rtI n < M := by
  obtain ⟨a, b, c⟩ := rtI_is h0
  refine ⟨a, ?_⟩
  rcases Int.lt_or_le (rtI n) M with g | g
  · exact g
  · have := sq_mono hM g; omega
end Go.Proofs.YtaajdkgcfoppeaaDoor
