/- Plain surds: both tests. No condition but those that each theorem names. -/
import Derived.Test.YtaajdkgcfoppeaaDoorRootW
import Derived.Test.YtaajdkgcfoppeaaDoorNotes
namespace Go.Proofs.YtaajdkgcfoppeaaDoor
open Go.RowKit Go.Sort

def surdB (p d q : Int) : Bool := inR d 2 1000000 && (!sqB d && (inR p (-1000000) 1000000 && (inR q (-1000000) 1000000 && (!decide (q = 0) && decide ((d - p * p).tmod q = 0)))))
theorem surdB_true {p d q : Int} : surdB p d q = true ↔ (2 ≤ d ∧ d ≤ 1000000) ∧ sqB d = false ∧ (-1000000 ≤ p ∧ p ≤ 1000000) ∧ (-1000000 ≤ q ∧ q ≤ 1000000) ∧ q ≠ 0 ∧ (d - p * p).tmod q = 0 := by
  simp [surdB, inR]
theorem sq_bd {p : Int} (h : inR p (-1000000) 1000000 = true) : 0 ≤ p * p ∧ p * p ≤ 1000000000000 := by
  obtain ⟨h1, h2⟩ := inR_true.1 h
  rcases Int.le_total 0 p with g | g
  · exact ⟨Int.mul_nonneg g g, Int.le_trans (Int.mul_le_mul h2 h2 g (by omega)) (by omega)⟩
  · have e : p * p = (-p) * (-p) := by rw [Int.neg_mul_neg]
    rw [e]
    exact ⟨Int.mul_nonneg (by omega) (by omega), Int.le_trans (Int.mul_le_mul (show -p ≤ 1000000 by omega) (show -p ≤ 1000000 by omega) (by omega) (by omega)) (by omega)⟩
theorem beq_dec (a b : Int) : (a == b) = decide (a = b) := by rw [Bool.eq_iff_iff]; simp
theorem bne_dec (a b : Int) : (a != b) = !decide (a = b) := by rw [Bool.eq_iff_iff]; simp

end Go.Proofs.YtaajdkgcfoppeaaDoor
