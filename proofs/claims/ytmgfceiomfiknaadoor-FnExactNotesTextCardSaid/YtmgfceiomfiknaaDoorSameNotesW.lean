/- SameNotes: both walks. No condition but those that each theorem names. -/
import Derived.Test.YtmgfceiomfiknaaDoorNotes
import Derived.Test.YtmgfceiomfiknaaDoorSameDeskW
namespace Go.Proofs.YtmgfceiomfiknaaDoor
open Go.RowKit Go.Sort

def ntEq (x y : Nt) : Bool := (x.name.toList == y.name.toList) && ((x.kind == y.kind) && ((x.num == y.num) && ((x.den == y.den) && (decide (x.terms = y.terms) && ((x.sp == y.sp) && ((x.sd == y.sd) && (x.sq == y.sq)))))))
def sameNt : List Nt → List Nt → Bool
  | [], [] => true
  | x :: xs, y :: ys => ntEq x y && sameNt xs ys
  | _, _ => false
theorem sameNt_step {xs ys : List Nt} {k : Nat} {x y : Nt} (hx : xs[k]? = some x) (hy : ys[k]? = some y) : sameNt (xs.drop k) (ys.drop k) = (ntEq x y && sameNt (xs.drop (k + 1)) (ys.drop (k + 1))) := by
  rw [drop_cons hx, drop_cons hy]; rfl
theorem sameNt_end {xs ys : List Nt} {k : Nat} (hx : xs.length ≤ k) (hy : ys.length ≤ k) : sameNt (xs.drop k) (ys.drop k) = true := by
  rw [List.drop_eq_nil_of_le hx, List.drop_eq_nil_of_le hy]; rfl
theorem sameNt_len : ∀ {xs ys : List Nt}, ¬ xs.length = ys.length → sameNt xs ys = false
  | [], [], h => absurd rfl h
  | [], _ :: _, _ => rfl
  | _ :: _, [], _ => rfl
  | x :: xs, y :: ys, h => by
    show (ntEq x y && sameNt xs ys) = false
    rw [sameNt_len (xs := xs) (ys := ys) (fun e => h (by simp [e])), Bool.and_false]
/-- Which part is the first to differ. -/
theorem ntEq_ways (x y : Nt) :
    ((x.name.toList == y.name.toList) = false ∧ ntEq x y = false) ∨
    ((x.name.toList == y.name.toList) = true ∧ (x.kind == y.kind) = false ∧ ntEq x y = false) ∨
    ((x.name.toList == y.name.toList) = true ∧ (x.kind == y.kind) = true ∧ (x.num == y.num) = false ∧ ntEq x y = false) ∨
    ((x.name.toList == y.name.toList) = true ∧ (x.kind == y.kind) = true ∧ (x.num == y.num) = true ∧ (x.den == y.den) = false ∧ ntEq x y = false) ∨
    ((x.name.toList == y.name.toList) = true ∧ (x.kind == y.kind) = true ∧ (x.num == y.num) = true ∧ (x.den == y.den) = true ∧ decide (x.terms = y.terms) = false ∧ ntEq x y = false) ∨
    ((x.name.toList == y.name.toList) = true ∧ (x.kind == y.kind) = true ∧ (x.num == y.num) = true ∧ (x.den == y.den) = true ∧ decide (x.terms = y.terms) = true ∧ (x.sp == y.sp) = false ∧ ntEq x y = false) ∨
    ((x.name.toList == y.name.toList) = true ∧ (x.kind == y.kind) = true ∧ (x.num == y.num) = true ∧ (x.den == y.den) = true ∧ decide (x.terms = y.terms) = true ∧ (x.sp == y.sp) = true ∧ (x.sd == y.sd) = false ∧ ntEq x y = false) ∨
    ((x.name.toList == y.name.toList) = true ∧ (x.kind == y.kind) = true ∧ (x.num == y.num) = true ∧ (x.den == y.den) = true ∧ decide (x.terms = y.terms) = true ∧ (x.sp == y.sp) = true ∧ (x.sd == y.sd) = true ∧ (x.sq == y.sq) = false ∧ ntEq x y = false) ∨
    ((x.name.toList == y.name.toList) = true ∧ (x.kind == y.kind) = true ∧ (x.num == y.num) = true ∧ (x.den == y.den) = true ∧ decide (x.terms = y.terms) = true ∧ (x.sp == y.sp) = true ∧ (x.sd == y.sd) = true ∧ (x.sq == y.sq) = true ∧ ntEq x y = true) := by
  unfold ntEq
  cases (x.name.toList == y.name.toList) <;> cases (x.kind == y.kind) <;> cases (x.num == y.num) <;> cases (x.den == y.den) <;> cases decide (x.terms = y.terms) <;> cases (x.sp == y.sp) <;> cases (x.sd == y.sd) <;> cases (x.sq == y.sq) <;> simp

end Go.Proofs.YtmgfceiomfiknaaDoor
