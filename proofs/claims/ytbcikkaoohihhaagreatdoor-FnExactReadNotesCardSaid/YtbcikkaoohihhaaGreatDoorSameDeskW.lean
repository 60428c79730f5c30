/- SameDesk: both walks. No condition but those that each theorem names. -/
import Derived.Test.YtbcikkaoohihhaaGreatDoorMrB
namespace Go.Proofs.YtbcikkaoohihhaaGreatDoor
open Go.RowKit Go.Sort

theorem toL_inj {a b : ByteArray} (h : a.toList = b.toList) : a = b := by
  rw [ByteArray.toList_eq, ByteArray.toList_eq] at h
  exact ByteArray.ext (Array.ext' h)
theorem strEq {a b : ByteArray} (h : a = b) : (a.toList == b.toList) = true := by rw [h]; exact beq_self_eq_true _
theorem strNe {a b : ByteArray} (h : ¬ a = b) : (a.toList == b.toList) = false := by
  rw [beq_eq_false_iff_ne]
  exact fun e => h (toL_inj e)
def ndEq (x y : Nd) : Bool := decide (x.name = y.name) && decide (x.terms = y.terms)
def sameN : List Nd → List Nd → Bool
  | [], [] => true
  | x :: xs, y :: ys => ndEq x y && sameN xs ys
  | _, _ => false
theorem drop_cons {α : Type} {xs : List α} {k : Nat} {x : α} (h : xs[k]? = some x) : xs.drop k = x :: xs.drop (k + 1) := by
  obtain ⟨hl, he⟩ := List.getElem?_eq_some_iff.1 h
  rw [List.drop_eq_getElem_cons hl, he]
theorem sameN_step {xs ys : List Nd} {k : Nat} {x y : Nd} (hx : xs[k]? = some x) (hy : ys[k]? = some y) : sameN (xs.drop k) (ys.drop k) = (ndEq x y && sameN (xs.drop (k + 1)) (ys.drop (k + 1))) := by
  rw [drop_cons hx, drop_cons hy]; rfl
theorem sameN_end {xs ys : List Nd} {k : Nat} (hx : xs.length ≤ k) (hy : ys.length ≤ k) : sameN (xs.drop k) (ys.drop k) = true := by
  rw [List.drop_eq_nil_of_le hx, List.drop_eq_nil_of_le hy]; rfl
theorem sameN_len : ∀ {xs ys : List Nd}, ¬ xs.length = ys.length → sameN xs ys = false
  | [], [], h => absurd rfl h
  | [], _ :: _, _ => rfl
  | _ :: _, [], _ => rfl
  | x :: xs, y :: ys, h => by
    show (ndEq x y && sameN xs ys) = false
    rw [sameN_len (xs := xs) (ys := ys) (fun e => h (by simp [e])), Bool.and_false]

end Go.Proofs.YtbcikkaoohihhaaGreatDoor
