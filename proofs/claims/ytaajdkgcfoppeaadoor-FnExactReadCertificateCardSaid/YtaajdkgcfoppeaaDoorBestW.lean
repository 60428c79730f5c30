/- Best approximations of the first kind: the walks. No condition but those that each theorem names. -/
import Derived.Test.YtaajdkgcfoppeaaDoorSideS
import Derived.Test.YtaajdkgcfoppeaaDoorConvW
namespace Go.Proofs.YtaajdkgcfoppeaaDoor
open Go.RowKit Go.Sort

theorem B2.two_ {g : Nat} {x y : Int} {W : World} (h : B2 g x y W) : W.cell? ⟨g, 0, none⟩ = some (.int .i64 x) ∧ W.cell? ⟨g, 1, none⟩ = some (.int .i64 y) := ⟨h.1, h.2.1⟩
theorem B2.drew_ {g : Nat} {x y : Int} {W : World} (h : B2 g x y W) : B2 g x y W.drew := h
/-- A fraction is small. -/
def smallFB (n d : Int) : Bool := inR n (-1000000) 1000000 && decide (d ≤ 1000000)
/-- The code of fractions. -/
def bestC (f : Bool) (ps : List (Int × Int)) : Int := if (ps.all fun p => fracOk p.1 p.2) = true then (if (f && ps.all fun p => smallFB p.1 p.2) = true then 0 else 2) else 1
theorem allT {α : Type} {p : α → Bool} {xs : List α} {k : Nat} {x : α} (h : (xs.take k).all p = true) (hx : xs[k]? = some x) (hp : p x = true) : (xs.take (k + 1)).all p = true := by
  rw [List.take_add_one, hx]; simp_all
theorem allN {α : Type} {p : α → Bool} {xs : List α} {k : Nat} {x : α} (hx : xs[k]? = some x) (hp : p x = false) : xs.all p = false :=
  Bool.eq_false_iff.2 fun h => by have := List.all_eq_true.1 h x (List.mem_of_getElem? hx); simp_all
end Go.Proofs.YtaajdkgcfoppeaaDoor
