/- The least unit: the reference's loop. No condition but those that each theorem names. -/
import Derived.Test.YtmgfceiomfiknaaDoorUnitSW
import Derived.Deep.DeepCutAuto
namespace Go.Proofs.YtmgfceiomfiknaaDoor
open Go.RowKit Go.Sort

/-- What the reference's call returns that makes the least unit. -/
def RetUs (w : World) (R : Option (Int × Int)) (n : Nat) (e : Ending) (w' : World) : Prop :=
  ∃ P0 P1 : Int, e = .returned (.tuple #[pairV P0 P1, .int .i64 n, .bool R.isSome]) ∧ (∀ x y, R = some (x, y) → P0 = x ∧ P1 = y) ∧ Below w.heap.size w w'
theorem ext_drewN {w w' : World} {n : Nat} (h : Below w.heap.size w w') : Below w.heap.size w (w'.drewN n) := by
  have h2 := ext_drew h
  exact ⟨h2.1, h2.2, h2.3, h2.4, h2.5⟩
theorem BoxV.drewN {g n : Nat} {vs : List Value} {W : World} (h : BoxV g vs W) : BoxV g vs (W.drewN n) := ⟨h.c, h.f, h.lt⟩
theorem filt1 {d x y : Int} {pb : Bool} (h : plB d x y = pb) : (Option.filter (fun p : Int × Int => plB d p.1 p.2) (some (x, y))).isSome = pb ∧ ∀ x' y', Option.filter (fun p : Int × Int => plB d p.1 p.2) (some (x, y)) = some (x', y') → x = x' ∧ y = y' := by
  subst h
  by_cases h : plB d x y = true
  · simp [Option.filter, h]
  · have h' : plB d x y = false := by simpa using h
    simp [Option.filter, h']
theorem unS_step {ts : List Int} {k : Nat} {t x y x0 y0 : Int} (h : ts[k]? = some t) : unS (ts.drop k) x y x0 y0 = if smB (t * x + x0) (t * y + y0) = true then unS (ts.drop (k + 1)) (t * x + x0) (t * y + y0) x y else none := by
  obtain ⟨h1, h2⟩ := List.getElem?_eq_some_iff.1 h
  rw [List.drop_eq_getElem_cons h1, h2]; rfl
theorem unS_end {ts : List Int} {k : Nat} {x y x0 y0 : Int} (h : ¬ k < ts.length) : unS (ts.drop k) x y x0 y0 = some (x, y) := by
  rw [List.drop_eq_nil_of_le (by omega)]; rfl
end Go.Proofs.YtmgfceiomfiknaaDoor
