/- Slices of leap rules: the statements' own comparing, marking and looking. No condition but those that each theorem names. -/
import Derived.Test.YtdjnblkgeaphmaaConvW
import Derived.Test.YtdjnblkgeaphmaaPutL
namespace Go.Proofs.Ytdjnblkgeaphmaa
open Go.RowKit Go.Sort

/-- Rules without a shift, as a row of integers. -/
def ruL (ps : List (Int × Int)) : List Int := ps.flatMap fun p => [p.1, p.2, 0]
theorem ruL_length (ps : List (Int × Int)) : (ruL ps).length = ps.length * 3 := by
  induction ps with
  | nil => rfl
  | cons p ps ih => simp only [ruL, List.flatMap_cons, List.length_append, List.length_cons, List.length_nil] at *; omega
theorem ruL_snoc (ps : List (Int × Int)) (p : Int × Int) : ruL (ps ++ [p]) = ruL ps ++ [p.1, p.2, 0] := by simp [ruL]
theorem ruL_get {ps : List (Int × Int)} {j : Nat} {p : Int × Int} (h : ps[j]? = some p) : (ruL ps)[j * 3]? = some p.1 ∧ (ruL ps)[j * 3 + 1]? = some p.2 ∧ (ruL ps)[j * 3 + 2]? = some 0 := by
  induction ps generalizing j with
  | nil => simp at h
  | cons a ps ih =>
    cases j with
    | zero =>
      simp at h
      subst h
      simp [ruL]
    | succ j =>
      have := ih (j := j) (by simpa using h)
      have e1 : (j + 1) * 3 = j * 3 + 1 + 1 + 1 := by omega
      simp only [ruL, List.flatMap_cons] at *
      rw [e1]
      exact this
/-- What a call returns that makes a slice of rules, and a code. -/
def RetRules (w : World) (ps : List (Int × Int)) (code : Int) (e : Ending) (w' : World) : Prop :=
  ∃ A c, e = .returned (.tuple #[.slice A ps.length c, .int .i64 code]) ∧ Wr (Value.int .i64) w' w.heap.size A (ruL ps) ∧ Below w.heap.size w w'

end Go.Proofs.Ytdjnblkgeaphmaa
