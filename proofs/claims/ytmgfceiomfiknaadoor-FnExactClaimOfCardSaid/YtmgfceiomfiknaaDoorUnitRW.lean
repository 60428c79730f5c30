/- The least unit: UnitOf, both sides. No condition but those that each theorem names. -/
import Derived.Test.YtmgfceiomfiknaaDoorUnitTW
namespace Go.Proofs.YtmgfceiomfiknaaDoor
open Go.RowKit Go.Sort

noncomputable def utC (d : Int) : Int := if pcC d = 0 then (if (unR d).isSome = true then 0 else 5) else pcC d
def RetUo (w : World) (R : Option (Int × Int)) (c : Int) (e : Ending) (w' : World) : Prop :=
  ∃ P0 P1 N : Int, e = .returned (.tuple #[pairV P0 P1, .int .i64 N, .int .i64 c]) ∧ (c = 0 → R = some (P0, P1)) ∧ Below w.heap.size w w'
theorem utC_bad {d : Int} (h : ¬ pcC d = 0) : utC d = pcC d := by simp [utC, h]
theorem utC_none {d : Int} (h : pcC d = 0) (h2 : unR d = none) : utC d = 5 := by simp [utC, h, h2]
theorem utC_some {d : Int} {p : Int × Int} (h : pcC d = 0) (h2 : unR d = some p) : utC d = 0 := by simp [utC, h, h2]
theorem utC_zero {d : Int} (h : utC d = 0) : pcC d = 0 ∧ ∃ p, unR d = some p := by
  by_cases h1 : pcC d = 0
  · refine ⟨h1, ?_⟩
    cases h2 : unR d with
    | none => rw [utC_none h1 h2] at h; omega
    | some p => exact ⟨p, rfl⟩
  · exact absurd ((utC_bad h1).symm.trans h) h1
theorem pcC_in (d : Int) : 0 ≤ pcC d ∧ pcC d ≤ 6 := by
  unfold pcC
  split <;> (try split) <;> omega
end Go.Proofs.YtmgfceiomfiknaaDoor
