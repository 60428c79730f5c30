/- PeriodOf and the reference's walk with its code. No condition but those that each theorem names. -/
import Derived.Test.YtmgfceiomfiknaaDoorPeriodW
namespace Go.Proofs.YtmgfceiomfiknaaDoor
open Go.RowKit Go.Sort Go.Maps Go.WideMaps

def pdR (s : Sd) : Option (List Sd × Nat) := if sdOk s = true then perOf s else none
def pdC (s : Sd) : Int := if sdOk s = true then (if (perOf s).isSome = true then 0 else 5) else 1
theorem pdR_facts {s : Sd} {L : List Sd} {i : Nat} (h : pdR s = some (L, i)) : sdOk s = true ∧ perOf s = some (L, i) ∧ pdC s = 0 ∧ i < L.length ∧ L.length ≤ 400 := by
  unfold pdR at h
  split at h
  · rename_i hs
    have := per_facts 400 [] s (L, i) h
    refine ⟨hs, h, ?_, by simpa using this⟩
    simp [pdC, hs, h]
  · cases h
theorem pdR_none {s : Sd} (h : pdR s = none) : pdC s ≠ 0 := by
  unfold pdR at h
  unfold pdC
  split
  · rename_i hs
    rw [if_pos hs] at h
    simp [h]
  · omega
end Go.Proofs.YtmgfceiomfiknaaDoor
