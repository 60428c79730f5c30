/- Parts of the proof, merged: PeriodW PdW. No condition but those that each theorem names. -/
import Derived.Test.YtjgafjbccfjojaaGreatMgAP
import Derived.Test.YtjgafjbccfjojaaGreatMgAK
import Derived.Test.YtjgafjbccfjojaaGreatMgAQ
namespace Go.Proofs.YtjgafjbccfjojaaGreat
open Go.RowKit Go.Sort Go.Maps Go.WideMaps
theorem own_full {w : World} {base : Nat} {v : Value} {xs : List Int} (h : w.ownsRow base 2 1 v xs.length (xs.map (Value.int .i64))) : ∃ A c, v = .slice A xs.length c ∧ Wr (Value.int .i64) w base A xs ∧ xs.length ≤ c ∧ c ≤ maxLen := by
  obtain ⟨_, A, c, e, g⟩ := Wr.of_own h
  refine ⟨A, c, e, g, ?_⟩
  rcases h.2 with ⟨e2, h0⟩ | ⟨g', cap, cur, e2, _, _, hc, hm, _⟩
  · rw [e] at e2
    injection e2 with _ _ e3
    rw [e3, h0]
    exact ⟨Nat.le_refl _, Nat.zero_le _⟩
  · rw [e] at e2
    injection e2 with _ _ e3
    rw [e3]
    exact ⟨hc, hm⟩
end Go.Proofs.YtjgafjbccfjojaaGreat
namespace Go.Proofs.YtjgafjbccfjojaaGreat
open Go.RowKit Go.Sort Go.Maps Go.WideMaps
def pdR (s : Sd) : Option (List Sd × Nat) := if sdOk s = true then perOf s else none
def pdC (s : Sd) : Int := if sdOk s = true then (if (perOf s).isSome = true then 0 else 5) else 1
theorem pdR_facts {s : Sd} {L : List Sd} {i : Nat} (h : pdR s = some (L, i)) : sdOk s = true ∧ perOf s = some (L, i) ∧ pdC s = 0 ∧ i < L.length ∧ L.length ≤ 400 := by
  unfold pdR at h
  split at h
  · rename_i hs
    have := per_facts 400 [] s (L, i) h
    refine ⟨hs, h, ?_, by simpa using this⟩
    simp [pdC, hs, h]
  · cases h
theorem pdR_none {s : Sd} (h : pdR s = none) : pdC s ≠ 0 := by
  unfold pdR at h
  unfold pdC
  split
  · rename_i hs
    rw [if_pos hs] at h
    simp [h]
  · omega
end Go.Proofs.YtjgafjbccfjojaaGreat
