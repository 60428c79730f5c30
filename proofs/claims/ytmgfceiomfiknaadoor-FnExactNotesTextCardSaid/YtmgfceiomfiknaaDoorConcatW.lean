/- slices.Concat at integers: the walk. No condition but those that each theorem names. -/
import Derived.Test.YtmgfceiomfiknaaDoorExpW
import Derived.Lib.AppendZerosOnto
import Derived.Lib.AppendZeros
namespace Go.Proofs.YtmgfceiomfiknaaDoor
open Go.RowKit Go.Sort

theorem own_room {w : World} {base : Nat} {e : TypeId} {size n : Nat} {v : Value} {xs : List Value} (h : w.ownsRow base e size v n xs) : ∃ B cp, v = .slice B n cp ∧ n ≤ cp := by
  rcases h.2 with ⟨rfl, rfl⟩ | ⟨g, cap, cur, rfl, _, _, hc, _⟩
  · exact ⟨_, _, rfl, Nat.le_refl _⟩
  · exact ⟨_, _, rfl, hc⟩
theorem run_append_empty (B : Option Addr) (n cp : Nat) (A : Option Addr) (d : Nat) (ty : TypeId) (w : World) (h : n ≤ cp) :
    (Builtin.append_ #[22, 22] ty #[.slice B n cp, .slice A 0 d]).run Tryd.prog w = .ok (.slice B n cp) w := by
  obtain ⟨i0, hi, hz0, hz1, hz2⟩ := info_parts info64
  have ht := Tryd.underlying22
  cases B <;> cases A <;> simp [Builtin.append_, run_underlying ht, sizeOf, typeInfo, hi, Builtin.lenOf, h, Builtin.firstCells, loadCells, loadCellsFrom, storeCells]
end Go.Proofs.YtmgfceiomfiknaaDoor
