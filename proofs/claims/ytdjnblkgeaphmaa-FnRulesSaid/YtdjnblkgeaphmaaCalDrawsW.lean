/- What the calendars' statements draw from a code of bytes: the walks. No condition but those that each theorem names. -/
import Derived.Test.YtdjnblkgeaphmaaCalDrawW
import Derived.Deep.RegionHeld3
namespace Go.Proofs.Ytdjnblkgeaphmaa
open Go.RowKit Go.Sort

/-- A code of bytes. -/
def Bytes (w : World) (A : Option Addr) (n : Nat) : Prop := ∃ bs : List Int, Rd (Value.int .u8) w w.heap.size A bs ∧ bs.length = n ∧ n ≤ 1000000 ∧ ∀ x ∈ bs, 0 ≤ x ∧ x ≤ 255
theorem Bytes.next {w w' : World} {A : Option Addr} {n : Nat} (h : Bytes w A n) (hb : Below w.heap.size w w') : Bytes w' A n := by
  obtain ⟨bs, h1, h2⟩ := h
  exact ⟨bs, (h1.below hb).more hb.size, h2⟩
theorem l00From_bytes (A : Option Addr) (n c : Nat) (w : World) (h : Bytes w A n) :
    Calls Try.prog 104 #[.slice A n c] w fun e w' => e = .returned (.pointer (some ⟨w.heap.size, 0, none⟩)) ∧ Src w.heap.size w.heap.size 0 w' ∧ Below w.heap.size w w' := by
  obtain ⟨bs, h1, h2, h3, h4⟩ := h
  exact l00From_any A n c bs w h1 h2 h3 h4
/-- The rule's cells in block h, held while others are written. -/
def RS (h : Nat) (l c s : Int) (V W : World) : Prop := W.cell? ⟨h, 0, none⟩ = some (.int .i64 l) ∧ W.cell? ⟨h, 1, none⟩ = some (.int .i64 c) ∧ W.cell? ⟨h, 2, none⟩ = some (.int .i64 s) ∧ h < W.heap.size ∧ V.heap.size ≤ W.heap.size
theorem RS.keep {g h : Nat} {l c s : Int} {V W W' : World} (t : RS h l c s V W) (k : Keep g W W') (hg : h ≠ g) : RS h l c s V W' :=
  ⟨(k.cell hg t.2.2.2.1).trans t.1, (k.cell hg t.2.2.2.1).trans t.2.1, (k.cell hg t.2.2.2.1).trans t.2.2.1, Nat.lt_of_lt_of_le t.2.2.2.1 k.2.1, Nat.le_trans t.2.2.2.2 k.2.1⟩
theorem RS.set {h i j : Nat} {u : Value} {l c s : Int} {V W : World} (t : RS h l c s V W) (hi : h ≠ i) : RS h l c s V (W.setCell ⟨i, j, none⟩ u) := by
  have o : ∀ m, (W.setCell ⟨i, j, none⟩ u).cell? ⟨h, m, none⟩ = W.cell? ⟨h, m, none⟩ := fun m => World.cell?_setCell_other _ _ _ _ (by intro e; injection e; omega)
  exact ⟨(o 0).trans t.1, (o 1).trans t.2.1, (o 2).trans t.2.2.1, by simpa using t.2.2.2.1, by simpa using t.2.2.2.2⟩
end Go.Proofs.Ytdjnblkgeaphmaa
