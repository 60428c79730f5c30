/- What the gears' statements draw from a code of bytes: the walks. No condition but those that each theorem names. -/
import Derived.Test.YtdjnblkgeaphmaaDrawFW
import Derived.Deep.RegionHeld3
import Derived.IntWalk
namespace Go.Proofs.Ytdjnblkgeaphmaa
open Go.RowKit Go.Sort

theorem S0.fin {g B N M : Nat} {w W : World} (t : S0 g B N w W) (hM : N ≤ M) (x y : Value) : Src g B M ((W.setCell ⟨w.heap.size, 0, none⟩ x).setCell ⟨w.heap.size, 1, none⟩ y) ∧ Keep g w ((W.setCell ⟨w.heap.size, 0, none⟩ x).setCell ⟨w.heap.size, 1, none⟩ y) := by
  obtain ⟨t1, t2, t3, t4⟩ := t
  exact ⟨((t1.setOther t4 _ _).setOther t4 _ _).more hM, (t2.setOther t4 (Nat.le_refl _) _ _).setOther t4 (Nat.le_refl _) _ _⟩
/-- The state of a statement's draw: the source behind the result. -/
def SG (N : Nat) (w W : World) : Prop := Src (w.heap.size + 1) (w.heap.size + 1) N W ∧ B2 w.heap.size 0 0 W ∧ Below w.heap.size w W
section
variable {N M : Nat} {w W W' : World} {h : Nat} {a b : Int}
theorem SG.keep (t : SG N w W) (hs : Src (w.heap.size + 1) (w.heap.size + 1) M W') (k : Keep (w.heap.size + 1) W W') : SG M w W' := ⟨hs, t.2.1.keep k (by omega), t.2.2.trans (k.1.mono (by omega))⟩
theorem SG.next (t : SG N w W) (hb : Below W.heap.size W W') : SG N w W' := t.keep (t.1.next hb) (Keep.of hb t.1.lt)
theorem SG.start {T : TypeId} (hs : Src (w.alloc (.cells #[.int .i64 0, .int .i64 0] T)).heap.size (w.alloc (.cells #[.int .i64 0, .int .i64 0] T)).heap.size N W) (hb : Below (w.alloc (.cells #[.int .i64 0, .int .i64 0] T)).heap.size (w.alloc (.cells #[.int .i64 0, .int .i64 0] T)) W) : SG N w W :=
  ⟨by simpa using hs, (B2.new _ _ _ T).next hb, ext_trans (ext1 _ _) hb⟩
theorem SG.end_ (t : SG N w W) (x y : Value) : Below w.heap.size w ((W.setCell ⟨w.heap.size, 0, none⟩ x).setCell ⟨w.heap.size, 1, none⟩ y) := ext_set (ext_set t.2.2 (Nat.le_refl _) _) (Nat.le_refl _) _
def SH (N : Nat) (w : World) (h : Nat) (a b : Int) (W : World) : Prop := SG N w W ∧ B2 h a b W ∧ w.heap.size + 1 < h
theorem SH.start (t : SG N w W) (a b : Int) (T : TypeId) : SH N w W.heap.size a b (W.alloc (.cells #[.int .i64 a, .int .i64 b] T)) := ⟨t.next (ext1 _ _), B2.new _ _ _ _, t.1.lt⟩
theorem SH.keep (t : SH N w h a b W) (hs : Src (w.heap.size + 1) (w.heap.size + 1) M W') (k : Keep (w.heap.size + 1) W W') : SH M w h a b W' := ⟨t.1.keep hs k, t.2.1.keep k (by have := t.2.2; omega), t.2.2⟩
theorem SH.next (t : SH N w h a b W) (hb : Below W.heap.size W W') : SH N w h a b W' := t.keep (t.1.1.next hb) (Keep.of hb t.1.1.lt)
theorem SH.put {a' b' : Int} {j : Nat} {u : Value} (t : SH N w h a b W) (r : B2 h a' b' (W.setCell ⟨h, j, none⟩ u)) : SH N w h a' b' (W.setCell ⟨h, j, none⟩ u) :=
  ⟨⟨t.1.1.setOther t.2.2 j u, t.1.2.1.far (by have := t.2.2; omega) u, ext_set t.1.2.2 (by have := t.2.2; show w.heap.size ≤ h; omega) u⟩, r, t.2.2⟩
theorem SH.set0 (t : SH N w h a b W) (x : Int) : SH N w h x b (W.setCell ⟨h, 0, none⟩ (.int .i64 x)) := t.put (t.2.1.set0 x)
theorem SH.set1 (t : SH N w h a b W) (x : Int) : SH N w h a x (W.setCell ⟨h, 1, none⟩ (.int .i64 x)) := t.put (t.2.1.set1 x)
end
/-- What the statement's draw returns. -/
def RetGear (w : World) (e : Ending) (w' : World) : Prop := ∃ a b lo hi : Int, e = .returned (.tuple #[fracV a b, .int .i64 lo, .int .i64 hi]) ∧ Below w.heap.size w w'
theorem SH.ret {N : Nat} {w W : World} {h : Nat} {a b : Int} (t : SH N w h a b W) (lo hi : Int) (x y : Value) : RetGear w (.returned (.tuple #[fracV a b, .int .i64 lo, .int .i64 hi])) ((W.setCell ⟨w.heap.size, 0, none⟩ x).setCell ⟨w.heap.size, 1, none⟩ y) := ⟨a, b, lo, hi, rfl, t.1.end_ x y⟩
/-- A fraction's cells in block h. -/
def RF (h : Nat) (a b : Int) (W : World) : Prop := W.cell? ⟨h, 0, none⟩ = some (.int .i64 a) ∧ W.cell? ⟨h, 1, none⟩ = some (.int .i64 b)
theorem RF.set {h i j : Nat} {u : Value} {a b : Int} {W : World} (t : RF h a b W) (hi : h ≠ i) : RF h a b (W.setCell ⟨i, j, none⟩ u) := by
  have o : ∀ m, (W.setCell ⟨i, j, none⟩ u).cell? ⟨h, m, none⟩ = W.cell? ⟨h, m, none⟩ := fun m => World.cell?_setCell_other _ _ _ _ (by intro e; injection e; omega)
  exact ⟨(o 0).trans t.1, (o 1).trans t.2⟩
end Go.Proofs.Ytdjnblkgeaphmaa
