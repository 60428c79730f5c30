/- Blocks of a call's own whose cells are known. No condition but those that each theorem names. -/
import Derived.Test.YtaajdkgcfoppeaaDoorSlices
import Derived.Deep.AppendLies
namespace Go.Proofs.YtaajdkgcfoppeaaDoor
open Go.RowKit Go.Sort

/-- Block g begins with the cells vs, and may be written. -/
structure BoxV (g : Nat) (vs : List Value) (W : World) : Prop where
  c : ∀ j v, vs[j]? = some v → W.cell? ⟨g, j, none⟩ = some v
  f : ∀ j, W.frozen? ⟨g, j, none⟩ = false
  lt : g < W.heap.size
theorem BoxV.new (W : World) (C : Array Value) (T : TypeId) : BoxV W.heap.size C.toList (W.alloc (.cells C T)) :=
  ⟨fun j v h => by rw [cell_one, ← Array.getElem?_toList]; exact h, fun j => World.frozen?_alloc_at _ _ _ _ rfl, by simp⟩
theorem BoxV.next {g : Nat} {vs : List Value} {W W' : World} (h : BoxV g vs W) (hb : Below W.heap.size W W') : BoxV g vs W' :=
  ⟨fun j v hv => (hb.cell (p := ⟨g, j, none⟩) h.lt).trans (h.c j v hv), fun j => (hb.frozen (p := ⟨g, j, none⟩) h.lt).trans (h.f j), Nat.lt_of_lt_of_le h.lt hb.size⟩
theorem BoxV.under {g B : Nat} {vs : List Value} {W W' : World} (h : BoxV g vs W) (hb : Below B W W') (hg : g < B) : BoxV g vs W' :=
  ⟨fun j v hv => (hb.cell (p := ⟨g, j, none⟩) hg).trans (h.c j v hv), fun j => (hb.frozen (p := ⟨g, j, none⟩) hg).trans (h.f j), Nat.lt_of_lt_of_le h.lt hb.size⟩
theorem BoxV.alloc {g : Nat} {vs : List Value} {W : World} (h : BoxV g vs W) (o : Obj) : BoxV g vs (W.alloc o) := h.next (ext1 W o)
theorem BoxV.drew {g : Nat} {vs : List Value} {W : World} (h : BoxV g vs W) : BoxV g vs W.drew := ⟨h.c, h.f, h.lt⟩
theorem BoxV.grown {g : Nat} {vs : List Value} {W W' : World} {row : Option Nat} (h : BoxV g vs W) (hg : W.grownBy W' row) (hn : row ≠ some g) : BoxV g vs W' := by
  have hb : W'.heap[g]? = W.heap[g]? := hg.block g h.lt (fun e => hn e.symm)
  exact ⟨fun j v hv => (World.cell?_of_block (a := ⟨g, j, none⟩) hb).trans (h.c j v hv), fun j => by have := h.f j; simpa only [World.frozen?, hb] using this, Nat.lt_of_lt_of_le h.lt hg.size⟩
theorem BoxV.set {g : Nat} {vs : List Value} {W : World} (h : BoxV g vs W) (j : Nat) (u : Value) (hj : j < vs.length) : BoxV g (vs.set j u) (W.setCell ⟨g, j, none⟩ u) := by
  refine ⟨fun i v hv => ?_, fun i => (World.frozen?_setCell _ _ _ _).trans (h.f i), by simpa using h.lt⟩
  by_cases hij : i = j
  · subst hij
    rw [List.getElem?_set_self hj] at hv
    obtain rfl := Option.some.inj hv
    exact World.cell?_setCell_same _ _ _ (h.c i _ (List.getElem?_eq_getElem hj))
  · rw [List.getElem?_set_ne (fun e => hij e.symm)] at hv
    exact (World.cell?_setCell_other _ _ _ _ (by intro e; injection e; omega)).trans (h.c i v hv)
theorem BoxV.setFar {g b j : Nat} {vs : List Value} {W : World} (h : BoxV g vs W) (u : Value) (hb : b ≠ g) : BoxV g vs (W.setCell ⟨b, j, none⟩ u) :=
  ⟨fun i v hv => (World.cell?_setCell_other _ _ _ _ (by intro e; injection e; omega)).trans (h.c i v hv), fun i => (World.frozen?_setCell _ _ _ _).trans (h.f i), by simpa using h.lt⟩
theorem BoxV.at {g : Nat} {vs : List Value} {W : World} (h : BoxV g vs W) (j : Nat) (v : Value) (hv : vs[j]? = some v) : W.cell? ⟨g, j, none⟩ = some v := h.c j v hv
theorem set3 {w : World} {b : Nat} {x y z : Value} (h0 : w.cell? ⟨b, 0, none⟩ = some x) (h1 : w.cell? ⟨b, 1, none⟩ = some y) (h2 : w.cell? ⟨b, 2, none⟩ = some z) :
    (∀ v, (w.setCell ⟨b, 0, none⟩ v).cell? ⟨b, 0, none⟩ = some v) ∧ (∀ u v, ((w.setCell ⟨b, 0, none⟩ u).setCell ⟨b, 1, none⟩ v).cell? ⟨b, 1, none⟩ = some v) ∧ (∀ t u v, (((w.setCell ⟨b, 0, none⟩ t).setCell ⟨b, 1, none⟩ u).setCell ⟨b, 2, none⟩ v).cell? ⟨b, 2, none⟩ = some v) :=
  ⟨fun v => World.cell?_setCell_same _ _ _ h0, fun u v => World.cell?_setCell_same (v := v) _ _ ((World.cell?_setCell_other _ ⟨b, 0, none⟩ ⟨b, 1, none⟩ _ (by simp)).trans h1),
   fun t u v => World.cell?_setCell_same (v := v) _ _ ((World.cell?_setCell_other _ ⟨b, 1, none⟩ ⟨b, 2, none⟩ _ (by simp)).trans ((World.cell?_setCell_other _ ⟨b, 0, none⟩ ⟨b, 2, none⟩ _ (by simp)).trans h2))⟩
end Go.Proofs.YtaajdkgcfoppeaaDoor
