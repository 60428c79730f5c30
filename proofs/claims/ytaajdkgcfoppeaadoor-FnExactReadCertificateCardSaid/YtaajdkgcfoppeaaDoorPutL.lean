/- Rows of values that are stored one after the other. No condition. -/
import Derived.Test.YtaajdkgcfoppeaaDoorSlices
namespace Go.Proofs.YtaajdkgcfoppeaaDoor
open Go.RowKit Go.Sort

/-- A row of values stored one after the other. -/
def putL (h o : Nat) : Nat → List Value → World → World
  | _, [], W => W
  | i, v :: vs, W => putL h o (i + 1) vs (W.setCell ⟨h, o + i, none⟩ v)
theorem putL_size (h o : Nat) : ∀ (i : Nat) (vs : List Value) (W : World), (putL h o i vs W).heap.size = W.heap.size
  | _, [], _ => rfl
  | i, v :: vs, W => by rw [putL, putL_size h o (i + 1) vs]; simp
theorem putL_frozen (h o : Nat) (p : Addr) : ∀ (i : Nat) (vs : List Value) (W : World), (putL h o i vs W).frozen? p = W.frozen? p
  | _, [], _ => rfl
  | i, v :: vs, W => by rw [putL, putL_frozen h o p (i + 1) vs]; exact World.frozen?_setCell _ _ _ _
theorem putL_below (h o : Nat) {B : Nat} (hB : B ≤ h) : ∀ (i : Nat) (vs : List Value) {V W : World}, Below B V W → Below B V (putL h o i vs W)
  | _, [], _, _, k => k
  | i, v :: vs, _, _, k => putL_below h o hB (i + 1) vs (k.setCell (by exact hB) _)
theorem putL_other (h o : Nat) {p : Addr} : ∀ (i : Nat) (vs : List Value) (W : World), (∀ j, j < vs.length → p ≠ ⟨h, o + i + j, none⟩) → (putL h o i vs W).cell? p = W.cell? p
  | _, [], _, _ => rfl
  | i, v :: vs, W, hp => by
    rw [putL, putL_other h o (i + 1) vs _ (fun j hj => by
      have := hp (j + 1) (by simp; omega)
      rwa [show o + i + (j + 1) = o + (i + 1) + j by omega] at this)]
    exact World.cell?_setCell_other _ _ _ _ (by
      have := hp 0 (by simp)
      intro e; exact this (by rw [Nat.add_zero]; exact e.symm))
theorem putL_same (h o : Nat) : ∀ (i : Nat) (vs : List Value) (W : World), (∀ j, j < vs.length → ∃ v, W.cell? ⟨h, o + i + j, none⟩ = some v) → ∀ j v, vs[j]? = some v → (putL h o i vs W).cell? ⟨h, o + i + j, none⟩ = some v
  | _, [], _, _, j, v, hv => by simp at hv
  | i, u :: vs, W, hex, 0, v, hv => by
    simp at hv
    subst hv
    rw [putL, putL_other h o (i + 1) vs _ (fun j hj => by intro e; injection e; omega)]
    obtain ⟨x, hx⟩ := hex 0 (by simp)
    exact World.cell?_setCell_same _ _ _ hx
  | i, u :: vs, W, hex, j + 1, v, hv => by
    rw [putL, show o + i + (j + 1) = o + (i + 1) + j by omega]
    refine putL_same h o (i + 1) vs _ (fun m hm => ?_) j v (by simpa using hv)
    obtain ⟨x, hx⟩ := hex (m + 1) (by simp; omega)
    rw [show o + i + (m + 1) = o + (i + 1) + m by omega] at hx
    exact ⟨x, (World.cell?_setCell_other _ _ _ _ (by intro e; injection e; omega)).trans hx⟩
theorem putL_wr {α : Type} {enc : α → Value} (h o : Nat) {B : Nat} (hB : h < B) {A : Option Addr} {xs : List α} : ∀ (i : Nat) (vs : List Value) {W : World}, Wr enc W B A xs → Wr enc (putL h o i vs W) B A xs
  | _, [], _, k => k
  | i, v :: vs, _, k => putL_wr h o hB (i + 1) vs (k.setLow (by exact hB) _)
end Go.Proofs.YtaajdkgcfoppeaaDoor
