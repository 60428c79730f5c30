/- Slices of named terms: how they read; the statements' own measuring, copying and comparing of them. No condition but those that each theorem names. -/
import Derived.Test.YtaajdkgcfoppeaaDoorSlices
namespace Go.Proofs.YtaajdkgcfoppeaaDoor
open Go.RowKit Go.Sort

/-- A name with its terms. -/
structure Nd where
  name : ByteArray
  terms : List Int
instance : Inhabited Nd := ⟨⟨ByteArray.empty, []⟩⟩
/-- How many bytes and numbers it has. -/
def Nd.sz (x : Nd) : Nat := x.name.size + x.terms.length
def ndTot (xs : List Nd) : Nat := (xs.map Nd.sz).sum
/-- No part is greater than memory. -/
def Nd.fits (x : Nd) : Prop := x.name.size ≤ maxLen ∧ x.terms.length ≤ maxLen
@[reducible] def ndV (s : ByteArray) (T : Option Addr) (n c : Nat) : Value := .agg #[.string s, .slice T n c]

theorem ndTot_snoc {xs : List Nd} {k : Nat} {x : Nd} (h : xs[k]? = some x) : ndTot (xs.take (k + 1)) = ndTot (xs.take k) + x.sz := by
  unfold ndTot
  rw [List.take_add_one, h]
  simp
theorem ndTot_take_le (xs : List Nd) (k : Nat) : ndTot (xs.take k) ≤ ndTot xs := by
  have h2 := congrArg List.sum (List.take_append_drop k (xs.map Nd.sz))
  rw [List.sum_append] at h2
  unfold ndTot
  rw [List.map_take, ← h2]
  omega

theorem nd_le {xs : List Nd} {x : Nd} (h : x ∈ xs) : x.name.size + x.terms.length ≤ ndTot xs := by
  induction xs with
  | nil => cases h
  | cons y ys ih =>
    have e : ndTot (y :: ys) = y.sz + ndTot ys := by simp [ndTot]
    rw [e]
    rcases List.mem_cons.1 h with rfl | h
    · unfold Nd.sz; omega
    · have := ih h; omega
theorem Rd.next {α : Type} {enc : α → Value} {w w' : World} {A : Option Addr} {xs : List α} (h : Rd enc w w.heap.size A xs) (hb : Below w.heap.size w w') : Rd enc w' w'.heap.size A xs := (h.below hb).more hb.size
/-- A slice of integers with its capacity. -/
def RdT (w : World) (B : Nat) (T : Option Addr) (c : Nat) (xs : List Int) : Prop := Rd (Value.int .i64) w B T xs ∧ xs.length ≤ c ∧ c ≤ maxLen
def WrT (w : World) (B : Nat) (T : Option Addr) (c : Nat) (xs : List Int) : Prop := Wr (Value.int .i64) w B T xs ∧ xs.length ≤ c ∧ c ≤ maxLen
section
variable {w w' : World} {B B' : Nat} {T : Option Addr} {c : Nat} {xs : List Int}
theorem RdT.below (h : RdT w B T c xs) (hb : Below B w w') : RdT w' B T c xs := ⟨h.1.below hb, h.2⟩
theorem RdT.more (h : RdT w B T c xs) (hB : B ≤ B') : RdT w B' T c xs := ⟨h.1.more hB, h.2⟩
theorem RdT.next (h : RdT w w.heap.size T c xs) (hb : Below w.heap.size w w') : RdT w' w'.heap.size T c xs := ⟨h.1.next hb, h.2⟩
theorem WrT.rd (h : WrT w B T c xs) : RdT w w.heap.size T c xs := ⟨h.1.rd, h.2⟩
theorem WrT.more (h : WrT w B T c xs) (hB : B' ≤ B) : WrT w B' T c xs := ⟨h.1.more hB, h.2⟩
theorem WrT.below (h : WrT w B T c xs) (hb : Below w.heap.size w w') : WrT w' B T c xs := ⟨h.1.below hb, h.2⟩
theorem WrT.setLow (h : WrT w B T c xs) {p : Addr} (hp : p.block < B) (u : Value) : WrT (w.setCell p u) B T c xs := ⟨h.1.setLow hp u, h.2⟩
end
/-- A slice's address leads to named terms, in a block below B; so do their terms. -/
def RdN (w : World) (B : Nat) (A : Option Addr) (xs : List Nd) : Prop :=
  0 < xs.length → ∃ b off, A = some ⟨b, off, none⟩ ∧ b < B ∧ ∀ j x, xs[j]? = some x → ∃ T c, w.cell? ⟨b, off + j * 2, none⟩ = some (.string x.name) ∧ w.cell? ⟨b, off + j * 2 + 1, none⟩ = some (.slice T x.terms.length c) ∧ RdT w B T c x.terms
section
variable {w w' : World} {B B' : Nat} {A : Option Addr} {xs : List Nd}
theorem RdN.below (h : RdN w B A xs) (hb : Below B w w') : RdN w' B A xs := fun hn => by
  obtain ⟨b, off, e, hlt, hc⟩ := h hn
  refine ⟨b, off, e, hlt, fun j x hx => ?_⟩
  obtain ⟨T, c, h1, h2, h3⟩ := hc j x hx
  exact ⟨T, c, (hb.cell (p := ⟨b, off + j * 2, none⟩) hlt).trans h1, (hb.cell (p := ⟨b, off + j * 2 + 1, none⟩) hlt).trans h2, h3.below hb⟩
theorem RdN.more (h : RdN w B A xs) (hB : B ≤ B') : RdN w B' A xs := fun hn => by
  obtain ⟨b, off, e, hlt, hc⟩ := h hn
  refine ⟨b, off, e, by omega, fun j x hx => ?_⟩
  obtain ⟨T, c, h1, h2, h3⟩ := hc j x hx
  exact ⟨T, c, h1, h2, h3.more hB⟩
/-- Behind a call. -/
theorem RdN.next (h : RdN w w.heap.size A xs) (hb : Below w.heap.size w w') : RdN w' w'.heap.size A xs := (h.below hb).more hb.size
end
/-- .. in blocks from base on. -/
def WrN (w : World) (base : Nat) (A : Option Addr) (xs : List Nd) : Prop :=
  0 < xs.length → ∃ b off, A = some ⟨b, off, none⟩ ∧ base ≤ b ∧ b < w.heap.size ∧ ∀ j x, xs[j]? = some x → ∃ T c, w.cell? ⟨b, off + j * 2, none⟩ = some (.string x.name) ∧ w.cell? ⟨b, off + j * 2 + 1, none⟩ = some (.slice T x.terms.length c) ∧ WrT w base T c x.terms
section
variable {w w' : World} {B B' : Nat} {A : Option Addr} {xs : List Nd}
theorem WrN.rd (h : WrN w B A xs) : RdN w w.heap.size A xs := fun hn => by
  obtain ⟨b, off, e, _, hlt, hc⟩ := h hn
  refine ⟨b, off, e, hlt, fun j x hx => ?_⟩
  obtain ⟨T, c, h1, h2, h3⟩ := hc j x hx
  exact ⟨T, c, h1, h2, h3.rd⟩
theorem WrN.more (h : WrN w B A xs) (hB : B' ≤ B) : WrN w B' A xs := fun hn => by
  obtain ⟨b, off, e, hl, hlt, hc⟩ := h hn
  refine ⟨b, off, e, by omega, hlt, fun j x hx => ?_⟩
  obtain ⟨T, c, h1, h2, h3⟩ := hc j x hx
  exact ⟨T, c, h1, h2, h3.more hB⟩
theorem WrN.setLow (h : WrN w B A xs) {p : Addr} (hp : p.block < B) (u : Value) : WrN (w.setCell p u) B A xs := fun hn => by
  obtain ⟨b, off, e, hl, hlt, hc⟩ := h hn
  refine ⟨b, off, e, hl, by simpa using hlt, fun j x hx => ?_⟩
  obtain ⟨T, c, h1, h2, h3⟩ := hc j x hx
  refine ⟨T, c, (World.cell?_setCell_other w p _ u ?_).trans h1, (World.cell?_setCell_other w p _ u ?_).trans h2, h3.setLow hp u⟩
  all_goals (intro e; subst e; exact absurd hp (Nat.not_lt.2 hl))
end

end Go.Proofs.YtaajdkgcfoppeaaDoor
