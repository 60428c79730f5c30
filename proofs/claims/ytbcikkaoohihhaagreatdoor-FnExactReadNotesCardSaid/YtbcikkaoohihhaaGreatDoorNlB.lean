/- What returns a slice of notes, and what holds while a statement on such a slice is walked. No condition but those that each theorem names. -/
import Derived.Test.YtbcikkaoohihhaaGreatDoorMarkNtP
import Derived.Test.YtbcikkaoohihhaaGreatDoorCopyNtP
import Derived.Test.YtbcikkaoohihhaaGreatDoorValidNotesW
namespace Go.Proofs.YtbcikkaoohihhaaGreatDoor
open Go.RowKit Go.Sort

/-- What returns a slice of notes and a code. -/
def RetNtL (w : World) (xs : List Nt) (code : Int) (e : Ending) (w' : World) : Prop := ∃ A c, e = .returned (.tuple #[.slice A xs.length c, .int .i64 code]) ∧ WrNd w' w.heap.size w'.heap.size A xs ∧ Below w.heap.size w w'
theorem RetNtL.nil_ {w w' : World} (code : Int) (h : Below w.heap.size w w') : RetNtL w [] code (.returned (.tuple #[.slice none 0 0, .int .i64 code])) w' :=
  ⟨none, 0, rfl, ⟨Nat.le_refl _, fun h => absurd h (by simp)⟩, h⟩
theorem OutNt.retL {w w0 W : World} {base : Nat} {rs : List NtR} {own : Nat → Nat} {v : Value} (h : OutNt w0 base rs own v W) (hb : Below w.heap.size w w0) (code : Int) {xs : List Nt} (hx : rs.map NtR.x = xs) : RetNtL w xs code (.returned (.tuple #[v, .int .i64 code])) W := by
  subst hx
  obtain ⟨A, c, rfl, hw⟩ := h.wr
  exact ⟨A, c, rfl, hw.more (Nat.le_trans hb.size h.low), ext_trans hb h.bel⟩
theorem OutNt.form {w0 W : World} {base : Nat} {rs : List NtR} {own : Nat → Nat} {v : Value} (h : OutNt w0 base rs own v W) (hn : 0 < rs.length) : ∃ g cap, v = .slice (some ⟨g, 0, none⟩) rs.length cap := by
  rcases h.row.2 with ⟨rfl, h0⟩ | ⟨g, cap, cur, rfl, _⟩
  · omega
  · exact ⟨g, cap, rfl⟩
theorem posN_bd (xs : List Nt) (ht : ∀ x ∈ xs, x.terms.length ≤ 1048576) : ∀ k, k ≤ xs.length → posN xs k ≤ k * 1048583
  | 0, _ => by simp [posN]
  | k + 1, hk => by
    have := posN_bd xs ht k (by omega)
    have hx : xs[k]? = some xs[k] := List.getElem?_eq_getElem (by omega)
    have h2 := ht _ (List.mem_of_getElem? hx)
    rw [posN_snoc hx]
    unfold Nt.wide
    omega
/-- The reference's slice of notes lies below b3, the program's from b4 on and below b5. -/
structure Nl (w : World) (b3 b4 b5 : Nat) (A0 A1 : Option Addr) (ys gs : List Nt) (W : World) : Prop where
  a : Below w.heap.size w W
  r : RdNt W b3 A0 ys
  g : WrNd W b4 b5 A1 gs
  l1 : w.heap.size ≤ b3
  l3 : b3 ≤ b4
  l5 : b4 ≤ W.heap.size
section
variable {w W W' : World} {b3 b4 b5 : Nat} {A0 A1 : Option Addr} {ys gs hs : List Nt}
theorem Nl.next (h : Nl w b3 b4 b5 A0 A1 ys gs W) (hb : Below W.heap.size W W') : Nl w b3 b4 b5 A0 A1 ys gs W' :=
  ⟨ext_trans h.a hb, h.r.below (hb.mono (by have := h.l3; have := h.l5; omega)), h.g.next (hb.mono h.g.1), h.l1, h.l3, Nat.le_trans h.l5 hb.size⟩
theorem Nl.rr (h : Nl w b3 b4 b5 A0 A1 ys gs W) : RdNt W W.heap.size A0 ys := h.r.more (by have := h.l3; have := h.l5; omega)
theorem Nl.rg (h : Nl w b3 b4 b5 A0 A1 ys gs W) : RdNt W W.heap.size A1 gs := h.g.rd.more h.g.1
theorem Nl.marked (h : Nl w b3 b4 b5 A0 A1 ys gs W) (hb : Below b3 W W') (hs : W.heap.size ≤ W'.heap.size) (hf : ∀ B, b4 ≤ B → B < W.heap.size → W'.heap[B]? = W.heap[B]?) : Nl w b3 b4 b5 A0 A1 ys gs W' :=
  ⟨h.a.trans (hb.mono h.l1), h.r.below hb, h.g.keep hs fun B h1 h2 => hf B h1 (Nat.lt_of_lt_of_le h2 h.g.1), h.l1, h.l3, Nat.le_trans h.l5 hs⟩
theorem Nl.remark (h : Nl w b3 b4 b5 A0 A1 ys gs W) (hw : WrNd W' b4 b5 A1 hs) (hb : Below b4 W W') (hz : W.heap.size ≤ W'.heap.size) : Nl w b3 b4 b5 A0 A1 ys hs W' :=
  ⟨h.a.trans (hb.mono (by have := h.l1; have := h.l3; omega)), h.r.below (hb.mono h.l3), hw, h.l1, h.l3, Nat.le_trans h.l5 hz⟩
end
theorem valid_len {xs : List Nt} (h : validNt xs = true) : xs.length ≤ 40 := by
  unfold validNt at h
  rw [Bool.and_eq_true, decide_eq_true_iff] at h
  exact h.2
end Go.Proofs.YtbcikkaoohihhaaGreatDoor
