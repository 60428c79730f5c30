/- Sources: the statements' own measuring, copying, comparing and marking of them. No condition but those that each theorem names. -/
import Derived.Test.YtbcikkaoohihhaaGreatDoorTmW
import Derived.Test.YtbcikkaoohihhaaGreatDoorMrB
namespace Go.Proofs.YtbcikkaoohihhaaGreatDoor
open Go.RowKit Go.Sort

/-- Two slices lie in different blocks. -/
def DjA (A : Option Addr) (n : Nat) (B : Option Addr) (m : Nat) : Prop := 0 < n → 0 < m → ∃ b o b' o', A = some ⟨b, o, none⟩ ∧ B = some ⟨b', o', none⟩ ∧ b' ≠ b
theorem DjA.of {A B : Option Addr} {xs ys : List Int} {w w' : World} {b b' : Nat} (h : Wr (Value.int .i64) w b A xs) (k : Wr (Value.int .i64) w' b' B ys) (hb : w.heap.size ≤ b') : DjA A xs.length B ys.length := fun h0 h1 => by
  obtain ⟨c, o, e, _, h2, _⟩ := h h0
  obtain ⟨c', o', e', h3, _⟩ := k h1
  exact ⟨c, o, c', o', e, e', by omega⟩
theorem Wr.others {α : Type} {enc : α → Value} {A A' : Option Addr} {n B : Nat} {xs : List α} {w w' : World} (h : Wr enc w B A xs) (o : Others A' n w w') (hs : w'.heap.size = w.heap.size) (hd : DjA A' n A xs.length) : Wr enc w' B A xs := fun hn => by
  obtain ⟨b, off, e, h1, h2, hc, hf⟩ := h hn
  have hb : w'.heap[b]? = w.heap[b]? := o b fun h0 => by
    obtain ⟨c, o, c', o', e1, e2, hne⟩ := hd h0 hn
    rw [e] at e2
    injection e2 with e2
    injection e2 with e2
    exact ⟨c, o, e1, by omega⟩
  exact ⟨b, off, e, h1, by omega, fun j x hx => (World.cell?_of_block (a := ⟨b, off + j, none⟩) hb).trans (hc j x hx), fun j => by have := hf j; simpa only [World.frozen?, hb] using this⟩
/-- Three slices that lie apart in blocks from base on. -/
structure WrSo (w : World) (base : Nat) (H P G : Option Addr) (s : So) : Prop where
  h : Wr (Value.int .i64) w base H s.hd
  p : Wr (Value.int .i64) w base P s.pd
  g : Wr (Value.int .i64) w base G s.gr
  hp : DjA H s.hd.length P s.pd.length
  hg : DjA H s.hd.length G s.gr.length
  pg : DjA P s.pd.length G s.gr.length
theorem WrSo.rd {w : World} {base : Nat} {H P G : Option Addr} {s : So} (h : WrSo w base H P G s) : RdSo w w.heap.size H P G s := ⟨h.h.rd, h.p.rd, h.g.rd⟩
theorem WrSo.next {w w' : World} {base : Nat} {H P G : Option Addr} {s : So} (h : WrSo w base H P G s) (hb : Below w.heap.size w w') : WrSo w' base H P G s := ⟨h.h.below hb, h.p.below hb, h.g.below hb, h.hp, h.hg, h.pg⟩
def So.small (s : So) : Prop := s.hd.length ≤ 1048576 ∧ s.pd.length ≤ 1048576 ∧ s.gr.length ≤ 1048576
def So.sz (s : So) : Nat := s.hd.length + s.pd.length + s.gr.length
/-- What a call returns that makes a source. -/
def RetSou (w : World) (s : So) (e : Ending) (w' : World) : Prop :=
  ∃ A B C a b c, e = .returned (souV A s.hd.length a B s.pd.length b C s.gr.length c) ∧ WrSo w' w.heap.size A B C s ∧ Below w.heap.size w w'
end Go.Proofs.YtbcikkaoohihhaaGreatDoor
