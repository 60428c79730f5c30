/- Rows of notes with the places of their terms: what holds while a slice of notes is made. No condition but those that each theorem names. -/
import Derived.Test.YtbcikkaoohihhaaGreatDoorMarkNtP
import Derived.Deep.AppendLies
namespace Go.Proofs.YtbcikkaoohihhaaGreatDoor
open Go.RowKit Go.Sort

/-- A note and where its terms lie. -/
structure NtR where
  x : Nt
  T : Option Addr
  c : Nat
def NtR.cells (r : NtR) : List Value := ntC r.x r.T r.c
def flatR (rs : List NtR) : List Value := rs.flatMap NtR.cells
theorem flatR_length : ∀ rs : List NtR, (flatR rs).length = rs.length * 8
  | [] => rfl
  | r :: rs => by
    have := flatR_length rs
    unfold flatR at this ⊢
    rw [List.flatMap_cons, List.length_append, this]
    show 8 + _ = (rs.length + 1) * 8
    omega
theorem flatR_append (a b : List NtR) : flatR (a ++ b) = flatR a ++ flatR b := by unfold flatR; exact List.flatMap_append
theorem flatR_one (r : NtR) : flatR [r] = r.cells := by simp [flatR]
theorem flatR_get : ∀ (rs : List NtR) (j : Nat) (r : NtR) (m : Nat) (v : Value), rs[j]? = some r → r.cells[m]? = some v → (flatR rs)[j * 8 + m]? = some v
  | [], _, _, _, _, h, _ => by simp at h
  | q :: rs, 0, r, m, v, h, hv => by
    simp at h
    subst h
    have hm : m < q.cells.length := (List.getElem?_eq_some_iff.1 hv).1
    show (q.cells ++ flatR rs)[0 * 8 + m]? = _
    rw [Nat.zero_mul, Nat.zero_add, List.getElem?_append_left hm]
    exact hv
  | q :: rs, j + 1, r, m, v, h, hv => by
    have h8 : q.cells.length = 8 := rfl
    show (q.cells ++ flatR rs)[(j + 1) * 8 + m]? = _
    rw [List.getElem?_append_right (by rw [h8]; omega), h8, show (j + 1) * 8 + m - 8 = j * 8 + m by omega]
    exact flatR_get rs j r m v (by simpa using h) hv
theorem flatR_at : ∀ (rs : List NtR) (i : Nat) (v : Value), (flatR rs)[i]? = some v → ∃ r, rs[i / 8]? = some r ∧ r.cells[i % 8]? = some v := fun rs i v h => by
  have hi : i < rs.length * 8 := by rw [← flatR_length]; exact (List.getElem?_eq_some_iff.1 h).1
  have hj : i / 8 < rs.length := by omega
  obtain ⟨r, hr⟩ : ∃ r, rs[i / 8]? = some r := ⟨_, List.getElem?_eq_getElem hj⟩
  have h8 : r.cells.length = 8 := rfl
  obtain ⟨u, hu⟩ : ∃ u, r.cells[i % 8]? = some u := ⟨_, List.getElem?_eq_getElem (by rw [h8]; omega)⟩
  have := flatR_get rs _ r _ u hr hu
  rw [show i / 8 * 8 + i % 8 = i by omega, h] at this
  exact ⟨r, hr, by rw [hu]; exact this.symm⟩
theorem rows_of {P : Nat → NtR → Prop} : ∀ (xs : List Nt), (∀ j x, xs[j]? = some x → ∃ r : NtR, r.x = x ∧ P j r) → ∃ rs : List NtR, rs.map NtR.x = xs ∧ ∀ j r, rs[j]? = some r → P j r := by
  intro xs
  induction xs generalizing P with
  | nil => exact fun _ => ⟨[], rfl, fun _ _ h => by simp at h⟩
  | cons x xs ih =>
    intro h
    obtain ⟨r, hr, hp⟩ := h 0 x rfl
    obtain ⟨rs, h1, h2⟩ := ih (P := fun j => P (j + 1)) (fun j y hy => h (j + 1) y hy)
    refine ⟨r :: rs, by simp [hr, h1], fun j q hq => ?_⟩
    cases j with
    | zero => simp at hq; subst hq; exact hp
    | succ j => exact h2 j q (by simpa using hq)
/-- A slice that reads as these rows. -/
def RdR (w : World) (B : Nat) (A : Option Addr) (rs : List NtR) : Prop :=
  0 < rs.length → ∃ b off, A = some ⟨b, off, none⟩ ∧ b < B ∧ ∀ j r, rs[j]? = some r → RowAt w b (off + j * 8) r.cells ∧ RdT w B r.T r.c r.x.terms
theorem RdNt.rows {w : World} {B : Nat} {A : Option Addr} {xs : List Nt} (h : RdNt w B A xs) : ∃ rs : List NtR, rs.map NtR.x = xs ∧ RdR w B A rs := by
  rcases Nat.eq_zero_or_pos xs.length with h0 | h0
  · exact ⟨[], by rw [List.eq_nil_of_length_eq_zero h0]; rfl, fun h => absurd h (by simp)⟩
  · obtain ⟨b, off, e, hlt, hc⟩ := h h0
    obtain ⟨rs, h1, h2⟩ := rows_of (P := fun j r => RowAt w b (off + j * 8) r.cells ∧ RdT w B r.T r.c r.x.terms) xs (fun j x hx => by
      obtain ⟨T, c, a1, a2⟩ := hc j x hx
      exact ⟨⟨x, T, c⟩, rfl, a1, a2⟩)
    exact ⟨rs, h1, fun _ => ⟨b, off, e, hlt, h2⟩⟩
theorem RdR.nt {w : World} {B : Nat} {A : Option Addr} {rs : List NtR} (h : RdR w B A rs) : RdNt w B A (rs.map NtR.x) := fun hn => by
  obtain ⟨b, off, e, hlt, hc⟩ := h (by simpa using hn)
  refine ⟨b, off, e, hlt, fun j x hx => ?_⟩
  rw [List.getElem?_map] at hx
  obtain ⟨r, hr, rfl⟩ := Option.map_eq_some_iff.1 hx
  obtain ⟨a1, a2⟩ := hc j r hr
  exact ⟨r.T, r.c, a1, a2⟩
theorem RdR.below {w w' : World} {B : Nat} {A : Option Addr} {rs : List NtR} (h : RdR w B A rs) (hb : Below B w w') : RdR w' B A rs := fun hn => by
  obtain ⟨b, off, e, hlt, hc⟩ := h hn
  refine ⟨b, off, e, hlt, fun j r hr => ?_⟩
  obtain ⟨h1, h3⟩ := hc j r hr
  exact ⟨h1.below hb hlt, h3.below hb⟩
theorem RdR.more {w : World} {B B' : Nat} {A : Option Addr} {rs : List NtR} (h : RdR w B A rs) (hB : B ≤ B') : RdR w B' A rs := fun hn => by
  obtain ⟨b, off, e, hlt, hc⟩ := h hn
  refine ⟨b, off, e, by omega, fun j r hr => ?_⟩
  obtain ⟨h1, h3⟩ := hc j r hr
  exact ⟨h1, h3.more hB⟩
theorem RdR.next {w w' : World} {A : Option Addr} {rs : List NtR} (h : RdR w w.heap.size A rs) (hb : Below w.heap.size w w') : RdR w' w'.heap.size A rs := (h.below hb).more hb.size

/-- A slice of notes on its way: its own row, and the blocks of its terms. -/
structure OutNt (w : World) (base : Nat) (rs : List NtR) (own : Nat → Nat) (v : Value) (W : World) : Prop where
  row : W.ownsRow base 36 8 v rs.length (flatR rs)
  ts : ∀ j r, rs[j]? = some r → WrT W base r.T r.c r.x.terms ∧ OwnT own W.heap.size (j + 1) r.T r.x.terms.length
  own0 : ∀ g, v.ownBlock = some g → own g = 0
  bel : Below w.heap.size w W
  low : w.heap.size ≤ base
  hi : base ≤ W.heap.size
theorem OutNt.next {w : World} {base : Nat} {rs : List NtR} {own : Nat → Nat} {v : Value} {W W' : World} (h : OutNt w base rs own v W) (hb : Below W.heap.size W W') : OutNt w base rs own v W' :=
  ⟨own_below h.row hb, fun j r hr => ⟨(h.ts j r hr).1.below hb, fun t o i e hn => ⟨((h.ts j r hr).2 t o i e hn).1, Nat.lt_of_lt_of_le ((h.ts j r hr).2 t o i e hn).2 hb.size⟩⟩, h.own0, ext_trans h.bel hb, h.low, Nat.le_trans h.hi hb.size⟩
theorem OutNt.start (w : World) : OutNt w w.heap.size [] (fun _ => 0) (.slice none 0 0) w :=
  ⟨own_nil, fun _ _ h => by simp at h, fun _ _ => rfl, Below.refl _ _, Nat.le_refl _, Nat.le_refl _⟩
theorem OutNt.start0 (w : World) : OutNt w w.heap.size [] (fun _ => 0) (.slice (some ⟨w.heap.size, 0, none⟩) 0 0) (w.alloc (.cells #[] 36)) := by
  have h := World.ownsRow_lit (base := w.heap.size) (e := 36) (size := 8) w #[] 0 (Nat.le_refl _) (by simp) rfl
  exact ⟨by simpa [flatR] using h, fun _ _ h => by simp at h, fun _ _ => rfl, ext1 _ _, Nat.le_refl _, by simp⟩
theorem WrT.grown {w w' : World} {base : Nat} {T : Option Addr} {c : Nat} {xs : List Int} {row : Option Nat} (h : WrT w base T c xs) (hg : w.grownBy w' row) (hn : ∀ t o i, T = some ⟨t, o, i⟩ → 0 < xs.length → some t ≠ row) : WrT w' base T c xs :=
  ⟨Wr.of_blocks h.1 hg.size fun t o i e hp hlt => hg.block t hlt (hn t o i e hp), h.2⟩
/-- One more note: its terms are new, the row grows. -/
theorem OutNt.push {w : World} {base : Nat} {rs : List NtR} {own : Nat → Nat} {v : Value} {W W2 W2a w3 : World} (h : OutNt w base rs own v W) {x : Nt} {T : Option Addr} {c : Nat} (hb2 : Below W.heap.size W W2) (hT : WrT W2 W.heap.size T c x.terms) (hb2a : Below W2.heap.size W2 W2a)
    {g cap : Nat} (hown3 : w3.ownsRow base 36 8 (.slice (some ⟨g, 0, none⟩) (rs.length + 1) cap) (rs.length + 1) (flatR rs ++ ntC x T c)) (hg : W2a.grownBy w3 v.ownBlock) (hat : v.ownBlock = some g ∨ g = W2a.heap.size) :
    OutNt w base (rs ++ [⟨x, T, c⟩]) (fun t => if W2.heap.size ≤ t then 0 else if W.heap.size ≤ t then rs.length + 1 else own t) (.slice (some ⟨g, 0, none⟩) (rs.length + 1) cap) w3 := by
  have hV := fun k hk => h.row.lt k hk
  have s1 := hb2.size
  have s2 := hb2a.size
  have s3 := hg.size
  refine ⟨by rw [flatR_append, flatR_one, List.length_append]; exact hown3, fun j r hr => ?_, fun g' e => ?_, below_grown (ext_trans (ext_trans h.bel hb2) hb2a) (own_below (own_below h.row hb2) hb2a) h.low hg, h.low, by have := h.hi; omega⟩
  · rcases Nat.lt_or_ge j rs.length with hj | hj
    · rw [List.getElem?_append_left hj] at hr
      obtain ⟨t1, t2⟩ := h.ts j r hr
      refine ⟨((t1.below hb2).below hb2a).grown hg fun t o i e hn e2 => ?_, fun t o i e hn => ?_⟩
      · have h1 := (t2 t o i e hn).1
        have h2 := h.own0 t e2.symm
        omega
      · obtain ⟨q1, q2⟩ := t2 t o i e hn
        refine ⟨?_, by omega⟩
        show (if _ then _ else _) = _
        rw [if_neg (by omega), if_neg (by omega)]
        exact q1
    · have hj2 : j = rs.length := by
        have := (List.getElem?_eq_some_iff.1 hr).1
        simp at this
        omega
      subst hj2
      rw [List.getElem?_append_right (Nat.le_refl _), Nat.sub_self] at hr
      simp at hr
      subst hr
      have hlo : ∀ t o i, T = some ⟨t, o, i⟩ → 0 < x.terms.length → W.heap.size ≤ t ∧ t < W2.heap.size := fun t o i e hn => by
        obtain ⟨tb, tq, e2, q1, q2, _⟩ := hT.1 hn
        rw [e] at e2
        injection e2 with e2
        injection e2 with e2
        subst e2
        exact ⟨q1, q2⟩
      refine ⟨(((hT.below hb2a).grown hg fun t o i e hn e2 => ?_).more h.hi), fun t o i e hn => ?_⟩
      · have := (hV t e2.symm).2
        have := (hlo t o i e hn).1
        omega
      · obtain ⟨q1, q2⟩ := hlo t o i e hn
        refine ⟨?_, by omega⟩
        show (if _ then _ else _) = _
        rw [if_neg (by omega), if_pos q1]
  · have eg : g = g' := by
      have : some g = some g' := e
      injection this
    subst eg
    show (if _ then _ else _) = _
    rcases hat with e2 | e2
    · have := (hV g e2).2
      rw [if_neg (by omega), if_neg (by omega)]
      exact h.own0 g e2
    · rw [if_pos (by omega)]
theorem OutNt.wr {w : World} {base : Nat} {rs : List NtR} {own : Nat → Nat} {v : Value} {W : World} (h : OutNt w base rs own v W) : ∃ A c, v = .slice A (rs.map NtR.x).length c ∧ WrNd W base W.heap.size A (rs.map NtR.x) := by
  rcases h.row.2 with ⟨rfl, h0⟩ | ⟨g, cap, cur, rfl, hg, hh, hc, hm, hs, ht⟩
  · exact ⟨none, 0, by simp [h0], Nat.le_refl _, fun hn => by simp [h0] at hn⟩
  · have hlt : g < W.heap.size := (Array.getElem?_eq_some_iff.1 hh).1
    refine ⟨some ⟨g, 0, none⟩, cap, by simp, Nat.le_refl _, fun _ => ⟨g, 0, own, rfl, hg, hlt, fun j => by simp [World.frozen?, hh], h.own0 g rfl, fun j x hx => ?_⟩⟩
    rw [List.getElem?_map] at hx
    obtain ⟨r, hr, rfl⟩ := Option.map_eq_some_iff.1 hx
    obtain ⟨t1, t2⟩ := h.ts j r hr
    refine ⟨r.T, r.c, fun m u hu => ?_, t1, t2⟩
    have := h.row.cells (g := g) rfl _ _ (flatR_get rs j r m u hr hu)
    have ea : (⟨g, 0, none⟩ : Addr).add (j * 8 + m) = ⟨g, 0 + j * 8 + m, none⟩ := by
      unfold Addr.add
      by_cases hj : j * 8 + m = 0 <;> simp [hj] <;> omega
    rw [ea] at this
    exact this
theorem news_rowN (w : World) {C : Array Value} (T : TypeId) (vs : List Value) (h : C.toList = vs) : ∀ j u, vs[j]? = some u → (w.alloc (.cells C T)).cell? ((⟨w.heap.size, 0, none⟩ : Addr).add j) = some u := fun j u hu => by
  have ea : (⟨w.heap.size, 0, none⟩ : Addr).add j = ⟨w.heap.size, 0 + j, none⟩ := by
    unfold Addr.add
    by_cases hj : j = 0 <;> simp [hj]
  rw [ea, Nat.zero_add, cell_one, ← Array.getElem?_toList, h]
  exact hu
end Go.Proofs.YtbcikkaoohihhaaGreatDoor
