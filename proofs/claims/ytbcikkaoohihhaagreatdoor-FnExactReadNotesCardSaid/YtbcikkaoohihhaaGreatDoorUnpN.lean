/- While a note is read: its box, its terms. No condition but those that each theorem names. -/
import Derived.Test.YtbcikkaoohihhaaGreatDoorUnpQ
import Derived.Test.YtbcikkaoohihhaaGreatDoorNlB
import Derived.Test.YtbcikkaoohihhaaGreatDoorMrC
import Derived.Test.YtbcikkaoohihhaaGreatDoorSrcW
import Derived.Deep.Onto
namespace Go.Proofs.YtbcikkaoohihhaaGreatDoor
open Go.RowKit Go.Sort

/-- A note's cells, its terms as any value. -/
@[reducible] def ntLv (x : Nt) (v : Value) : List Value := [.string x.name, .int .i64 x.kind, .int .i64 x.num, .int .i64 x.den, v, .int .i64 x.sp, .int .i64 x.sd, .int .i64 x.sq]
@[reducible] def ntZv : List Value := [.string ⟨#[]⟩, .int .i64 0, .int .i64 0, .int .i64 0, .slice none 0 0, .int .i64 0, .int .i64 0, .int .i64 0]
theorem own_put {b j : Nat} {u : Value} {W : World} {base : Nat} {e : TypeId} {size n : Nat} {v : Value} {xs : List Value} (h : W.ownsRow base e size v n xs) (hb : v.ownBlock ≠ some b) : (W.setCell ⟨b, j, none⟩ u).ownsRow base e size v n xs := by
  obtain ⟨h1, h2⟩ := h
  refine ⟨h1, ?_⟩
  rcases h2 with h2 | ⟨c, cap, cur, hv, hc, hh, r⟩
  · exact .inl h2
  · refine .inr ⟨c, cap, cur, hv, hc, ?_, r⟩
    have hne : c ≠ b := fun e => hb (by rw [hv, e]; rfl)
    exact (Below.heap_setCell W ⟨b, j, none⟩ u c (by simp; exact hne)).trans hh
theorem own_keptU {g : Nat} {W W' : World} {base : Nat} {e : TypeId} {size n : Nat} {v : Value} {xs : List Value} (h : W.ownsRow base e size v n xs) (k : Keep g W W') (hg : g < base) : W'.ownsRow base e size v n xs := by
  obtain ⟨h1, h2⟩ := h
  refine ⟨h1, ?_⟩
  rcases h2 with h2 | ⟨b, cap, cur, hv, hb, hh, r⟩
  · exact .inl h2
  · have hlt : b < W.heap.size := (Array.getElem?_eq_some_iff.1 hh).1
    exact .inr ⟨b, cap, cur, hv, hb, (k.2.2 b (by omega) hlt).trans hh, r⟩
theorem BoxV.keepU {g s : Nat} {vs : List Value} {W W' : World} (h : BoxV g vs W) (k : Keep s W W') (hg : g ≠ s) : BoxV g vs W' :=
  ⟨fun j v hv => (k.cell hg h.lt).trans (h.c j v hv), fun j => (k.frozen hg h.lt).trans (h.f j), Nat.lt_of_lt_of_le h.lt k.2.1⟩
theorem Keep.putU {g : Nat} {a b : World} (h : Keep g a b) (hg : g < a.heap.size) {i : Nat} (hi : a.heap.size ≤ i) (j : Nat) (u : Value) : Keep g a (b.setCell ⟨i, j, none⟩ u) :=
  ⟨h.1.setCell (by simp; omega) u, by simpa using h.2.1, fun k hk hl => (Below.heap_setCell b ⟨i, j, none⟩ u k (by simp; omega)).trans (h.2.2 k hk hl)⟩
/-- The state of a reader of a note: the result's box, the note's box, its terms. -/
structure UI (g b : Nat) (x : Nt) (v : Value) (w W : World) : Prop where
  keep : Keep g w W
  r : BoxV w.heap.size ntZv W
  s : BoxV b (ntLv x v) W
  row : W.ownsRow (w.heap.size + 1) 2 1 v x.terms.length (x.terms.map (Value.int .i64))
  far : v.ownBlock ≠ some b
  hb : w.heap.size < b
  hg : g < w.heap.size
section
variable {g b : Nat} {x : Nt} {v : Value} {w W W' : World}
theorem UI.kept (t : UI g b x v w W) (k : Keep g W W') : UI g b x v w W' :=
  ⟨t.keep.trans k, t.r.keepU k (by have := t.hg; omega), t.s.keepU k (by have := t.hg; have := t.hb; omega), own_keptU t.row k (by have := t.hg; omega), t.far, t.hb, t.hg⟩
theorem UI.next (t : UI g b x v w W) (hb : Below W.heap.size W W') : UI g b x v w W' := t.kept (Keep.of hb (Nat.lt_of_lt_of_le t.hg t.keep.2.1))
theorem UI.kind (t : UI g b x v w W) (k : Int) : UI g b { x with kind := k } v w (W.setCell ⟨b, 1, none⟩ (.int .i64 k)) :=
  ⟨t.keep.putU t.hg (Nat.le_of_lt t.hb) _ _, t.r.setFar _ (by have := t.hb; omega), t.s.set 1 _ (by simp), own_put t.row t.far, t.far, t.hb, t.hg⟩
theorem UI.num (t : UI g b x v w W) (k : Int) : UI g b { x with num := k } v w (W.setCell ⟨b, 2, none⟩ (.int .i64 k)) :=
  ⟨t.keep.putU t.hg (Nat.le_of_lt t.hb) _ _, t.r.setFar _ (by have := t.hb; omega), t.s.set 2 _ (by simp), own_put t.row t.far, t.far, t.hb, t.hg⟩
theorem UI.den (t : UI g b x v w W) (k : Int) : UI g b { x with den := k } v w (W.setCell ⟨b, 3, none⟩ (.int .i64 k)) :=
  ⟨t.keep.putU t.hg (Nat.le_of_lt t.hb) _ _, t.r.setFar _ (by have := t.hb; omega), t.s.set 3 _ (by simp), own_put t.row t.far, t.far, t.hb, t.hg⟩
theorem UI.sp (t : UI g b x v w W) (k : Int) : UI g b { x with sp := k } v w (W.setCell ⟨b, 5, none⟩ (.int .i64 k)) :=
  ⟨t.keep.putU t.hg (Nat.le_of_lt t.hb) _ _, t.r.setFar _ (by have := t.hb; omega), t.s.set 5 _ (by simp), own_put t.row t.far, t.far, t.hb, t.hg⟩
theorem UI.sd (t : UI g b x v w W) (k : Int) : UI g b { x with sd := k } v w (W.setCell ⟨b, 6, none⟩ (.int .i64 k)) :=
  ⟨t.keep.putU t.hg (Nat.le_of_lt t.hb) _ _, t.r.setFar _ (by have := t.hb; omega), t.s.set 6 _ (by simp), own_put t.row t.far, t.far, t.hb, t.hg⟩
theorem UI.sq (t : UI g b x v w W) (k : Int) : UI g b { x with sq := k } v w (W.setCell ⟨b, 7, none⟩ (.int .i64 k)) :=
  ⟨t.keep.putU t.hg (Nat.le_of_lt t.hb) _ _, t.r.setFar _ (by have := t.hb; omega), t.s.set 7 _ (by simp), own_put t.row t.far, t.far, t.hb, t.hg⟩
/-- Behind an append to the terms. -/
theorem UI.push (t : UI g b x v w W) {y : Int} {v' : Value} (hown : W'.ownsRow (w.heap.size + 1) 2 1 v' (x.terms.length + 1) (x.terms.map (Value.int .i64) ++ [.int .i64 y])) (hgr : W.grownBy W' v.ownBlock) (hf : v'.ownBlock ≠ some b) :
    UI g b { x with terms := x.terms ++ [y] } v' w (W'.setCell ⟨b, 4, none⟩ v') := by
  have hl := fun k hk => (t.row.lt k hk).1
  have hg := t.hg
  have hb := t.hb
  have hs := t.keep.2.1
  have k2 : Keep g w W' := ⟨t.keep.1.grown hgr (by omega) (fun k hk => by have := hl k hk; omega), Nat.le_trans hs hgr.size, fun c hc hlt =>
    (hgr.block c (Nat.lt_of_lt_of_le hlt hs) (fun e => by have := hl c e.symm; omega)).trans (t.keep.2.2 c hc hlt)⟩
  refine ⟨k2.putU hg (Nat.le_of_lt hb) _ _, (t.r.grown hgr (fun e => by have := hl _ e; omega)).setFar _ (by omega), (t.s.grown hgr t.far).set 4 _ (by simp), ?_, hf, hb, hg⟩
  refine own_put ?_ hf
  simpa using hown
/-- The result's box is written. -/
theorem UI.fin (t : UI g b x v w W) (a0 a1 a2 a3 a4 a5 a6 a7 : Value) :
    ((((((((W.setCell ⟨w.heap.size, 0, none⟩ a0).setCell ⟨w.heap.size, 1, none⟩ a1).setCell ⟨w.heap.size, 2, none⟩ a2).setCell ⟨w.heap.size, 3, none⟩ a3).setCell ⟨w.heap.size, 4, none⟩ a4).setCell ⟨w.heap.size, 5, none⟩ a5).setCell ⟨w.heap.size, 6, none⟩ a6).setCell ⟨w.heap.size, 7, none⟩ a7).ownsRow (w.heap.size + 1) 2 1 v x.terms.length (x.terms.map (Value.int .i64)) ∧ Keep g w ((((((((W.setCell ⟨w.heap.size, 0, none⟩ a0).setCell ⟨w.heap.size, 1, none⟩ a1).setCell ⟨w.heap.size, 2, none⟩ a2).setCell ⟨w.heap.size, 3, none⟩ a3).setCell ⟨w.heap.size, 4, none⟩ a4).setCell ⟨w.heap.size, 5, none⟩ a5).setCell ⟨w.heap.size, 6, none⟩ a6).setCell ⟨w.heap.size, 7, none⟩ a7) := by
  have hf : v.ownBlock ≠ some w.heap.size := fun e => by have := (t.row.lt _ e).1; omega
  have hg := t.hg
  refine ⟨?_, ?_⟩
  · iterate 8 (refine own_put ?_ hf)
    exact t.row
  · iterate 8 (refine Keep.putU ?_ hg (Nat.le_refl _) _ _)
    exact t.keep
end
/-- A row of terms of one's own. -/
theorem own_wrT {W : World} {base : Nat} {A : Option Addr} {c n : Nat} {xs : List Int} (h : W.ownsRow base 2 1 (.slice A n c) n (xs.map (Value.int .i64))) : WrT W base A c xs := by
  obtain ⟨rfl, A2, c2, e, hw⟩ := Wr.of_own h
  injection e with e1 e2 e3
  subst e1
  refine ⟨hw, ?_⟩
  rcases h.2 with ⟨h1, h0⟩ | ⟨g, cap, cur, h1, _, _, hc, hm, _⟩
  · injection h1 with _ _ h1
    subst h1
    exact ⟨by omega, by unfold maxLen; omega⟩
  · injection h1 with _ _ h1
    subst h1
    exact ⟨hc, hm⟩
/-- A slice of notes on its way, while only block gk is written. -/
theorem OutNt.kept {w : World} {base : Nat} {rs : List NtR} {own : Nat → Nat} {v : Value} {W W' : World} {gk : Nat} (h : OutNt w base rs own v W) (k : Keep gk W W') (h1 : gk < base) (h2 : w.heap.size ≤ gk) : OutNt w base rs own v W' :=
  ⟨own_keptU h.row k h1, fun j r hr => ⟨⟨Wr.of_blocks (h.ts j r hr).1.1 k.2.1 fun t o i e hp hlt => k.2.2 t (fun e2 => by
      obtain ⟨tb, tq, e3, q1, _⟩ := (h.ts j r hr).1.1 hp
      rw [e] at e3
      injection e3 with e3
      injection e3 with e3
      omega) hlt, (h.ts j r hr).1.2⟩, fun t o i e hn => ⟨((h.ts j r hr).2 t o i e hn).1, Nat.lt_of_lt_of_le ((h.ts j r hr).2 t o i e hn).2 k.2.1⟩⟩, h.own0, h.bel.trans (k.1.mono h2), h.low, Nat.le_trans h.hi k.2.1⟩
/-- One more note that a reader gave. -/
theorem OutNt.pushK {w : World} {base : Nat} {rs : List NtR} {own : Nat → Nat} {v : Value} {W W2 W2a w3 : World} {gk : Nat} (h : OutNt w base rs own v W) {x : Nt} {T : Option Addr} {c : Nat} (hk : Keep gk W W2) (hk1 : gk < base) (hk2 : w.heap.size ≤ gk) (hT : WrT W2 W.heap.size T c x.terms) (hb2a : Below W2.heap.size W2 W2a)
    {g cap : Nat} (hown3 : w3.ownsRow base 36 8 (.slice (some ⟨g, 0, none⟩) (rs.length + 1) cap) (rs.length + 1) (flatR rs ++ ntC x T c)) (hg : W2a.grownBy w3 v.ownBlock) (hat : v.ownBlock = some g ∨ g = W2a.heap.size) :
    OutNt w base (rs ++ [⟨x, T, c⟩]) (fun t => if W2.heap.size ≤ t then 0 else if W.heap.size ≤ t then rs.length + 1 else own t) (.slice (some ⟨g, 0, none⟩) (rs.length + 1) cap) w3 := by
  have hV := fun k hk => h.row.lt k hk
  have h' := h.kept hk hk1 hk2
  have s1 := hk.2.1
  have s2 := hb2a.size
  have s3 := hg.size
  refine ⟨by rw [flatR_append, flatR_one, List.length_append]; exact hown3, fun j r hr => ?_, fun g' e => ?_, below_grown (ext_trans h'.bel hb2a) (own_below h'.row hb2a) h.low hg, h.low, by have := h.hi; omega⟩
  · rcases Nat.lt_or_ge j rs.length with hj | hj
    · rw [List.getElem?_append_left hj] at hr
      obtain ⟨_, t2⟩ := h.ts j r hr
      obtain ⟨t1, _⟩ := h'.ts j r hr
      refine ⟨(t1.below hb2a).grown hg fun t o i e hn e2 => ?_, fun t o i e hn => ?_⟩
      · have h1 := (t2 t o i e hn).1
        have h2 := h.own0 t e2.symm
        omega
      · obtain ⟨q1, q2⟩ := t2 t o i e hn
        refine ⟨?_, by omega⟩
        show (if _ then _ else _) = _
        rw [if_neg (by omega), if_neg (by omega)]
        exact q1
    · have hj2 : j = rs.length := by
        have := (List.getElem?_eq_some_iff.1 hr).1
        simp at this
        omega
      subst hj2
      rw [List.getElem?_append_right (Nat.le_refl _), Nat.sub_self] at hr
      simp at hr
      subst hr
      have hlo : ∀ t o i, T = some ⟨t, o, i⟩ → 0 < x.terms.length → W.heap.size ≤ t ∧ t < W2.heap.size := fun t o i e hn => by
        obtain ⟨tb, tq, e2, q1, q2, _⟩ := hT.1 hn
        rw [e] at e2
        injection e2 with e2
        injection e2 with e2
        subst e2
        exact ⟨q1, q2⟩
      refine ⟨(((hT.below hb2a).grown hg fun t o i e hn e2 => ?_).more h.hi), fun t o i e hn => ?_⟩
      · have := (hV t e2.symm).2
        have := (hlo t o i e hn).1
        omega
      · obtain ⟨q1, q2⟩ := hlo t o i e hn
        refine ⟨?_, by omega⟩
        show (if _ then _ else _) = _
        rw [if_neg (by omega), if_pos q1]
  · have eg : g = g' := by
      have : some g = some g' := e
      injection this
    subst eg
    show (if _ then _ else _) = _
    rcases hat with e2 | e2
    · have := (hV g e2).2
      rw [if_neg (by omega), if_neg (by omega)]
      exact h.own0 g e2
    · rw [if_pos (by omega)]
/-- What a reader of a note returns. -/
def RetUn (S : List Int → Bool → World → Prop) (g : Nat) (D : List Int) (ok : Bool) (w : World) (e : Ending) (w' : World) : Prop := ∃ (x : Nt) (v : Value) (D' : List Int) (ok' : Bool), e = .returned (.agg #[.string x.name, .int .i64 x.kind, .int .i64 x.num, .int .i64 x.den, v, .int .i64 x.sp, .int .i64 x.sd, .int .i64 x.sq]) ∧
  NotP D ok x D' ok' ∧ S D' ok' w' ∧ Keep g w w' ∧ w'.ownsRow (w.heap.size + 1) 2 1 v x.terms.length (x.terms.map (Value.int .i64))
/-- What is unpacked, and the code. -/
noncomputable def unX (s : ByteArray) : List Nt := (upS s).getD []
noncomputable def unC (s : ByteArray) : Int := if (upS s).isSome then 0 else 8
/-- What a reader of a whole text tells at its end. -/
theorem un_good {s : ByteArray} {xs : List Nt} (hu : ∀ ys, validNt ys = true → endB (bookB ys) = s → xs = ys) (hv : validNt xs = true) (he : endB (bookB xs) = s) : unX s = xs ∧ unC s = 0 := by
  unfold unX unC
  rw [upS_some hu hv he]
  exact ⟨rfl, rfl⟩
theorem un_bad {s : ByteArray} (hn : ∀ ys, validNt ys = true → endB (bookB ys) = s → False) : unX s = [] ∧ unC s = 8 := by
  unfold unX unC
  rw [upS_none hn]
  exact ⟨rfl, rfl⟩
theorem unX_bd (s : ByteArray) : (unX s).length ≤ 40 ∧ ∀ x ∈ unX s, x.terms.length ≤ 1048576 := by
  unfold unX upS
  split
  · rename_i h
    obtain ⟨h1, h2⟩ := valid_all h.choose_spec.1
    refine ⟨h1, fun x hx => ?_⟩
    have := ntOk_nu (h2 x hx)
    have h3 := (ntOk_bds (h2 x hx)).2
    have hk : ntOk x = true := h2 x hx
    rcases h3 with h3 | h3 | h3
    · rw [(ntOk_1 hk h3).1.1]; simp
    · have := (ntOk_2 hk h3).2.1; omega
    · rw [(ntOk_3 hk h3).1.2.2]; simp
  · exact ⟨by simp, fun x hx => by simp at hx⟩
end Go.Proofs.YtbcikkaoohihhaaGreatDoor
