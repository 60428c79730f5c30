/- Parts of the proof, merged: UnpN DrawLdW NtSetP. No condition but those that each theorem names. -/
import Derived.Test.YtpnabggpdgjbmaaGreatDoorMgAN
import Derived.Test.YtpnabggpdgjbmaaGreatDoorMgAC
import Derived.Test.YtpnabggpdgjbmaaGreatDoorMgAB
import Derived.Deep.Onto
import Derived.Test.YtpnabggpdgjbmaaGreatDoorMgAK
import Derived.Deep.DeepMust
namespace Go.Proofs.YtpnabggpdgjbmaaGreatDoor
open Go.RowKit Go.Sort
/-- A note's cells, its terms as any value. -/
@[reducible] def ntLv (x : Nt) (v : Value) : List Value := [.string x.name, .int .i64 x.kind, .int .i64 x.num, .int .i64 x.den, v, .int .i64 x.sp, .int .i64 x.sd, .int .i64 x.sq]
@[reducible] def ntZv : List Value := [.string ⟨#[]⟩, .int .i64 0, .int .i64 0, .int .i64 0, .slice none 0 0, .int .i64 0, .int .i64 0, .int .i64 0]
theorem own_put {b j : Nat} {u : Value} {W : World} {base : Nat} {e : TypeId} {size n : Nat} {v : Value} {xs : List Value} (h : W.ownsRow base e size v n xs) (hb : v.ownBlock ≠ some b) : (W.setCell ⟨b, j, none⟩ u).ownsRow base e size v n xs := by
  obtain ⟨h1, h2⟩ := h
  refine ⟨h1, ?_⟩
  rcases h2 with h2 | ⟨c, cap, cur, hv, hc, hh, r⟩
  · exact .inl h2
  · refine .inr ⟨c, cap, cur, hv, hc, ?_, r⟩
    have hne : c ≠ b := fun e => hb (by rw [hv, e]; rfl)
    exact (Below.heap_setCell W ⟨b, j, none⟩ u c (by simp; exact hne)).trans hh
theorem own_keptU {g : Nat} {W W' : World} {base : Nat} {e : TypeId} {size n : Nat} {v : Value} {xs : List Value} (h : W.ownsRow base e size v n xs) (k : Keep g W W') (hg : g < base) : W'.ownsRow base e size v n xs := by
  obtain ⟨h1, h2⟩ := h
  refine ⟨h1, ?_⟩
  rcases h2 with h2 | ⟨b, cap, cur, hv, hb, hh, r⟩
  · exact .inl h2
  · have hlt : b < W.heap.size := (Array.getElem?_eq_some_iff.1 hh).1
    exact .inr ⟨b, cap, cur, hv, hb, (k.2.2 b (by omega) hlt).trans hh, r⟩
theorem BoxV.keepU {g s : Nat} {vs : List Value} {W W' : World} (h : BoxV g vs W) (k : Keep s W W') (hg : g ≠ s) : BoxV g vs W' :=
  ⟨fun j v hv => (k.cell hg h.lt).trans (h.c j v hv), fun j => (k.frozen hg h.lt).trans (h.f j), Nat.lt_of_lt_of_le h.lt k.2.1⟩
theorem Keep.putU {g : Nat} {a b : World} (h : Keep g a b) (hg : g < a.heap.size) {i : Nat} (hi : a.heap.size ≤ i) (j : Nat) (u : Value) : Keep g a (b.setCell ⟨i, j, none⟩ u) :=
  ⟨h.1.setCell (by simp; omega) u, by simpa using h.2.1, fun k hk hl => (Below.heap_setCell b ⟨i, j, none⟩ u k (by simp; omega)).trans (h.2.2 k hk hl)⟩
/-- The state of a reader of a note: the result's box, the note's box, its terms. -/
structure UI (g b : Nat) (x : Nt) (v : Value) (w W : World) : Prop where
  keep : Keep g w W
  r : BoxV w.heap.size ntZv W
  s : BoxV b (ntLv x v) W
  row : W.ownsRow (w.heap.size + 1) 2 1 v x.terms.length (x.terms.map (Value.int .i64))
  far : v.ownBlock ≠ some b
  hb : w.heap.size < b
  hg : g < w.heap.size
section
variable {g b : Nat} {x : Nt} {v : Value} {w W W' : World}
theorem UI.kept (t : UI g b x v w W) (k : Keep g W W') : UI g b x v w W' :=
  ⟨t.keep.trans k, t.r.keepU k (by have := t.hg; omega), t.s.keepU k (by have := t.hg; have := t.hb; omega), own_keptU t.row k (by have := t.hg; omega), t.far, t.hb, t.hg⟩
theorem UI.next (t : UI g b x v w W) (hb : Below W.heap.size W W') : UI g b x v w W' := t.kept (Keep.of hb (Nat.lt_of_lt_of_le t.hg t.keep.2.1))
theorem UI.kind (t : UI g b x v w W) (k : Int) : UI g b { x with kind := k } v w (W.setCell ⟨b, 1, none⟩ (.int .i64 k)) :=
  ⟨t.keep.putU t.hg (Nat.le_of_lt t.hb) _ _, t.r.setFar _ (by have := t.hb; omega), t.s.set 1 _ (by simp), own_put t.row t.far, t.far, t.hb, t.hg⟩
theorem UI.num (t : UI g b x v w W) (k : Int) : UI g b { x with num := k } v w (W.setCell ⟨b, 2, none⟩ (.int .i64 k)) :=
  ⟨t.keep.putU t.hg (Nat.le_of_lt t.hb) _ _, t.r.setFar _ (by have := t.hb; omega), t.s.set 2 _ (by simp), own_put t.row t.far, t.far, t.hb, t.hg⟩
theorem UI.den (t : UI g b x v w W) (k : Int) : UI g b { x with den := k } v w (W.setCell ⟨b, 3, none⟩ (.int .i64 k)) :=
  ⟨t.keep.putU t.hg (Nat.le_of_lt t.hb) _ _, t.r.setFar _ (by have := t.hb; omega), t.s.set 3 _ (by simp), own_put t.row t.far, t.far, t.hb, t.hg⟩
theorem UI.sp (t : UI g b x v w W) (k : Int) : UI g b { x with sp := k } v w (W.setCell ⟨b, 5, none⟩ (.int .i64 k)) :=
  ⟨t.keep.putU t.hg (Nat.le_of_lt t.hb) _ _, t.r.setFar _ (by have := t.hb; omega), t.s.set 5 _ (by simp), own_put t.row t.far, t.far, t.hb, t.hg⟩
theorem UI.sd (t : UI g b x v w W) (k : Int) : UI g b { x with sd := k } v w (W.setCell ⟨b, 6, none⟩ (.int .i64 k)) :=
  ⟨t.keep.putU t.hg (Nat.le_of_lt t.hb) _ _, t.r.setFar _ (by have := t.hb; omega), t.s.set 6 _ (by simp), own_put t.row t.far, t.far, t.hb, t.hg⟩
theorem UI.sq (t : UI g b x v w W) (k : Int) : UI g b { x with sq := k } v w (W.setCell ⟨b, 7, none⟩ (.int .i64 k)) :=
  ⟨t.keep.putU t.hg (Nat.le_of_lt t.hb) _ _, t.r.setFar _ (by have := t.hb; omega), t.s.set 7 _ (by simp), own_put t.row t.far, t.far, t.hb, t.hg⟩
/-- Behind an append to the terms. -/
theorem UI.push (t : UI g b x v w W) {y : Int} {v' : Value} (hown : W'.ownsRow (w.heap.size + 1) 2 1 v' (x.terms.length + 1) (x.terms.map (Value.int .i64) ++ [.int .i64 y])) (hgr : W.grownBy W' v.ownBlock) (hf : v'.ownBlock ≠ some b) :
    UI g b { x with terms := x.terms ++ [y] } v' w (W'.setCell ⟨b, 4, none⟩ v') := by
  have hl := fun k hk => (t.row.lt k hk).1
  have hg := t.hg
  have hb := t.hb
  have hs := t.keep.2.1
  have k2 : Keep g w W' := ⟨t.keep.1.grown hgr (by omega) (fun k hk => by have := hl k hk; omega), Nat.le_trans hs hgr.size, fun c hc hlt =>
    (hgr.block c (Nat.lt_of_lt_of_le hlt hs) (fun e => by have := hl c e.symm; omega)).trans (t.keep.2.2 c hc hlt)⟩
  refine ⟨k2.putU hg (Nat.le_of_lt hb) _ _, (t.r.grown hgr (fun e => by have := hl _ e; omega)).setFar _ (by omega), (t.s.grown hgr t.far).set 4 _ (by simp), ?_, hf, hb, hg⟩
  refine own_put ?_ hf
  simpa using hown
/-- The result's box is written. -/
theorem UI.fin (t : UI g b x v w W) (a0 a1 a2 a3 a4 a5 a6 a7 : Value) :
    ((((((((W.setCell ⟨w.heap.size, 0, none⟩ a0).setCell ⟨w.heap.size, 1, none⟩ a1).setCell ⟨w.heap.size, 2, none⟩ a2).setCell ⟨w.heap.size, 3, none⟩ a3).setCell ⟨w.heap.size, 4, none⟩ a4).setCell ⟨w.heap.size, 5, none⟩ a5).setCell ⟨w.heap.size, 6, none⟩ a6).setCell ⟨w.heap.size, 7, none⟩ a7).ownsRow (w.heap.size + 1) 2 1 v x.terms.length (x.terms.map (Value.int .i64)) ∧ Keep g w ((((((((W.setCell ⟨w.heap.size, 0, none⟩ a0).setCell ⟨w.heap.size, 1, none⟩ a1).setCell ⟨w.heap.size, 2, none⟩ a2).setCell ⟨w.heap.size, 3, none⟩ a3).setCell ⟨w.heap.size, 4, none⟩ a4).setCell ⟨w.heap.size, 5, none⟩ a5).setCell ⟨w.heap.size, 6, none⟩ a6).setCell ⟨w.heap.size, 7, none⟩ a7) := by
  have hf : v.ownBlock ≠ some w.heap.size := fun e => by have := (t.row.lt _ e).1; omega
  have hg := t.hg
  refine ⟨?_, ?_⟩
  · iterate 8 (refine own_put ?_ hf)
    exact t.row
  · iterate 8 (refine Keep.putU ?_ hg (Nat.le_refl _) _ _)
    exact t.keep
end
/-- A row of terms of one's own. -/
theorem own_wrT {W : World} {base : Nat} {A : Option Addr} {c n : Nat} {xs : List Int} (h : W.ownsRow base 2 1 (.slice A n c) n (xs.map (Value.int .i64))) : WrT W base A c xs := by
  obtain ⟨rfl, A2, c2, e, hw⟩ := Wr.of_own h
  injection e with e1 e2 e3
  subst e1
  refine ⟨hw, ?_⟩
  rcases h.2 with ⟨h1, h0⟩ | ⟨g, cap, cur, h1, _, _, hc, hm, _⟩
  · injection h1 with _ _ h1
    subst h1
    exact ⟨by omega, by unfold maxLen; omega⟩
  · injection h1 with _ _ h1
    subst h1
    exact ⟨hc, hm⟩
/-- A slice of notes on its way, while only block gk is written. -/
theorem OutNt.kept {w : World} {base : Nat} {rs : List NtR} {own : Nat → Nat} {v : Value} {W W' : World} {gk : Nat} (h : OutNt w base rs own v W) (k : Keep gk W W') (h1 : gk < base) (h2 : w.heap.size ≤ gk) : OutNt w base rs own v W' :=
  ⟨own_keptU h.row k h1, fun j r hr => ⟨⟨Wr.of_blocks (h.ts j r hr).1.1 k.2.1 fun t o i e hp hlt => k.2.2 t (fun e2 => by
      obtain ⟨tb, tq, e3, q1, _⟩ := (h.ts j r hr).1.1 hp
      rw [e] at e3
      injection e3 with e3
      injection e3 with e3
      omega) hlt, (h.ts j r hr).1.2⟩, fun t o i e hn => ⟨((h.ts j r hr).2 t o i e hn).1, Nat.lt_of_lt_of_le ((h.ts j r hr).2 t o i e hn).2 k.2.1⟩⟩, h.own0, h.bel.trans (k.1.mono h2), h.low, Nat.le_trans h.hi k.2.1⟩
/-- One more note that a reader gave. -/
theorem OutNt.pushK {w : World} {base : Nat} {rs : List NtR} {own : Nat → Nat} {v : Value} {W W2 W2a w3 : World} {gk : Nat} (h : OutNt w base rs own v W) {x : Nt} {T : Option Addr} {c : Nat} (hk : Keep gk W W2) (hk1 : gk < base) (hk2 : w.heap.size ≤ gk) (hT : WrT W2 W.heap.size T c x.terms) (hb2a : Below W2.heap.size W2 W2a)
    {g cap : Nat} (hown3 : w3.ownsRow base 31 8 (.slice (some ⟨g, 0, none⟩) (rs.length + 1) cap) (rs.length + 1) (flatR rs ++ ntC x T c)) (hg : W2a.grownBy w3 v.ownBlock) (hat : v.ownBlock = some g ∨ g = W2a.heap.size) :
    OutNt w base (rs ++ [⟨x, T, c⟩]) (fun t => if W2.heap.size ≤ t then 0 else if W.heap.size ≤ t then rs.length + 1 else own t) (.slice (some ⟨g, 0, none⟩) (rs.length + 1) cap) w3 := by
  have hV := fun k hk => h.row.lt k hk
  have h' := h.kept hk hk1 hk2
  have s1 := hk.2.1
  have s2 := hb2a.size
  have s3 := hg.size
  refine ⟨by rw [flatR_append, flatR_one, List.length_append]; exact hown3, fun j r hr => ?_, fun g' e => ?_, below_grown (ext_trans h'.bel hb2a) (own_below h'.row hb2a) h.low hg, h.low, by have := h.hi; omega⟩
  · rcases Nat.lt_or_ge j rs.length with hj | hj
    · rw [List.getElem?_append_left hj] at hr
      obtain ⟨_, t2⟩ := h.ts j r hr
      obtain ⟨t1, _⟩ := h'.ts j r hr
      refine ⟨(t1.below hb2a).grown hg fun t o i e hn e2 => ?_, fun t o i e hn => ?_⟩
      · have h1 := (t2 t o i e hn).1
        have h2 := h.own0 t e2.symm
        omega
      · obtain ⟨q1, q2⟩ := t2 t o i e hn
        refine ⟨?_, by omega⟩
        show (if _ then _ else _) = _
        rw [if_neg (by omega), if_neg (by omega)]
        exact q1
    · have hj2 : j = rs.length := by
        have := (List.getElem?_eq_some_iff.1 hr).1
        simp at this
        omega
      subst hj2
      rw [List.getElem?_append_right (Nat.le_refl _), Nat.sub_self] at hr
      simp at hr
      subst hr
      have hlo : ∀ t o i, T = some ⟨t, o, i⟩ → 0 < x.terms.length → W.heap.size ≤ t ∧ t < W2.heap.size := fun t o i e hn => by
        obtain ⟨tb, tq, e2, q1, q2, _⟩ := hT.1 hn
        rw [e] at e2
        injection e2 with e2
        injection e2 with e2
        subst e2
        exact ⟨q1, q2⟩
      refine ⟨(((hT.below hb2a).grown hg fun t o i e hn e2 => ?_).more h.hi), fun t o i e hn => ?_⟩
      · have := (hV t e2.symm).2
        have := (hlo t o i e hn).1
        omega
      · obtain ⟨q1, q2⟩ := hlo t o i e hn
        refine ⟨?_, by omega⟩
        show (if _ then _ else _) = _
        rw [if_neg (by omega), if_pos q1]
  · have eg : g = g' := by
      have : some g = some g' := e
      injection this
    subst eg
    show (if _ then _ else _) = _
    rcases hat with e2 | e2
    · have := (hV g e2).2
      rw [if_neg (by omega), if_neg (by omega)]
      exact h.own0 g e2
    · rw [if_pos (by omega)]
/-- What a reader of a note returns. -/
def RetUn (S : List Int → Bool → World → Prop) (g : Nat) (D : List Int) (ok : Bool) (w : World) (e : Ending) (w' : World) : Prop := ∃ (x : Nt) (v : Value) (D' : List Int) (ok' : Bool), e = .returned (.agg #[.string x.name, .int .i64 x.kind, .int .i64 x.num, .int .i64 x.den, v, .int .i64 x.sp, .int .i64 x.sd, .int .i64 x.sq]) ∧
  NotP D ok x D' ok' ∧ S D' ok' w' ∧ Keep g w w' ∧ w'.ownsRow (w.heap.size + 1) 2 1 v x.terms.length (x.terms.map (Value.int .i64))
/-- What is unpacked, and the code. -/
noncomputable def unX (s : ByteArray) : List Nt := (upS s).getD []
noncomputable def unC (s : ByteArray) : Int := if (upS s).isSome then 0 else 8
/-- What a reader of a whole text tells at its end. -/
theorem un_good {s : ByteArray} {xs : List Nt} (hu : ∀ ys, validNt ys = true → endB (bookB ys) = s → xs = ys) (hv : validNt xs = true) (he : endB (bookB xs) = s) : unX s = xs ∧ unC s = 0 := by
  unfold unX unC
  rw [upS_some hu hv he]
  exact ⟨rfl, rfl⟩
theorem un_bad {s : ByteArray} (hn : ∀ ys, validNt ys = true → endB (bookB ys) = s → False) : unX s = [] ∧ unC s = 8 := by
  unfold unX unC
  rw [upS_none hn]
  exact ⟨rfl, rfl⟩
end Go.Proofs.YtpnabggpdgjbmaaGreatDoor
namespace Go.Proofs.YtpnabggpdgjbmaaGreatDoor
open Go.RowKit Go.Sort
/-- Notes drawn so far: a slice of one's own, the source's block lies below. -/
def RetLd (w0 : World) (g B N : Nat) (w : World) (e : Ending) (w' : World) : Prop := ∃ (rs : List NtR) (own : Nat → Nat) (h c : Nat), e = .returned (.slice (some ⟨h, 0, none⟩) rs.length c) ∧ validNt (rs.map NtR.x) = true ∧ rs.length ≤ 6 ∧ (∀ r ∈ rs, r.x.name.size ≤ 10 ∧ r.x.terms.length ≤ 10) ∧
  OutNt w0 (w.heap.size + 1) rs own (.slice (some ⟨h, 0, none⟩) rs.length c) w' ∧ Src g B N w' ∧ Keep g w w'
theorem infoNtD : (Tryz.prog.info? 31).map (fun i => (i.zero, i.size, i.bytes)) = some (some (ntV ByteArray.empty 0 0 0 none 0 0 0 0 0), 8, 88) := by kernel_rfl
theorem nmsD_size {k : Nat} {s : ByteArray} (h : nmsD[k]? = some s) : s.size ≤ 10 := by
  have : ∀ s ∈ nmsD, s.size ≤ 10 := by decide
  exact this s (List.mem_of_getElem? h)
/-- A row of texts stays while only block g is written and an own row grows. -/
theorem rd_keepS {g B : Nat} {W W' : World} {A : Option Addr} {xs : List ByteArray} (h : Rd Value.string W B A xs) (hk : Keep g W W') (hB : B ≤ W.heap.size) (hA : ∀ b o, A = some ⟨b, o, none⟩ → b ≠ g) : Rd Value.string W' B A xs := fun hn => by
  obtain ⟨b, off, e, hb, hc⟩ := h hn
  exact ⟨b, off, e, hb, fun j x hx => (hk.cell (hA b off e) (by omega)).trans (hc j x hx)⟩
theorem rd_grownS {B : Nat} {W W' : World} {A : Option Addr} {xs : List ByteArray} {row : Option Nat} (h : Rd Value.string W B A xs) (hg : W.grownBy W' row) (hB : B ≤ W.heap.size) (hA : ∀ k, row = some k → B ≤ k) : Rd Value.string W' B A xs := fun hn => by
  obtain ⟨b, off, e, hb, hc⟩ := h hn
  refine ⟨b, off, e, hb, fun j x hx => ?_⟩
  rw [← hc j x hx]
  have hh := hg.block b (by omega) (fun e => by have := hA b e.symm; omega)
  unfold World.cell?
  rw [hh]
theorem Keep.grownK {g : Nat} {a b c : World} {row : Option Nat} (h : Keep g a b) (hg : b.grownBy c row) (hga : g < a.heap.size) (hr : ∀ k, row = some k → a.heap.size ≤ k) : Keep g a c := by
  have hs := h.2.1
  exact ⟨h.1.grown hg (by omega) (fun k hk => by have := hr k hk; omega), Nat.le_trans hs hg.size, fun k hk hl => (hg.block k (Nat.lt_of_lt_of_le hl hs) (fun e => by have := hr k e.symm; omega)).trans (h.2.2 k hk hl)⟩
set_option maxRecDepth 100000 in
set_option maxHeartbeats 4000000 in
theorem l27Draw_any (w0 : World) (g B N : Nat) (w : World) (h : Src g B N w) (hN : N ≤ 400000) (hw0 : Below w0.heap.size w0 w) (hg0 : w0.heap.size ≤ g) :
    Calls Tryz.prog 52 #[.pointer (some ⟨g, 0, none⟩)] w (RetLd w0 g B (N + 400) w) := by
  obtain ⟨ti, hi, hz0, hz1, hz2⟩ := info_parts infoNtD
  have HI := Lib.hid hi
  have HG := Lib.hid h.lt
  have hb0 := hw0.size
  have e1 := ext1 w (.cells #[.string ⟨#[97]⟩, .string ⟨#[98, 45, 50]⟩, .string ⟨#[103, 111, 108, 100, 101, 110]⟩, .string ⟨#[112, 105]⟩, .string ⟨#[114, 111, 111, 116]⟩, .string ⟨#[120]⟩] 9)
  have e2 := ext1 (w.alloc (.cells #[.string ⟨#[97]⟩, .string ⟨#[98, 45, 50]⟩, .string ⟨#[103, 111, 108, 100, 101, 110]⟩, .string ⟨#[112, 105]⟩, .string ⟨#[114, 111, 111, 116]⟩, .string ⟨#[120]⟩] 9)) (.cells #[] 31)
  have H0 : Hid (Src g B N ((w.alloc (.cells #[.string ⟨#[97]⟩, .string ⟨#[98, 45, 50]⟩, .string ⟨#[103, 111, 108, 100, 101, 110]⟩, .string ⟨#[112, 105]⟩, .string ⟨#[114, 111, 111, 116]⟩, .string ⟨#[120]⟩] 9)).alloc (.cells #[] 31))) := (h.next e1).next e2
  have K0 : Hid (Keep g w ((w.alloc (.cells #[.string ⟨#[97]⟩, .string ⟨#[98, 45, 50]⟩, .string ⟨#[103, 111, 108, 100, 101, 110]⟩, .string ⟨#[112, 105]⟩, .string ⟨#[114, 111, 111, 116]⟩, .string ⟨#[120]⟩] 9)).alloc (.cells #[] 31))) := Keep.of (ext_trans e1 e2) h.lt
  have R0 : Hid (Rd Value.string ((w.alloc (.cells #[.string ⟨#[97]⟩, .string ⟨#[98, 45, 50]⟩, .string ⟨#[103, 111, 108, 100, 101, 110]⟩, .string ⟨#[112, 105]⟩, .string ⟨#[114, 111, 111, 116]⟩, .string ⟨#[120]⟩] 9)).alloc (.cells #[] 31)) (w.heap.size + 1) (some ⟨w.heap.size, 0, none⟩) nmsD) := by
    have hr := (rd_litS w #[.string ⟨#[97]⟩, .string ⟨#[98, 45, 50]⟩, .string ⟨#[103, 111, 108, 100, 101, 110]⟩, .string ⟨#[112, 105]⟩, .string ⟨#[114, 111, 111, 116]⟩, .string ⟨#[120]⟩] 9 nmsD rfl).below e2
    rw [World.size_alloc] at hr
    exact hr
  have O0 : Hid (OutNt w0 (w.heap.size + 1) [] (fun _ => 0) (.slice (some ⟨w.heap.size + 1, 0, none⟩) 0 0) ((w.alloc (.cells #[.string ⟨#[97]⟩, .string ⟨#[98, 45, 50]⟩, .string ⟨#[103, 111, 108, 100, 101, 110]⟩, .string ⟨#[112, 105]⟩, .string ⟨#[114, 111, 111, 116]⟩, .string ⟨#[120]⟩] 9)).alloc (.cells #[] 31))) := by
    have ho := OutNt.start0 (w.alloc (.cells #[.string ⟨#[97]⟩, .string ⟨#[98, 45, 50]⟩, .string ⟨#[103, 111, 108, 100, 101, 110]⟩, .string ⟨#[112, 105]⟩, .string ⟨#[114, 111, 111, 116]⟩, .string ⟨#[120]⟩] 9))
    rw [World.size_alloc] at ho
    exact ⟨ho.row, ho.ts, ho.own0, ext_trans hw0 ((ext_trans e1 e2).mono (by omega)), by omega, by simp⟩
  clear h hw0 hi e1 e2
  go_enter Tryz.func52, Tryz.ntmps52
  go_wp2_with fail
  go_loopw [4, 5] (fun v t wr => ∃ (j : Nat) (rs : List NtR) (own : Nat → Nat) (g0 cp : Nat), t = .int .i64 j ∧ j ≤ 6 ∧ rs.length ≤ j ∧ v = .slice (some ⟨g0, 0, none⟩) rs.length cp ∧ Hid (LdI j (rs.map NtR.x)) ∧ Hid (∀ r ∈ rs, r.x.name.size ≤ 10 ∧ r.x.terms.length ≤ 10) ∧ Hid (Src g B (N + 62 * j) wr) ∧ Hid (Keep g w wr) ∧ Hid (Rd Value.string wr (w.heap.size + 1) (some ⟨w.heap.size, 0, none⟩) nmsD) ∧ Hid (OutNt w0 (w.heap.size + 1) rs own (.slice (some ⟨g0, 0, none⟩) rs.length cp) wr)) (fun _ t _ => 6 - (intOf t).toNat)
  case atStart => exact ⟨0, [], _, _, _, rfl, by omega, by simp, rfl, LdI.start, fun r hr => by simp at hr, H0.out, K0.out, R0.out, O0.out⟩
  case round =>
    obtain ⟨j, rs, own, g0, cp, rfl, hj, hrl, rfl, HL, HF, HS, HK, HR, HO⟩ := hrel
    clear H0 K0 R0 O0
    have hwr := HK.out.2.1
    have hgw := HG.out
    by_cases hjc : j < 6
    · obtain ⟨s, hs⟩ : ∃ s, nmsD[j]? = some s := ⟨_, List.getElem?_eq_getElem hjc⟩
      have HNS := Lib.hid hs
      clear hs
      go_wp2_with fail
      refine (srcOne_any g B _ 2 _ HS.out (by omega) (by omega)).mono ?_
      rintro e w1 ⟨b1, rfl, S1, K1⟩
      have HS1 := Lib.hid S1
      have HK1 := Lib.hid (HK.out.trans K1)
      have HR1 := Lib.hid (rd_keepS HR.out K1 (by have := HO.out.hi; omega) (fun b o e => by injection e with e; injection e with e; omega))
      have HO1 := Lib.hid (HO.out.kept K1 (by omega) (by omega))
      have hzz1 := K1.2.1
      clear S1 K1 HS HK HR HO
      cases b1
      · go_wp2
        go_roundw
        case rel => exact ⟨j + 1, rs, own, g0, cp, by congr 1, by omega, by omega, rfl, HL.out.skip, HF.out, HS1.out.more (by omega), HK1.out, HR1.out, HO1.out⟩
        case measure => simp [intOf]; omega
      · obtain ⟨_, off, ea, _, hc⟩ := HR1.out (by decide)
        injection ea with ea
        injection ea with ea1 ea2
        subst ea1 ea2
        have hcell := hc j s HNS.out
        rw [Nat.zero_add] at hcell
        clear hc
        go_wp2_with fail
        refine (l27New_ok g B _ s _ HS1.out (by omega)).mono ?_
        rintro e w2 ⟨x, v2, rfl, hxn, hxo, hxt, hrow, S2, K2⟩
        obtain ⟨T2, c2, rfl⟩ := own_slice hrow
        have HT2 := Lib.hid ((own_wrT hrow).more (B' := w1.heap.size) (Nat.le_succ _))
        have HO2 := Lib.hid (HO1.out.kept K2 (by omega) (by omega))
        have hown := HO2.out.row.alloc (.cells #[.string x.name, .int .i64 x.kind, .int .i64 x.num, .int .i64 x.den, .slice T2 x.terms.length c2, .int .i64 x.sp, .int .i64 x.sd, .int .i64 x.sq] 31)
        have hhi := HO2.out.hi
        have hh1 := HO1.out.hi
        have HX : Hid (x.name = s ∧ ntOk x = true) := ⟨hxn, hxo (nmsD_ok HNS.out)⟩
        have e2 := ext1 w2 (.cells #[.string x.name, .int .i64 x.kind, .int .i64 x.num, .int .i64 x.den, .slice T2 x.terms.length c2, .int .i64 x.sp, .int .i64 x.sd, .int .i64 x.sq] 31)
        have HK2 := Lib.hid K2
        have HS2 := Lib.hid (S2.next e2)
        have HKK2 := Lib.hid ((HK1.out.trans K2).trans (Keep.of e2 S2.lt))
        have HR2 := Lib.hid ((rd_keepS HR1.out K2 (by omega) (fun b o e => by injection e with e; injection e with e; omega)).below (e2.mono (by omega)))
        have hzz2 := K2.2.1
        clear hrow S2 K2 HK1 HR1 HS1 hcell hxn hxo e2
        go_wp2_with (at_builtin; go_must (refine wpList_append_lies _ rfl _ _ 24 rfl (w.heap.size + 1) 31 ti (ntV ByteArray.empty 0 0 0 none 0 0 0 0 0) 8 88 Tryz.underlying24 HI.out hz0 hz1 hz2 rfl (by decide) _ _ _ rfl hown ⟨w2.heap.size, 0, none⟩ 1 1 (ntC x T2 c2) rfl rfl (news_rowN _ _ _ rfl) ?c2 (by omega) ?c3 ?c4 ?c5 _ rfl ?_))
        case c2 => simp [ntC, Value.oneCell']
        case c3 => unfold maxLen; omega
        case c4 => omega
        case c5 => simp only [World.size_alloc]; omega
        intro g6 cap6 w6 hown3 hgrow hat hlt6
        have hrow6 : ∀ k, (Value.slice (some ⟨g0, 0, none⟩) rs.length cp).ownBlock = some k → w.heap.size + 1 ≤ k := fun k e => (HO2.out.row.lt k e).1
        have HP := Lib.hid (OutNt.pushK HO1.out HK2.out (by omega) (by omega) HT2.out (ext1 _ _) hown3 hgrow (by simpa only [World.size_alloc] using hat))
        have HS6 := Lib.hid (HS2.out.grown hgrow (fun k e => by have := hrow6 k e; omega))
        have HK6 := Lib.hid (HKK2.out.grownK hgrow hgw (fun k e => by have := hrow6 k e; omega))
        have HR6 := Lib.hid (rd_grownS HR2.out hgrow (by simp; omega) hrow6)
        have HL6 : Hid (LdI (j + 1) ((rs ++ [(⟨x, T2, c2⟩ : NtR)]).map NtR.x)) := by
          unfold Hid
          rw [List.map_append]
          exact HL.out.push (by rw [HNS.out, HX.out.1]) HX.out.2
        have HF6 : Hid (∀ r ∈ rs ++ [(⟨x, T2, c2⟩ : NtR)], r.x.name.size ≤ 10 ∧ r.x.terms.length ≤ 10) := fun r hr => by
          rcases List.mem_append.1 hr with hr | hr
          · exact HF.out r hr
          · simp only [List.mem_cons, List.not_mem_nil, or_false] at hr
            subst hr
            exact ⟨by rw [HX.out.1]; exact nmsD_size HNS.out, by show x.terms.length ≤ 10; omega⟩
        clear hown3 hgrow hat hlt6 hown hrow6 HL HF HO1 HO2 HK2 HT2 HS2 HKK2 HR2
        go_wp2
        go_roundw
        case rel => exact ⟨j + 1, rs ++ [(⟨x, T2, c2⟩ : NtR)], _, g6, cap6, by congr 1, by omega, by simp; omega, by simp, HL6, HF6, Lib.hid (HS6.out.more (by omega)), HK6, HR6, by unfold Hid; rw [List.length_append]; exact HP.out⟩
        case measure => simp [intOf]; omega
    · have hj6 : j = 6 := by omega
      have HV := Lib.hid HL.out.valid
      go_wp2
      go_ret
      exact ⟨rs, own, g0, cp, rfl, HV.out, by omega, HF.out, HO.out, HS.out.more (by omega), HK.out⟩
end Go.Proofs.YtpnabggpdgjbmaaGreatDoor
namespace Go.Proofs.YtpnabggpdgjbmaaGreatDoor
open Go.RowKit Go.Sort
theorem flatR_set : ∀ (rs : List NtR) (k : Nat) (r r' : NtR) (m : Nat) (u : Value), rs[k]? = some r → m < 8 → r'.cells = r.cells.set m u → flatR (rs.set k r') = (flatR rs).set (k * 8 + m) u
  | [], _, _, _, _, _, h, _, _ => by simp at h
  | q :: rs, 0, r, r', m, u, h, hm, hc => by
    simp at h
    subst h
    have h8 : q.cells.length = 8 := rfl
    show r'.cells ++ flatR rs = (q.cells ++ flatR rs).set (0 * 8 + m) u
    rw [List.set_append_left _ _ (by rw [h8]; omega), Nat.zero_mul, Nat.zero_add, hc]
  | q :: rs, k + 1, r, r', m, u, h, hm, hc => by
    have h8 : q.cells.length = 8 := rfl
    show q.cells ++ flatR (rs.set k r') = (q.cells ++ flatR rs).set ((k + 1) * 8 + m) u
    rw [List.set_append_right _ _ (by rw [h8]; omega), h8, show (k + 1) * 8 + m - 8 = k * 8 + m by omega, flatR_set rs k r r' m u (by simpa using h) hm hc]
theorem own_n {W : World} {base g n m cap : Nat} {e : TypeId} {size : Nat} {xs : List Value} (h : W.ownsRow base e size (.slice (some ⟨g, 0, none⟩) n cap) m xs) : n = m := by
  rcases h.2 with ⟨h1, _⟩ | ⟨_, _, _, h1, _⟩
  · cases h1
  · injection h1 with _ h2
section
variable {w : World} {base : Nat} {rs : List NtR} {own : Nat → Nat} {g n cap : Nat} {W : World}
theorem OutNt.cell (h : OutNt w base rs own (.slice (some ⟨g, 0, none⟩) n cap) W) {k m : Nat} {r r' : NtR} {u : Value} (hr : rs[k]? = some r) (hm : m < 8) (hc : r'.cells = r.cells.set m u)
    (hT : WrT W base r'.T r'.c r'.x.terms) (hO : OwnT own W.heap.size (k + 1) r'.T r'.x.terms.length) : OutNt w base (rs.set k r') own (.slice (some ⟨g, 0, none⟩) n cap) (W.setCell ⟨g, k * 8 + m, none⟩ u) := by
  have hn : n = rs.length := own_n h.row
  subst hn
  obtain ⟨s1, s2⟩ := h.row.stored (k * 8 + m) u
  have hg := (h.row.lt g rfl).1
  have hlow := h.low
  have h0 := h.own0 g rfl
  have far : ∀ {j : Nat} {q : NtR}, WrT W base q.T q.c q.x.terms → OwnT own W.heap.size (j + 1) q.T q.x.terms.length → WrT (W.setCell ⟨g, k * 8 + m, none⟩ u) base q.T q.c q.x.terms := fun {j q} t1 t2 =>
    t1.grown s2 fun t o i e hp e2 => by
      have := (t2 t o i e hp).1
      injection e2 with e2
      subst e2
      omega
  refine ⟨by rw [flatR_set rs k r r' m u hr hm hc, List.length_set]; exact s1, fun j q hq => ?_, h.own0, h.bel.setCell (by simp; omega) u, hlow, by simpa using h.hi⟩
  rw [List.getElem?_set] at hq
  split at hq
  · rename_i e
    subst e
    split at hq
    · injection hq with hq
      subst hq
      exact ⟨far hT hO, by simpa using hO⟩
    · cases hq
  · obtain ⟨t1, t2⟩ := h.ts j q hq
    exact ⟨far t1 t2, by simpa using t2⟩
/-- New blocks have another owner. -/
theorem OutNt.owner {v : Value} (h : OutNt w base rs own v W) (f : Nat → Nat) : OutNt w base rs (fun t => if W.heap.size ≤ t then f t else own t) v W :=
  ⟨h.row, fun j r hr => ⟨(h.ts j r hr).1, fun t o i e hp => by
      obtain ⟨q1, q2⟩ := (h.ts j r hr).2 t o i e hp
      refine ⟨?_, q2⟩
      show (if _ then _ else _) = _
      rw [if_neg (by omega)]
      exact q1⟩, fun t e => by
    have := (h.row.lt t e).2
    show (if _ then _ else _) = _
    rw [if_neg (by omega)]
    exact h.own0 t e, h.bel, h.low, h.hi⟩
/-- A note is set anew, its terms are new. -/
theorem OutNt.set8 (h : OutNt w base rs own (.slice (some ⟨g, 0, none⟩) n cap) W) {W2 : World} {gk : Nat} (hk : Keep gk W W2) (hk1 : gk < base) (hk2 : w.heap.size ≤ gk) {k : Nat} {r : NtR} (hr : rs[k]? = some r) {x : Nt} {T : Option Addr} {c : Nat} (hT : WrT W2 W.heap.size T c x.terms) :
    OutNt w base (rs.set k ⟨x, T, c⟩) (fun t => if W.heap.size ≤ t then k + 1 else own t) (.slice (some ⟨g, 0, none⟩) n cap)
      ((((((((W2.setCell ⟨g, k * 8, none⟩ (.string x.name)).setCell ⟨g, k * 8 + 1, none⟩ (.int .i64 x.kind)).setCell ⟨g, k * 8 + 2, none⟩ (.int .i64 x.num)).setCell ⟨g, k * 8 + 3, none⟩ (.int .i64 x.den)).setCell ⟨g, k * 8 + 4, none⟩ (.slice T x.terms.length c)).setCell ⟨g, k * 8 + 5, none⟩ (.int .i64 x.sp)).setCell ⟨g, k * 8 + 6, none⟩ (.int .i64 x.sd)).setCell ⟨g, k * 8 + 7, none⟩ (.int .i64 x.sq)) := by
  have hlt : k < rs.length := (List.getElem?_eq_some_iff.1 hr).1
  have h0 := (h.owner (fun _ => k + 1)).kept hk hk1 hk2
  have hb := h.hi
  have hsz := hk.2.1
  have hgb := (h.row.lt g rfl)
  have hOT : ∀ V : World, V.heap.size = W2.heap.size → OwnT (fun t => if W.heap.size ≤ t then k + 1 else own t) V.heap.size (k + 1) T x.terms.length := fun V hV t o i e hn => by
    obtain ⟨tb, tq, e2, q1, q2, _⟩ := hT.1 hn
    rw [e] at e2
    injection e2 with e2
    injection e2 with e2
    subst e2
    refine ⟨?_, by omega⟩
    show (if _ then _ else _) = _
    rw [if_pos q1]
  have hTT : WrT W2 base T c x.terms := hT.more hb
  have farT : ∀ (V : World) (j : Nat) (u : Value), WrT V W.heap.size T c x.terms → WrT (V.setCell ⟨g, j, none⟩ u) W.heap.size T c x.terms := fun V j u t =>
    ⟨Wr.of_blocks t.1 (by simp) fun t' o i e hp hl => Below.heap_setCell V ⟨g, j, none⟩ u t' (by
      obtain ⟨tb, tq, e2, q1, q2, _⟩ := t.1 hp
      rw [e] at e2
      injection e2 with e2
      injection e2 with e2
      simp
      omega), t.2⟩
  have st : ∀ {V : World} {qs : List NtR} {q q' : NtR} {m : Nat} {u : Value}, OutNt w base qs (fun t => if W.heap.size ≤ t then k + 1 else own t) (.slice (some ⟨g, 0, none⟩) n cap) V → qs[k]? = some q → m < 8 → q'.cells = q.cells.set m u → q'.T = q.T → q'.c = q.c → q'.x.terms = q.x.terms → OutNt w base (qs.set k q') (fun t => if W.heap.size ≤ t then k + 1 else own t) (.slice (some ⟨g, 0, none⟩) n cap) (V.setCell ⟨g, k * 8 + m, none⟩ u) := fun {V qs q q' m u} ho hq hm hc e1 e2 e3 =>
    ho.cell hq hm hc (by rw [e1, e2, e3]; exact (ho.ts k q hq).1) (by rw [e1, e3]; exact (ho.ts k q hq).2)
  obtain ⟨y, S, d⟩ := r
  have a0 := st (q' := ⟨{ y with name := x.name }, S, d⟩) (m := 0) (u := .string x.name) h0 hr (by omega) rfl rfl rfl rfl
  have g0 : (rs.set k ⟨{ y with name := x.name }, S, d⟩)[k]? = some ⟨{ y with name := x.name }, S, d⟩ := List.getElem?_set_self hlt
  have a1 := st (q' := ⟨{ y with name := x.name, kind := x.kind }, S, d⟩) (m := 1) (u := .int .i64 x.kind) a0 g0 (by omega) rfl rfl rfl rfl
  have g1 : ((rs.set k ⟨{ y with name := x.name }, S, d⟩).set k ⟨{ y with name := x.name, kind := x.kind }, S, d⟩)[k]? = some ⟨{ y with name := x.name, kind := x.kind }, S, d⟩ := List.getElem?_set_self (by simpa using hlt)
  rw [List.set_set] at a1 g1
  have a2 := st (q' := ⟨{ y with name := x.name, kind := x.kind, num := x.num }, S, d⟩) (m := 2) (u := .int .i64 x.num) a1 g1 (by omega) rfl rfl rfl rfl
  have g2 : ((rs.set k ⟨{ y with name := x.name, kind := x.kind }, S, d⟩).set k ⟨{ y with name := x.name, kind := x.kind, num := x.num }, S, d⟩)[k]? = some ⟨{ y with name := x.name, kind := x.kind, num := x.num }, S, d⟩ := List.getElem?_set_self (by simpa using hlt)
  rw [List.set_set] at a2 g2
  have a3 := st (q' := ⟨{ y with name := x.name, kind := x.kind, num := x.num, den := x.den }, S, d⟩) (m := 3) (u := .int .i64 x.den) a2 g2 (by omega) rfl rfl rfl rfl
  have g3 : ((rs.set k ⟨{ y with name := x.name, kind := x.kind, num := x.num }, S, d⟩).set k ⟨{ y with name := x.name, kind := x.kind, num := x.num, den := x.den }, S, d⟩)[k]? = some ⟨{ y with name := x.name, kind := x.kind, num := x.num, den := x.den }, S, d⟩ := List.getElem?_set_self (by simpa using hlt)
  rw [List.set_set] at a3 g3
  have a4 := a3.cell (r' := ⟨{ y with name := x.name, kind := x.kind, num := x.num, den := x.den, terms := x.terms }, T, c⟩) (m := 4) (u := .slice T x.terms.length c) g3 (by omega) rfl
    ((farT _ _ _ (farT _ _ _ (farT _ _ _ (farT _ _ _ hT)))).more hb) (hOT _ (by simp))
  have g4 : ((rs.set k ⟨{ y with name := x.name, kind := x.kind, num := x.num, den := x.den }, S, d⟩).set k ⟨{ y with name := x.name, kind := x.kind, num := x.num, den := x.den, terms := x.terms }, T, c⟩)[k]? = some ⟨{ y with name := x.name, kind := x.kind, num := x.num, den := x.den, terms := x.terms }, T, c⟩ := List.getElem?_set_self (by simpa using hlt)
  rw [List.set_set] at a4 g4
  have a5 := st (q' := ⟨{ y with name := x.name, kind := x.kind, num := x.num, den := x.den, terms := x.terms, sp := x.sp }, T, c⟩) (m := 5) (u := .int .i64 x.sp) a4 g4 (by omega) rfl rfl rfl rfl
  have g5 : ((rs.set k ⟨{ y with name := x.name, kind := x.kind, num := x.num, den := x.den, terms := x.terms }, T, c⟩).set k ⟨{ y with name := x.name, kind := x.kind, num := x.num, den := x.den, terms := x.terms, sp := x.sp }, T, c⟩)[k]? = some ⟨{ y with name := x.name, kind := x.kind, num := x.num, den := x.den, terms := x.terms, sp := x.sp }, T, c⟩ := List.getElem?_set_self (by simpa using hlt)
  rw [List.set_set] at a5 g5
  have a6 := st (q' := ⟨{ y with name := x.name, kind := x.kind, num := x.num, den := x.den, terms := x.terms, sp := x.sp, sd := x.sd }, T, c⟩) (m := 6) (u := .int .i64 x.sd) a5 g5 (by omega) rfl rfl rfl rfl
  have g6 : ((rs.set k ⟨{ y with name := x.name, kind := x.kind, num := x.num, den := x.den, terms := x.terms, sp := x.sp }, T, c⟩).set k ⟨{ y with name := x.name, kind := x.kind, num := x.num, den := x.den, terms := x.terms, sp := x.sp, sd := x.sd }, T, c⟩)[k]? = some ⟨{ y with name := x.name, kind := x.kind, num := x.num, den := x.den, terms := x.terms, sp := x.sp, sd := x.sd }, T, c⟩ := List.getElem?_set_self (by simpa using hlt)
  rw [List.set_set] at a6 g6
  have a7 := st (q' := ⟨x, T, c⟩) (m := 7) (u := .int .i64 x.sq) a6 g6 (by omega) rfl rfl rfl rfl
  rw [List.set_set] at a7
  exact a7
end
end Go.Proofs.YtpnabggpdgjbmaaGreatDoor
