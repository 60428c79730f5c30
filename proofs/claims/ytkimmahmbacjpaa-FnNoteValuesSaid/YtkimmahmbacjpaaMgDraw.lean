/- XDrawRuW XDrawRvW XDrawSdW XDrawSbW XDrawTxW XDrawNtW in one text. No condition but those that each theorem names. -/
import Derived.Test.YtkimmahmbacjpaaMgSide
import Derived.Test.YtkimmahmbacjpaaExpW
import Derived.Test.YtkimmahmbacjpaaBoxW
import Derived.Test.YtkimmahmbacjpaaKeepA
import Derived.Deep.AppendLies
import Derived.Deep.RegionHeld3
import Derived.Test.YtkimmahmbacjpaaRootW
import Derived.Deep.DeepCutAuto
/- What the statement on rules draws: lengths of years, lists of divisors. No condition but those that each theorem names. -/
namespace Go.Proofs.Ytkimmahmbacjpaa
open Go.RowKit Go.Sort

theorem Src.grown {g B N : Nat} {W W' : World} {row : Option Nat} (h : Src g B N W) (hg : W.grownBy W' row) (hr : ∀ k, row = some k → g < k) : Src g B N W' := by
  obtain ⟨A, n, c, bs, k, sd, h0, h1, h2, h3, h4, h5, h6, h7, h8, h9, h10, h11⟩ := h
  have hb : W'.heap[g]? = W.heap[g]? := hg.block g h10 (fun e => by have := hr g e.symm; omega)
  exact ⟨A, n, c, bs, k, sd, (World.cell?_of_block (a := ⟨g, 0, none⟩) hb).trans h0, (World.cell?_of_block (a := ⟨g, 1, none⟩) hb).trans h1, (World.cell?_of_block (a := ⟨g, 2, none⟩) hb).trans h2, h3,
    h4.below ((Below.refl B W).grown hg (by omega) (fun k hk => by have := hr k hk; omega)), h5, h6, h7, h8, fun j => by have := h9 j; simpa only [World.frozen?, hb] using this, Nat.lt_of_lt_of_le h10 hg.size, h11⟩
theorem own_kept {g : Nat} {W W' : World} {base : Nat} {e : TypeId} {size n : Nat} {v : Value} {xs : List Value} (h : W.ownsRow base e size v n xs) (k : Keep g W W') (hg : g < base) : W'.ownsRow base e size v n xs := by
  obtain ⟨h1, h2⟩ := h
  refine ⟨h1, ?_⟩
  rcases h2 with h2 | ⟨b, cap, cur, hv, hb, hh, r⟩
  · exact .inl h2
  · have hlt : b < W.heap.size := (Array.getElem?_eq_some_iff.1 hh).1
    exact .inr ⟨b, cap, cur, hv, hb, (k.2.2 b (by omega) hlt).trans hh, r⟩
theorem news_row1 (w : World) {C : Array Value} (T : TypeId) (vs : List Value) (h : C.toList = vs) : ∀ j u, vs[j]? = some u → (w.alloc (.cells C T)).cell? ((⟨w.heap.size, 0, none⟩ : Addr).add j) = some u := fun j u hu => by
  rw [Addr.add_lit, Nat.zero_add, cell_one, ← Array.getElem?_toList, h]
  exact hu
/-- A list of numbers on its way, and the source. -/
structure SL (g B N : Nat) (w : World) (out : List Int) (v : Value) (W : World) : Prop where
  src : Src g B N W
  keep : Keep g w W
  row : W.ownsRow w.heap.size 2 1 v out.length (out.map (Value.int .i64))
  hg : g < w.heap.size
section
variable {g B N M : Nat} {w W W' : World} {out : List Int} {v : Value}
theorem SL.kept (t : SL g B N w out v W) (hs : Src g B M W') (k : Keep g W W') : SL g B M w out v W' := ⟨hs, t.keep.trans k, own_kept t.row k t.hg, t.hg⟩
theorem SL.next (t : SL g B N w out v W) (hb : Below W.heap.size W W') : SL g B N w out v W' := t.kept (t.src.next hb) (Keep.of hb t.src.lt)
theorem SL.more (t : SL g B N w out v W) (h : N ≤ M) : SL g B M w out v W := ⟨t.src.more h, t.keep, t.row, t.hg⟩
theorem SL.push (t : SL g B N w out v W) {x : Int} {v' : Value} (hown : W'.ownsRow w.heap.size 2 1 v' (out.length + 1) (out.map (Value.int .i64) ++ [.int .i64 x])) (hgr : W.grownBy W' v.ownBlock) : SL g B N w (out ++ [x]) v' W' := by
  have hl := fun k hk => (t.row.lt k hk).1
  refine ⟨t.src.grown hgr (fun k hk => by have := hl k hk; have := t.hg; omega), ⟨?_, Nat.le_trans t.keep.2.1 hgr.size, fun b hb hlt => ?_⟩, by simpa using hown, t.hg⟩
  · exact t.keep.1.grown hgr (by have := t.hg; have := t.keep.2.1; omega) (fun k hk => by have := hl k hk; have := t.hg; omega)
  · exact (hgr.block b (Nat.lt_of_lt_of_le hlt t.keep.2.1) (fun e => by have := hl b e.symm; omega)).trans (t.keep.2.2 b hb hlt)
end
/-- What a draw of a list of numbers returns. -/
def RetLs (g B N : Nat) (w : World) (e : Ending) (w' : World) : Prop := ∃ (A : Option Addr) (xs : List Int) (c : Nat), e = .returned (.slice A xs.length c) ∧ xs.length ≤ 9 ∧ Rd (Value.int .i64) w' w'.heap.size A xs ∧ (∀ b o i, A = some ⟨b, o, i⟩ → g < b) ∧ Src g B N w' ∧ Keep g w w'
theorem SL.ret {g B N : Nat} {w W : World} {out : List Int} {v : Value} (t : SL g B N w out v W) {M : Nat} (hM : N ≤ M) (hl : out.length ≤ 9) : RetLs g B M w (.returned v) W := by
  obtain ⟨_, A, c, rfl, hw⟩ := Wr.of_own t.row
  refine ⟨A, out, c, rfl, hl, hw.rd, fun b o i e => ?_, t.src.more hM, t.keep⟩
  have := (t.row.lt b (by rw [e]; rfl)).1
  have := t.hg
  omega
end Go.Proofs.Ytkimmahmbacjpaa

/- What the statement on rules draws: drifts. No condition but those that each theorem names. -/
namespace Go.Proofs.Ytkimmahmbacjpaa
open Go.RowKit Go.Sort

theorem BoxV.keepK {g s : Nat} {vs : List Value} {W W' : World} (h : BoxV g vs W) (k : Keep s W W') (hg : g ≠ s) : BoxV g vs W' :=
  ⟨fun j v hv => (k.cell hg h.lt).trans (h.c j v hv), fun j => (k.frozen hg h.lt).trans (h.f j), Nat.lt_of_lt_of_le h.lt k.2.1⟩
/-- The state of a draw with two results: the source behind both. -/
structure SD (N : Nat) (w W : World) : Prop where
  src : Src (w.heap.size + 2) (w.heap.size + 2) N W
  r : BoxV w.heap.size [.int .i64 0, .int .i64 0, .int .i64 0] W
  f : BoxV (w.heap.size + 1) [.int .i64 0, .int .i64 0] W
  bel : Below w.heap.size w W
section
variable {N M : Nat} {w W W' : World}
theorem SD.keep (t : SD N w W) (hs : Src (w.heap.size + 2) (w.heap.size + 2) M W') (k : Keep (w.heap.size + 2) W W') : SD M w W' :=
  ⟨hs, t.r.keepK k (by omega), t.f.keepK k (by omega), t.bel.trans (k.1.mono (by omega))⟩
theorem SD.next (t : SD N w W) (hb : Below W.heap.size W W') : SD N w W' := t.keep (t.src.next hb) (Keep.of hb t.src.lt)
theorem SD.start {T U : TypeId} (hs : Src (((w.alloc (.cells #[.int .i64 0, .int .i64 0, .int .i64 0] T)).alloc (.cells #[.int .i64 0, .int .i64 0] U)).heap.size) (((w.alloc (.cells #[.int .i64 0, .int .i64 0, .int .i64 0] T)).alloc (.cells #[.int .i64 0, .int .i64 0] U)).heap.size) N W)
    (hb : Below ((w.alloc (.cells #[.int .i64 0, .int .i64 0, .int .i64 0] T)).alloc (.cells #[.int .i64 0, .int .i64 0] U)).heap.size ((w.alloc (.cells #[.int .i64 0, .int .i64 0, .int .i64 0] T)).alloc (.cells #[.int .i64 0, .int .i64 0] U)) W) : SD N w W :=
  ⟨by simpa using hs, ((BoxV.new w #[.int .i64 0, .int .i64 0, .int .i64 0] T).alloc _).next hb, by
    have h := (BoxV.new (w.alloc (.cells #[.int .i64 0, .int .i64 0, .int .i64 0] T)) #[.int .i64 0, .int .i64 0] U).next hb
    simpa using h, ext_trans (ext_alloc (ext1 _ _) _) hb⟩
end
/-- A rule's and a fraction's cells, held while others are written. -/
@[reducible] def S5 (h1 h2 : Nat) (l c s a b : Int) (W : World) : Prop := W.cell? ⟨h1, 0, none⟩ = some (.int .i64 l) ∧ W.cell? ⟨h1, 1, none⟩ = some (.int .i64 c) ∧ W.cell? ⟨h1, 2, none⟩ = some (.int .i64 s) ∧ W.cell? ⟨h2, 0, none⟩ = some (.int .i64 a) ∧ W.cell? ⟨h2, 1, none⟩ = some (.int .i64 b)
theorem S5.set {h1 h2 i j : Nat} {u : Value} {l c s a b : Int} {W : World} (t : S5 h1 h2 l c s a b W) (hi : h1 ≠ i) (hj : h2 ≠ i) : S5 h1 h2 l c s a b (W.setCell ⟨i, j, none⟩ u) := by
  have o : ∀ k m, k ≠ i → (W.setCell ⟨i, j, none⟩ u).cell? ⟨k, m, none⟩ = W.cell? ⟨k, m, none⟩ := fun k m hk => World.cell?_setCell_other _ _ _ _ (by intro e; injection e; omega)
  exact ⟨(o _ 0 hi).trans t.1, (o _ 1 hi).trans t.2.1, (o _ 2 hi).trans t.2.2.1, (o _ 0 hj).trans t.2.2.2.1, (o _ 1 hj).trans t.2.2.2.2⟩
theorem five_f {w : World} {b f : Nat} {x y : Value} (hb : b ≠ f) (h0 : w.cell? ⟨f, 0, none⟩ = some x) (h1 : w.cell? ⟨f, 1, none⟩ = some y) :
    (∀ p q r v, ((((w.setCell ⟨b, 0, none⟩ p).setCell ⟨b, 1, none⟩ q).setCell ⟨b, 2, none⟩ r).setCell ⟨f, 0, none⟩ v).cell? ⟨f, 0, none⟩ = some v) ∧
    (∀ p q r u v, (((((w.setCell ⟨b, 0, none⟩ p).setCell ⟨b, 1, none⟩ q).setCell ⟨b, 2, none⟩ r).setCell ⟨f, 0, none⟩ u).setCell ⟨f, 1, none⟩ v).cell? ⟨f, 1, none⟩ = some v) := by
  have o : ∀ (W : World) (j m : Nat) (u : Value), (W.setCell ⟨b, j, none⟩ u).cell? ⟨f, m, none⟩ = W.cell? ⟨f, m, none⟩ := fun W j m u => World.cell?_setCell_other _ _ _ _ (by intro e; injection e; omega)
  refine ⟨fun p q r v => World.cell?_setCell_same (v := v) _ _ ((o _ _ _ _).trans ((o _ _ _ _).trans ((o _ _ _ _).trans h0))), fun p q r u v => World.cell?_setCell_same (v := v) (u := y) _ _ ?_⟩
  refine (World.cell?_setCell_other _ ⟨f, 0, none⟩ ⟨f, 1, none⟩ _ (by simp)).trans ((o _ _ _ _).trans ((o _ _ _ _).trans ((o _ _ _ _).trans ?_)))
  exact h1
@[reducible] def S3 (h1 : Nat) (l c s : Int) (W : World) : Prop := W.cell? ⟨h1, 0, none⟩ = some (.int .i64 l) ∧ W.cell? ⟨h1, 1, none⟩ = some (.int .i64 c) ∧ W.cell? ⟨h1, 2, none⟩ = some (.int .i64 s)
theorem S3.set {h1 i j : Nat} {u : Value} {l c s : Int} {W : World} (t : S3 h1 l c s W) (hi : h1 ≠ i) : S3 h1 l c s (W.setCell ⟨i, j, none⟩ u) := by
  have o : ∀ m, (W.setCell ⟨i, j, none⟩ u).cell? ⟨h1, m, none⟩ = W.cell? ⟨h1, m, none⟩ := fun m => World.cell?_setCell_other _ _ _ _ (by intro e; injection e; omega)
  exact ⟨(o 0).trans t.1, (o 1).trans t.2.1, (o 2).trans t.2.2⟩
/-- What the draw returns. -/
def RetDr (w : World) (e : Ending) (w' : World) : Prop := ∃ l c s a b y : Int, e = .returned (.tuple #[ruleV l c s, fracV a b, .int .i64 y]) ∧ Below w.heap.size w w'
def RetYr (w : World) (e : Ending) (w' : World) : Prop := ∃ l c s a b : Int, e = .returned (.tuple #[ruleV l c s, fracV a b]) ∧ Below w.heap.size w w'
end Go.Proofs.Ytkimmahmbacjpaa

/- What the statements on notes draw: surds. No condition but those that each theorem names. -/
namespace Go.Proofs.Ytkimmahmbacjpaa
open Go.RowKit Go.Sort

set_option maxHeartbeats 1000000 in
theorem l07DrawD_any (g B N : Nat) (w : World) (h : Src g B N w) (hN : N ≤ 800000) :
    Calls Try.prog 118 #[.pointer (some ⟨g, 0, none⟩)] w (RetN g B (N + 6) 2 702 w) := by
  have HS := Lib.hid h
  clear h
  go_enter Try.func118, Try.ntmps118
  go_wp2_with fail
  refine (srcPick_any g B N 98 _ HS.out (by omega) (by omega)).mono ?_
  rintro e w1 ⟨x, x1, x2, rfl, S1, K1⟩
  have S := Lib.hid S1
  have K := Lib.hid K1
  clear S1 K1 HS
  go_wp2_with fail
  refine (srcOne_any g B _ 3 _ S.out (by omega) (by omega)).mono ?_
  rintro e w2 ⟨b, rfl, S1, K1⟩
  have S := Lib.hid S1
  have K := Lib.hid (K.out.trans K1)
  clear S1 K1
  cases b
  · obtain ⟨q, hq⟩ : ∃ q, sqB (2 + x) = q := ⟨_, rfl⟩
    go_wp2_with fail
    refine (l07Square_any _ _ (by omega) (by omega)).mono ?_
    rw [hq]
    rintro e w' ⟨rfl, rfl⟩
    clear hq
    cases q
    · go_wp2
      go_ret
      exact ⟨_, by omega, by omega, rfl, S.out.more (by omega), K.out⟩
    · go_wp2
      go_ret
      exact ⟨_, by omega, by omega, rfl, S.out.more (by omega), K.out⟩
  · go_wp2_with fail
    refine (srcPick_any g B _ 700 _ S.out (by omega) (by omega)).mono ?_
    rintro e w3 ⟨z, z1, z2, rfl, S1, K1⟩
    have S := Lib.hid S1
    have K := Lib.hid (K.out.trans K1)
    clear S1 K1
    obtain ⟨q, hq⟩ : ∃ q, sqB (2 + z) = q := ⟨_, rfl⟩
    go_wp2_with fail
    refine (l07Square_any _ _ (by omega) (by omega)).mono ?_
    rw [hq]
    rintro e w' ⟨rfl, rfl⟩
    clear hq
    cases q
    · go_wp2
      go_ret
      exact ⟨_, by omega, by omega, rfl, S.out.more (by omega), K.out⟩
    · go_wp2
      go_ret
      exact ⟨_, by omega, by omega, rfl, S.out.more (by omega), K.out⟩

/-- What a draw of a surd returns. -/
def RetSd (g B N : Nat) (w : World) (e : Ending) (w' : World) : Prop := ∃ p d q : Int, e = .returned (.agg #[.int .i64 p, .int .i64 d, .int .i64 q]) ∧ Src g B N w' ∧ Keep g w w'
set_option maxRecDepth 100000 in
set_option maxHeartbeats 2000000 in
theorem l07Draw_any (g B N : Nat) (w : World) (h : Src g B N w) (hN : N ≤ 700000) :
    Calls Try.prog 95 #[.pointer (some ⟨g, 0, none⟩)] w (RetSd g B (N + 40) w) := by
  have HG := Lib.hid h.lt
  have S := Lib.hid (h.next (ext1 w (.cells #[.int .i64 0, .int .i64 0, .int .i64 0] 34)))
  have K := Lib.hid (Keep.of (ext1 w (.cells #[.int .i64 0, .int .i64 0, .int .i64 0] 34)) h.lt)
  have R := Lib.hid (BoxV.new w #[.int .i64 0, .int .i64 0, .int .i64 0] 34)
  clear h
  go_enter Try.func95, Try.ntmps95
  go_wp2_with fail
  generalize w.alloc (.cells #[.int .i64 0, .int .i64 0, .int .i64 0] 34) = W0 at *
  refine (l07DrawD_any g B N _ S.out (by omega)).mono ?_
  rintro e w1 ⟨d, d1, d2, rfl, S1, K1⟩
  have S := Lib.hid S1
  have R := Lib.hid (BoxV.keepK R.out K1 (by have := HG.out; omega))
  have K := Lib.hid (K.out.trans K1)
  clear S1 K1
  go_wp2_with fail
  refine (srcPick_any g B _ 41 _ S.out (by omega) (by omega)).mono ?_
  rintro e w2 ⟨x, x1, x2, rfl, S1, K1⟩
  have S := Lib.hid S1
  have R := Lib.hid (BoxV.keepK R.out K1 (by have := HG.out; omega))
  have K := Lib.hid (K.out.trans K1)
  clear S1 K1
  obtain ⟨p, hp0⟩ : ∃ p, x - 20 = p := ⟨_, rfl⟩
  obtain ⟨m, hm⟩ : ∃ m, p * p = m := ⟨_, rfl⟩
  have hp : -400 ≤ m ∧ m ≤ 400 := by
    have := mul_bd (x := p) (y := p) (M := 20) (N := 20) (by omega) (by omega) (by omega) (by omega) (by omega) (by omega)
    rw [← hm]; omega
  obtain ⟨hp1, hp2⟩ := hp
  have p1 : -20 ≤ p := by omega
  have p2 : p ≤ 20 := by omega
  go_wp2_with fail
  refine (l02Size_any (d - m) _ (by omega) (by omega)).mono ?_
  rintro e w' ⟨rfl, rfl⟩
  obtain ⟨v, hv⟩ : ∃ v : Int, ((d - m).natAbs : Int) = v := ⟨_, rfl⟩
  have v1 : 0 ≤ v := by omega
  have v2 : v ≤ 2000 := by omega
  rw [hv]
  clear hv hm hp0 x1 x2
  go_wp2_with fail
  refine (srcPick_any g B _ 8 _ S.out (by omega) (by omega)).mono ?_
  rintro e w3 ⟨k, k1, k2, rfl, S1, K1⟩
  have S := Lib.hid S1
  have R := Lib.hid (BoxV.keepK R.out K1 (by have := HG.out; omega))
  have K := Lib.hid (K.out.trans K1)
  clear S1 K1
  obtain ⟨k, rfl⟩ : ∃ j : Nat, k = (j : Int) := ⟨k.toNat, by omega⟩
  have hk7 : k ≤ 7 := by omega
  clear k1 k2
  go_wp2_with fail
  go_loopw [7, 6] (fun t u wr => ∃ (k : Nat) (q : Int), t = .int .i64 k ∧ k ≤ 7 ∧ u = .int .i64 q ∧ 1 ≤ q ∧ q ≤ 40 ∧ Hid (Src g B (N + 10 + 2 * (7 - k)) wr) ∧ Hid (Keep g w wr) ∧ Hid (BoxV w.heap.size [.int .i64 0, .int .i64 0, .int .i64 0] wr)) (fun t _ _ => (intOf t).toNat)
  case atStart => exact ⟨k, 1, rfl, hk7, rfl, by omega, by omega, S.out.more (by omega), K, R⟩
  case round =>
    obtain ⟨k, q, rfl, hk, rfl, q1, q2, S, K, R⟩ := hrel
    by_cases h0 : 0 < k
    · go_wp2_with fail
      refine (srcPick_any g B _ 40 _ S.out (by omega) (by omega)).mono ?_
      rintro e w4 ⟨y, y1, y2, rfl, S1, K1⟩
      have S := Lib.hid S1
      have R := Lib.hid (BoxV.keepK R.out K1 (by have := HG.out; omega))
      have K := Lib.hid (K.out.trans K1)
      clear S1 K1
      have y0 : (1 + y == 0) = false := by simp; omega
      go_wp2_with fail
      all_goals go_roundw
      case rel => exact ⟨k - 1, _, val_int (by omega), by omega, rfl, by omega, by omega, S.out.more (by omega), K, R⟩
      case measure => simp [intOf]; omega
      case rel => exact ⟨k - 1, _, val_int (by omega), by omega, rfl, by omega, by omega, S.out.more (by omega), K, R⟩
      case measure => simp [intOf]; omega
    · go_wp2_with fail
      refine (srcOne_any g B _ 4 _ S.out (by omega) (by omega)).mono ?_
      rintro e w4 ⟨b, rfl, S1, K1⟩
      have S := Lib.hid S1
      have R := Lib.hid (BoxV.keepK R.out K1 (by have := HG.out; omega))
      have K := Lib.hid (K.out.trans K1)
      clear S1 K1
      have r0 := R.out.at 0 _ rfl
      have r1 := R.out.at 1 _ rfl
      have r2 := R.out.at 2 _ rfl
      have f0 := R.out.f 0
      have f1 := R.out.f 1
      have f2 := R.out.f 2
      obtain ⟨s0, s1, s2⟩ := set_three r0 r1 r2
      have HE : Hid (∀ a b c, Src g B (N + 40) (((w4.setCell ⟨w.heap.size, 0, none⟩ a).setCell ⟨w.heap.size, 1, none⟩ b).setCell ⟨w.heap.size, 2, none⟩ c) ∧ Keep g w (((w4.setCell ⟨w.heap.size, 0, none⟩ a).setCell ⟨w.heap.size, 1, none⟩ b).setCell ⟨w.heap.size, 2, none⟩ c)) := fun a b c =>
        ⟨(((S.out.more (by omega)).setOther HG.out _ _).setOther HG.out _ _).setOther HG.out _ _, ((K.out.setOther HG.out (Nat.le_refl _) _ _).setOther HG.out (Nat.le_refl _) _ _).setOther HG.out (Nat.le_refl _) _ _⟩
      cases b
      · go_wp2
        refine bodyPost_ret ?_ rfl ⟨p, d, q, rfl, (HE.out _ _ _).1, (HE.out _ _ _).2⟩
        simp [results, Try.results95, go_sem, s0, s1, s2]
      · go_wp2
        refine bodyPost_ret ?_ rfl ⟨p, d, -q, rfl, (HE.out _ _ _).1, (HE.out _ _ _).2⟩
        simp [results, Try.results95, go_sem, s0, s1, s2]
end Go.Proofs.Ytkimmahmbacjpaa

/- What the statements on notes draw: bent surds. No condition but those that each theorem names. -/
namespace Go.Proofs.Ytkimmahmbacjpaa
open Go.RowKit Go.Sort

/-- The state of the draw: the result's box, the surd's box, the source. -/
structure SB (g B N b : Nat) (p d q : Int) (w W : World) : Prop where
  src : Src g B N W
  keep : Keep g w W
  r : BoxV w.heap.size [.int .i64 0, .int .i64 0, .int .i64 0] W
  s : BoxV b [.int .i64 p, .int .i64 d, .int .i64 q] W
  hb : w.heap.size < b
  hg : g < w.heap.size
section
variable {g B N M b : Nat} {p d q : Int} {w W W' : World}
theorem SB.kept (t : SB g B N b p d q w W) (hs : Src g B M W') (k : Keep g W W') : SB g B M b p d q w W' :=
  ⟨hs, t.keep.trans k, t.r.keepK k (by have := t.hg; omega), t.s.keepK k (by have := t.hg; have := t.hb; omega), t.hb, t.hg⟩
theorem SB.next (t : SB g B N b p d q w W) (hb : Below W.heap.size W W') : SB g B N b p d q w W' := t.kept (t.src.next hb) (Keep.of hb t.src.lt)
theorem SB.set0 (t : SB g B N b p d q w W) (x : Int) : SB g B N b x d q w (W.setCell ⟨b, 0, none⟩ (.int .i64 x)) :=
  ⟨t.src.setOther (Nat.lt_trans t.hg t.hb) _ _, t.keep.setOther t.hg (Nat.le_of_lt t.hb) _ _, t.r.setFar _ (by have := t.hb; omega), t.s.set 0 _ (by simp), t.hb, t.hg⟩
theorem SB.set1 (t : SB g B N b p d q w W) (x : Int) : SB g B N b p x q w (W.setCell ⟨b, 1, none⟩ (.int .i64 x)) :=
  ⟨t.src.setOther (Nat.lt_trans t.hg t.hb) _ _, t.keep.setOther t.hg (Nat.le_of_lt t.hb) _ _, t.r.setFar _ (by have := t.hb; omega), t.s.set 1 _ (by simp), t.hb, t.hg⟩
theorem SB.set2 (t : SB g B N b p d q w W) (x : Int) : SB g B N b p d x w (W.setCell ⟨b, 2, none⟩ (.int .i64 x)) :=
  ⟨t.src.setOther (Nat.lt_trans t.hg t.hb) _ _, t.keep.setOther t.hg (Nat.le_of_lt t.hb) _ _, t.r.setFar _ (by have := t.hb; omega), t.s.set 2 _ (by simp), t.hb, t.hg⟩
theorem SB.fin (t : SB g B N b p d q w W) (hM : N ≤ M) (x y z : Value) : Src g B M (((W.setCell ⟨w.heap.size, 0, none⟩ x).setCell ⟨w.heap.size, 1, none⟩ y).setCell ⟨w.heap.size, 2, none⟩ z) ∧ Keep g w (((W.setCell ⟨w.heap.size, 0, none⟩ x).setCell ⟨w.heap.size, 1, none⟩ y).setCell ⟨w.heap.size, 2, none⟩ z) :=
  ⟨(((t.src.more hM).setOther t.hg _ _).setOther t.hg _ _).setOther t.hg _ _, ((t.keep.setOther t.hg (Nat.le_refl _) _ _).setOther t.hg (Nat.le_refl _) _ _).setOther t.hg (Nat.le_refl _) _ _⟩
end
set_option maxRecDepth 100000 in
set_option maxHeartbeats 4000000 in
theorem l07Bent_any (g B N : Nat) (w : World) (h : Src g B N w) (hN : N ≤ 700000) :
    Calls Try.prog 64 #[.pointer (some ⟨g, 0, none⟩)] w (RetSd g B (N + 60) w) := by
  have HG := Lib.hid h.lt
  have S := Lib.hid (h.next (ext1 w (.cells #[.int .i64 0, .int .i64 0, .int .i64 0] 34)))
  have K := Lib.hid (Keep.of (ext1 w (.cells #[.int .i64 0, .int .i64 0, .int .i64 0] 34)) h.lt)
  have R := Lib.hid (BoxV.new w #[.int .i64 0, .int .i64 0, .int .i64 0] 34)
  clear h
  go_enter Try.func64, Try.ntmps64
  go_wp2_with fail
  generalize w.alloc (.cells #[.int .i64 0, .int .i64 0, .int .i64 0] 34) = W0 at *
  refine (l07Draw_any g B N _ S.out (by omega)).mono ?_
  rintro e w1 ⟨p, d, q, rfl, S1, K1⟩
  have S := Lib.hid S1
  have R := Lib.hid (BoxV.keepK R.out K1 (by have := HG.out; omega))
  have K := Lib.hid (K.out.trans K1)
  clear S1 K1
  have T : Hid (SB g B (N + 40) w1.heap.size p d q w (w1.alloc (.cells #[.int .i64 p, .int .i64 d, .int .i64 q] 34))) :=
    ⟨S.out.next (ext1 _ _), K.out.trans (Keep.of (ext1 _ _) S.out.lt), R.out.next (ext1 _ _), BoxV.new _ _ _, R.out.lt, HG.out⟩
  clear S K R
  go_wp2_with fail
  generalize w1.alloc (.cells #[.int .i64 p, .int .i64 d, .int .i64 q] 34) = W1 at *
  refine (srcPick_any g B _ 20 _ T.out.src (by omega) (by omega)).mono ?_
  rintro e w2 ⟨r, r1, r2, rfl, S2, K2⟩
  have T := Lib.hid (T.out.kept S2 K2)
  generalize w1.heap.size = b at *
  clear S2 K2
  by_cases e0 : r = 0
  · skip
    go_wp2_with fail
    refine (srcAmong_any g B _ _ _ [-1000001, -1000000, 1000000, 1000001, -9223372036854775808] _ (T.out.src.next (ext1 _ _)) (by omega) (rd_lit _ _ _ _ rfl) (fun b o e => by injection e with e; injection e; have := T.out.src.lt; omega) (by simp) (by simp)).mono ?_
    rintro e w4 ⟨x, hx, rfl, S4, K4⟩
    have T := Lib.hid ((T.out.next (ext1 w2 (.cells #[.int .i64 (-1000001), .int .i64 (-1000000), .int .i64 1000000, .int .i64 1000001, .int .i64 (-9223372036854775808)] 2))).kept S4 K4)
    clear hx S4 K4
    have r0 := T.out.r.at 0 _ rfl
    have r1 := T.out.r.at 1 _ rfl
    have r2 := T.out.r.at 2 _ rfl
    have f0 := T.out.r.f 0
    have f1 := T.out.r.f 1
    have f2 := T.out.r.f 2
    have u0 := T.out.s.at 0 _ rfl
    have u1 := T.out.s.at 1 _ rfl
    have u2 := T.out.s.at 2 _ rfl
    have v0 := T.out.s.f 0
    have v1 := T.out.s.f 1
    have v2 := T.out.s.f 2
    have T := Lib.hid ((T.out.set0 x).set2 1)
    go_upto_region 14 with fail
    generalize (w4.setCell ⟨b, 0, none⟩ (.int .i64 x)).setCell ⟨b, 2, none⟩ (.int .i64 1) = W5 at *
    clear r0 r1 r2 f0 f1 f2 u0 u1 u2 v0 v1 v2
    have r0 := T.out.r.at 0 _ rfl
    have r1 := T.out.r.at 1 _ rfl
    have r2 := T.out.r.at 2 _ rfl
    have f0 := T.out.r.f 0
    have f1 := T.out.r.f 1
    have f2 := T.out.r.f 2
    have u0 := T.out.s.at 0 _ rfl
    have u1 := T.out.s.at 1 _ rfl
    have u2 := T.out.s.at 2 _ rfl
    have v0 := T.out.s.f 0
    have v1 := T.out.s.f 1
    have v2 := T.out.s.f 2
    obtain ⟨s0, s1, s2⟩ := set_three r0 r1 r2
    have HE := Lib.hid (T.out.fin (M := N + 60) (by omega))
    clear T
    go_wp2
    refine bodyPost_ret ?_ rfl ⟨x, d, 1, rfl, (HE.out _ _ _).1, (HE.out _ _ _).2⟩
    simp [results, Try.results64, go_sem, s0, s1, s2]
  by_cases e1 : r = 1
  · skip
    go_wp2_with fail
    refine (srcAmong_any g B _ _ _ [0, 1, 2, 4, 999999, 1000000, 1000001, -5] _ (T.out.src.next (ext1 _ _)) (by omega) (rd_lit _ _ _ _ rfl) (fun b o e => by injection e with e; injection e; have := T.out.src.lt; omega) (by simp) (by simp)).mono ?_
    rintro e w4 ⟨x, hx, rfl, S4, K4⟩
    have T := Lib.hid ((T.out.next (ext1 w2 (.cells #[.int .i64 0, .int .i64 1, .int .i64 2, .int .i64 4, .int .i64 999999, .int .i64 1000000, .int .i64 1000001, .int .i64 (-5)] 2))).kept S4 K4)
    clear hx S4 K4
    have r0 := T.out.r.at 0 _ rfl
    have r1 := T.out.r.at 1 _ rfl
    have r2 := T.out.r.at 2 _ rfl
    have f0 := T.out.r.f 0
    have f1 := T.out.r.f 1
    have f2 := T.out.r.f 2
    have u0 := T.out.s.at 0 _ rfl
    have u1 := T.out.s.at 1 _ rfl
    have u2 := T.out.s.at 2 _ rfl
    have v0 := T.out.s.f 0
    have v1 := T.out.s.f 1
    have v2 := T.out.s.f 2
    have T := Lib.hid (T.out.set1 x)
    go_upto_region 14 with fail
    generalize w4.setCell ⟨b, 1, none⟩ (.int .i64 x) = W5 at *
    clear r0 r1 r2 f0 f1 f2 u0 u1 u2 v0 v1 v2
    have r0 := T.out.r.at 0 _ rfl
    have r1 := T.out.r.at 1 _ rfl
    have r2 := T.out.r.at 2 _ rfl
    have f0 := T.out.r.f 0
    have f1 := T.out.r.f 1
    have f2 := T.out.r.f 2
    have u0 := T.out.s.at 0 _ rfl
    have u1 := T.out.s.at 1 _ rfl
    have u2 := T.out.s.at 2 _ rfl
    have v0 := T.out.s.f 0
    have v1 := T.out.s.f 1
    have v2 := T.out.s.f 2
    obtain ⟨s0, s1, s2⟩ := set_three r0 r1 r2
    have HE := Lib.hid (T.out.fin (M := N + 60) (by omega))
    clear T
    go_wp2
    refine bodyPost_ret ?_ rfl ⟨p, x, q, rfl, (HE.out _ _ _).1, (HE.out _ _ _).2⟩
    simp [results, Try.results64, go_sem, s0, s1, s2]
  by_cases e2 : r = 2
  · skip
    go_wp2_with fail
    refine (srcAmong_any g B _ _ _ [0, 1, -1, 1000000, 1000001, -9223372036854775808] _ (T.out.src.next (ext1 _ _)) (by omega) (rd_lit _ _ _ _ rfl) (fun b o e => by injection e with e; injection e; have := T.out.src.lt; omega) (by simp) (by simp)).mono ?_
    rintro e w4 ⟨x, hx, rfl, S4, K4⟩
    have T := Lib.hid ((T.out.next (ext1 w2 (.cells #[.int .i64 0, .int .i64 1, .int .i64 (-1), .int .i64 1000000, .int .i64 1000001, .int .i64 (-9223372036854775808)] 2))).kept S4 K4)
    clear hx S4 K4
    have r0 := T.out.r.at 0 _ rfl
    have r1 := T.out.r.at 1 _ rfl
    have r2 := T.out.r.at 2 _ rfl
    have f0 := T.out.r.f 0
    have f1 := T.out.r.f 1
    have f2 := T.out.r.f 2
    have u0 := T.out.s.at 0 _ rfl
    have u1 := T.out.s.at 1 _ rfl
    have u2 := T.out.s.at 2 _ rfl
    have v0 := T.out.s.f 0
    have v1 := T.out.s.f 1
    have v2 := T.out.s.f 2
    have T := Lib.hid (T.out.set2 x)
    go_upto_region 14 with fail
    generalize w4.setCell ⟨b, 2, none⟩ (.int .i64 x) = W5 at *
    clear r0 r1 r2 f0 f1 f2 u0 u1 u2 v0 v1 v2
    have r0 := T.out.r.at 0 _ rfl
    have r1 := T.out.r.at 1 _ rfl
    have r2 := T.out.r.at 2 _ rfl
    have f0 := T.out.r.f 0
    have f1 := T.out.r.f 1
    have f2 := T.out.r.f 2
    have u0 := T.out.s.at 0 _ rfl
    have u1 := T.out.s.at 1 _ rfl
    have u2 := T.out.s.at 2 _ rfl
    have v0 := T.out.s.f 0
    have v1 := T.out.s.f 1
    have v2 := T.out.s.f 2
    obtain ⟨s0, s1, s2⟩ := set_three r0 r1 r2
    have HE := Lib.hid (T.out.fin (M := N + 60) (by omega))
    clear T
    go_wp2
    refine bodyPost_ret ?_ rfl ⟨p, d, x, rfl, (HE.out _ _ _).1, (HE.out _ _ _).2⟩
    simp [results, Try.results64, go_sem, s0, s1, s2]
  by_cases e3 : r = 3
  · skip
    have r0 := T.out.r.at 0 _ rfl
    have r1 := T.out.r.at 1 _ rfl
    have r2 := T.out.r.at 2 _ rfl
    have f0 := T.out.r.f 0
    have f1 := T.out.r.f 1
    have f2 := T.out.r.f 2
    have u0 := T.out.s.at 0 _ rfl
    have u1 := T.out.s.at 1 _ rfl
    have u2 := T.out.s.at 2 _ rfl
    have v0 := T.out.s.f 0
    have v1 := T.out.s.f 1
    have v2 := T.out.s.f 2
    obtain ⟨q', hq'⟩ : ∃ q', IntKind.i64.wrap (q + 1) = q' := ⟨_, rfl⟩
    have T := Lib.hid (T.out.set2 q')
    go_upto_region 14 with fail
    clear hq'
    generalize w2.setCell ⟨b, 2, none⟩ (.int .i64 q') = W5 at *
    clear r0 r1 r2 f0 f1 f2 u0 u1 u2 v0 v1 v2
    have r0 := T.out.r.at 0 _ rfl
    have r1 := T.out.r.at 1 _ rfl
    have r2 := T.out.r.at 2 _ rfl
    have f0 := T.out.r.f 0
    have f1 := T.out.r.f 1
    have f2 := T.out.r.f 2
    have u0 := T.out.s.at 0 _ rfl
    have u1 := T.out.s.at 1 _ rfl
    have u2 := T.out.s.at 2 _ rfl
    have v0 := T.out.s.f 0
    have v1 := T.out.s.f 1
    have v2 := T.out.s.f 2
    obtain ⟨s0, s1, s2⟩ := set_three r0 r1 r2
    have HE := Lib.hid (T.out.fin (M := N + 60) (by omega))
    clear T
    go_wp2
    refine bodyPost_ret ?_ rfl ⟨p, d, q', rfl, (HE.out _ _ _).1, (HE.out _ _ _).2⟩
    simp [results, Try.results64, go_sem, s0, s1, s2]
  by_cases e4 : r = 4
  · skip
    go_wp2_with fail
    refine (srcPick_any g B _ 9 _ T.out.src (by omega) (by omega)).mono ?_
    rintro e w4 ⟨y, y1, y2, rfl, S4, K4⟩
    have T := Lib.hid (T.out.kept S4 K4)
    clear S4 K4
    go_wp2_with fail
    refine (srcPick_any g B _ 5 _ T.out.src (by omega) (by omega)).mono ?_
    rintro e w5 ⟨z, z1, z2, rfl, S4, K4⟩
    have T := Lib.hid (T.out.kept S4 K4)
    clear S4 K4
    have r0 := T.out.r.at 0 _ rfl
    have r1 := T.out.r.at 1 _ rfl
    have r2 := T.out.r.at 2 _ rfl
    have f0 := T.out.r.f 0
    have f1 := T.out.r.f 1
    have f2 := T.out.r.f 2
    have u0 := T.out.s.at 0 _ rfl
    have u1 := T.out.s.at 1 _ rfl
    have u2 := T.out.s.at 2 _ rfl
    have v0 := T.out.s.f 0
    have v1 := T.out.s.f 1
    have v2 := T.out.s.f 2
    obtain ⟨s0, s1, s2⟩ := set_three r0 r1 r2
    have HE := Lib.hid (T.out.fin (M := N + 60) (by omega))
    clear T
    go_wp2
    refine bodyPost_ret ?_ rfl ⟨1000 + y, 999999 - z, 1, rfl, (HE.out _ _ _).1, (HE.out _ _ _).2⟩
    simp [results, Try.results64, go_sem, s0, s1, s2]
  have r0 := T.out.r.at 0 _ rfl
  have r1 := T.out.r.at 1 _ rfl
  have r2 := T.out.r.at 2 _ rfl
  have f0 := T.out.r.f 0
  have f1 := T.out.r.f 1
  have f2 := T.out.r.f 2
  have u0 := T.out.s.at 0 _ rfl
  have u1 := T.out.s.at 1 _ rfl
  have u2 := T.out.s.at 2 _ rfl
  have v0 := T.out.s.f 0
  have v1 := T.out.s.f 1
  have v2 := T.out.s.f 2
  obtain ⟨s0, s1, s2⟩ := set_three r0 r1 r2
  have HE := Lib.hid (T.out.fin (M := N + 60) (by omega))
  clear T
  go_wp2
  refine bodyPost_ret ?_ rfl ⟨p, d, q, rfl, (HE.out _ _ _).1, (HE.out _ _ _).2⟩
  simp [results, Try.results64, go_sem, s0, s1, s2]
end Go.Proofs.Ytkimmahmbacjpaa

/- What the statements on notes draw: a text of a list. No condition but those that each theorem names. -/
namespace Go.Proofs.Ytkimmahmbacjpaa
open Go.RowKit Go.Sort

theorem srcText_any (g B N : Nat) (A : Option Addr) (c : Nat) (xs : List ByteArray) (w : World) (h : Src g B N w) (hN : N ≤ 1000000) (hx : Rd Value.string w w.heap.size A xs) (hA : ∀ b o, A = some ⟨b, o, none⟩ → b ≠ g) (h1 : 1 ≤ xs.length) (h2 : xs.length ≤ 100) :
    Calls Try.prog 62 #[.pointer (some ⟨g, 0, none⟩), .slice A xs.length c] w (fun e w' => ∃ x, x ∈ xs ∧ e = .returned (.string x) ∧ Src g B (N + 2) w' ∧ Keep g w w') := by
  have HS := Lib.hid h
  obtain ⟨b, off, rfl, hb, hc⟩ := hx (by omega)
  have hbg : b ≠ g := hA b off rfl
  have HC := Lib.hid hc
  clear h hc hx hA
  go_enter Try.func62, Try.ntmps62
  go_wp2_with fail
  refine (srcPick_any g B N xs.length _ HS.out hN (by omega)).mono ?_
  rintro e w1 ⟨x, x1, x2, rfl, S1, K1⟩
  obtain ⟨k, rfl⟩ : ∃ k : Nat, x = (k : Int) := ⟨x.toNat, by omega⟩
  have hk : k < xs.length := by omega
  have i0 : (0 : Int) ≤ (k : Int) := by omega
  have i1 : (k : Int) < (xs.length : Int) := by omega
  have c1 := (K1.cell (o := off + k) hbg hb).trans (HC.out k _ (List.getElem?_eq_getElem hk))
  go_wp2
  go_ret
  exact ⟨_, List.getElem_mem hk, rfl, S1, K1⟩
theorem rd_litS (W : World) (cs : Array Value) (T : TypeId) (xs : List ByteArray) (h : cs.toList = xs.map Value.string) : Rd Value.string (W.alloc (.cells cs T)) (W.alloc (.cells cs T)).heap.size (some ⟨W.heap.size, 0, none⟩) xs := fun _ =>
  ⟨W.heap.size, 0, rfl, by simp, fun j x hx => by
    rw [Nat.zero_add, cell_one, ← Array.getElem?_toList, h, List.getElem?_map, hx]; rfl⟩
end Go.Proofs.Ytkimmahmbacjpaa

/- What the statements on notes draw: lists of terms. No condition but those that each theorem names. -/
namespace Go.Proofs.Ytkimmahmbacjpaa
open Go.RowKit Go.Sort

/-- What a draw of a list of terms returns: a row of the call's own. -/
def RetLo (g B N : Nat) (w : World) (e : Ending) (w' : World) : Prop := ∃ (xs : List Int) (v : Value), e = .returned v ∧ xs.length ≤ 9 ∧ SL g B N w xs v w'
set_option maxRecDepth 100000 in
set_option maxHeartbeats 2000000 in
theorem l03Draw_any (g B N : Nat) (w : World) (h : Src g B N w) (hN : N ≤ 800000) :
    Calls Try.prog 94 #[.pointer (some ⟨g, 0, none⟩), .int .i64 6] w (RetLo g B (N + 44) w) := by
  obtain ⟨ti, hi, hz0, hz1, hz2⟩ := info_parts info64
  have HI := Lib.hid hi
  have HG := Lib.hid h.lt
  have HS := Lib.hid h
  clear h hi
  go_enter Try.func94, Try.ntmps94
  go_wp2_with fail
  refine (srcPick_any g B N 21 _ HS.out (by omega) (by omega)).mono ?_
  rintro e w1 ⟨x, x1, x2, rfl, S1, K1⟩
  have T : Hid (SL g B (N + 2) w [x - 10] (.slice (some ⟨w1.heap.size, 0, none⟩) 1 1) (w1.alloc (.cells #[.int .i64 (x - 10)] 2))) :=
    ⟨S1.next (ext1 _ _), K1.trans (Keep.of (ext1 _ _) S1.lt), by
      have h := World.ownsRow_lit (base := w.heap.size) (e := 2) (size := 1) w1 #[.int .i64 (x - 10)] 1 K1.2.1 (by unfold maxLen; omega) rfl
      simpa using h, HG.out⟩
  clear S1 K1 HS
  go_wp2_with fail
  generalize w1.alloc (.cells #[.int .i64 (x - 10)] 2) = W1 at *
  refine (srcPick_any g B _ 6 _ T.out.src (by omega) (by omega)).mono ?_
  rintro e w2 ⟨k, k1, k2, rfl, S2, K2⟩
  have T := Lib.hid (T.out.kept S2 K2)
  generalize w1.heap.size = h1 at *
  clear S2 K2
  obtain ⟨m, rfl⟩ : ∃ m : Nat, k = (m : Int) := ⟨k.toNat, by omega⟩
  have hm3 : m ≤ 5 := by omega
  clear k1 k2
  go_wp2_with fail
  go_loopw [6, 5] (fun t v wr => ∃ (k : Nat) (out : List Int) (h c : Nat), t = .int .i64 k ∧ k ≤ 5 ∧ v = .slice (some ⟨h, 0, none⟩) out.length c ∧ 1 ≤ out.length ∧ out.length + k ≤ 6 ∧ Hid (SL g B (N + 4 + 8 * (5 - k)) w out v wr)) (fun t _ _ => (intOf t).toNat)
  case atStart => exact ⟨m, [x - 10], h1, 1, rfl, hm3, rfl, by simp, by simp; omega, T.out.more (by omega)⟩
  case round =>
    obtain ⟨k, out, h, c, rfl, hk, rfl, ho1, ho2, HT⟩ := hrel
    clear T
    have T := HT
    clear HT
    by_cases h0 : 0 < k
    · skip
      go_wp2_with fail
      refine (srcPick_any g B _ 6 _ T.out.src (by omega) (by omega)).mono ?_
      rintro e w3 ⟨y, y1, y2, rfl, S3, K3⟩
      have T := Lib.hid (T.out.kept S3 K3)
      clear S3 K3
      go_wp2_with fail
      refine (srcOne_any g B _ 8 _ T.out.src (by omega) (by omega)).mono ?_
      rintro e w4 ⟨b, rfl, S3, K3⟩
      have T := Lib.hid (T.out.kept S3 K3)
      clear S3 K3
      cases b
      · skip
        go_wp2_with fail
        refine (srcOne_any g B _ 3 _ T.out.src (by omega) (by omega)).mono ?_
        rintro e w5 ⟨d, rfl, S3, K3⟩
        have T := Lib.hid (T.out.kept S3 K3)
        clear S3 K3
        cases d
        · skip
          have hown := (T.out.next (ext1 w5 (.cells #[.int .i64 (1 + y)] 2))).row
          have hb4 : w.heap.size ≤ w5.heap.size + 1 := Nat.le_succ_of_le T.out.keep.2.1
          go_wp2_with (at_builtin; go_must (refine wpList_append_lies _ rfl _ _ 32 rfl w.heap.size 2 ti (.int .i64 0) 1 8 Try.underlying32 HI.out hz0 hz1 hz2 rfl (by decide) _ _ _ rfl hown ⟨w5.heap.size, 0, none⟩ 1 1 [.int .i64 (1 + y)] rfl rfl (news_row1 _ _ _ rfl) ?c2 (by omega) ?c3 ?c4 ?c5 _ rfl ?_))
          case c2 => simp [Value.oneCell']
          case c3 => unfold maxLen; omega
          case c4 => omega
          case c5 => simp; exact hb4
          intro g6 cap6 w6 hown6 hgrow _ _
          have T6 := Lib.hid (SL.push (x := 1 + y) (T.out.next (ext1 w5 (.cells #[.int .i64 (1 + y)] 2))) hown6 hgrow)
          have HLQ : Hid ((out ++ [1 + y]).length = out.length + 1) := by unfold Hid; rw [List.length_append]; rfl
          clear hown6 hgrow hown
          go_wp2
          go_roundw
          case rel => exact ⟨k - 1, out ++ [1 + y], g6, cap6, val_int (by omega), by omega, by rw [HLQ.out], by rw [HLQ.out]; omega, by rw [HLQ.out]; omega, T6.out.more (by omega)⟩
          case measure => simp [intOf]; omega
        · skip
          have hown := (T.out.next (ext1 w5 (.cells #[.int .i64 (1)] 2))).row
          have hb4 : w.heap.size ≤ w5.heap.size + 1 := Nat.le_succ_of_le T.out.keep.2.1
          go_wp2_with (at_builtin; go_must (refine wpList_append_lies _ rfl _ _ 32 rfl w.heap.size 2 ti (.int .i64 0) 1 8 Try.underlying32 HI.out hz0 hz1 hz2 rfl (by decide) _ _ _ rfl hown ⟨w5.heap.size, 0, none⟩ 1 1 [.int .i64 (1)] rfl rfl (news_row1 _ _ _ rfl) ?c2 (by omega) ?c3 ?c4 ?c5 _ rfl ?_))
          case c2 => simp [Value.oneCell']
          case c3 => unfold maxLen; omega
          case c4 => omega
          case c5 => simp; exact hb4
          intro g6 cap6 w6 hown6 hgrow _ _
          have T6 := Lib.hid (SL.push (x := 1) (T.out.next (ext1 w5 (.cells #[.int .i64 (1)] 2))) hown6 hgrow)
          have HLQ : Hid ((out ++ [1]).length = out.length + 1) := by unfold Hid; rw [List.length_append]; rfl
          clear hown6 hgrow hown
          go_wp2
          go_roundw
          case rel => exact ⟨k - 1, out ++ [1], g6, cap6, val_int (by omega), by omega, by rw [HLQ.out], by rw [HLQ.out]; omega, by rw [HLQ.out]; omega, T6.out.more (by omega)⟩
          case measure => simp [intOf]; omega
      · skip
        go_wp2_with fail
        refine (srcPick_any g B _ 60 _ T.out.src (by omega) (by omega)).mono ?_
        rintro e w5 ⟨z, z1, z2, rfl, S3, K3⟩
        have T := Lib.hid (T.out.kept S3 K3)
        clear S3 K3
        go_wp2_with fail
        refine (srcOne_any g B _ 3 _ T.out.src (by omega) (by omega)).mono ?_
        rintro e w6' ⟨d, rfl, S3, K3⟩
        have T := Lib.hid (T.out.kept S3 K3)
        clear S3 K3
        cases d
        · skip
          have hown := (T.out.next (ext1 w6' (.cells #[.int .i64 (1 + z)] 2))).row
          have hb4 : w.heap.size ≤ w6'.heap.size + 1 := Nat.le_succ_of_le T.out.keep.2.1
          go_wp2_with (at_builtin; go_must (refine wpList_append_lies _ rfl _ _ 32 rfl w.heap.size 2 ti (.int .i64 0) 1 8 Try.underlying32 HI.out hz0 hz1 hz2 rfl (by decide) _ _ _ rfl hown ⟨w6'.heap.size, 0, none⟩ 1 1 [.int .i64 (1 + z)] rfl rfl (news_row1 _ _ _ rfl) ?c2 (by omega) ?c3 ?c4 ?c5 _ rfl ?_))
          case c2 => simp [Value.oneCell']
          case c3 => unfold maxLen; omega
          case c4 => omega
          case c5 => simp; exact hb4
          intro g6 cap6 w6 hown6 hgrow _ _
          have T6 := Lib.hid (SL.push (x := 1 + z) (T.out.next (ext1 w6' (.cells #[.int .i64 (1 + z)] 2))) hown6 hgrow)
          have HLQ : Hid ((out ++ [1 + z]).length = out.length + 1) := by unfold Hid; rw [List.length_append]; rfl
          clear hown6 hgrow hown
          go_wp2
          go_roundw
          case rel => exact ⟨k - 1, out ++ [1 + z], g6, cap6, val_int (by omega), by omega, by rw [HLQ.out], by rw [HLQ.out]; omega, by rw [HLQ.out]; omega, T6.out.more (by omega)⟩
          case measure => simp [intOf]; omega
        · skip
          have hown := (T.out.next (ext1 w6' (.cells #[.int .i64 (1)] 2))).row
          have hb4 : w.heap.size ≤ w6'.heap.size + 1 := Nat.le_succ_of_le T.out.keep.2.1
          go_wp2_with (at_builtin; go_must (refine wpList_append_lies _ rfl _ _ 32 rfl w.heap.size 2 ti (.int .i64 0) 1 8 Try.underlying32 HI.out hz0 hz1 hz2 rfl (by decide) _ _ _ rfl hown ⟨w6'.heap.size, 0, none⟩ 1 1 [.int .i64 (1)] rfl rfl (news_row1 _ _ _ rfl) ?c2 (by omega) ?c3 ?c4 ?c5 _ rfl ?_))
          case c2 => simp [Value.oneCell']
          case c3 => unfold maxLen; omega
          case c4 => omega
          case c5 => simp; exact hb4
          intro g6 cap6 w6 hown6 hgrow _ _
          have T6 := Lib.hid (SL.push (x := 1) (T.out.next (ext1 w6' (.cells #[.int .i64 (1)] 2))) hown6 hgrow)
          have HLQ : Hid ((out ++ [1]).length = out.length + 1) := by unfold Hid; rw [List.length_append]; rfl
          clear hown6 hgrow hown
          go_wp2
          go_roundw
          case rel => exact ⟨k - 1, out ++ [1], g6, cap6, val_int (by omega), by omega, by rw [HLQ.out], by rw [HLQ.out]; omega, by rw [HLQ.out]; omega, T6.out.more (by omega)⟩
          case measure => simp [intOf]; omega
    · have HRT : Hid (RetLo g B (N + 44) w (.returned (.slice (some ⟨h, 0, none⟩) out.length c)) wr) := ⟨out, _, rfl, by omega, T.out.more (by omega)⟩
      clear T
      go_wp2
      go_ret
      exact HRT.out
end Go.Proofs.Ytkimmahmbacjpaa
