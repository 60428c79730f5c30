/- Parts of the proof, merged: DrawSdW SsW. No condition but those that each theorem names. -/
import Derived.Test.YtjgafjbccfjojaaGreatMgAT
import Derived.Test.YtjgafjbccfjojaaGreatMgAO
import Derived.Test.YtjgafjbccfjojaaGreatMgAB
import Derived.Test.YtjgafjbccfjojaaGreatMgAI
import Derived.Deep.Onto
import Derived.Deep.RegionHeld3
import Derived.Deep.DeepCutAuto
namespace Go.Proofs.YtjgafjbccfjojaaGreat
open Go.RowKit Go.Sort
set_option maxHeartbeats 1000000 in
theorem l07DrawD_any (g B N : Nat) (w : World) (h : Src g B N w) (hN : N ≤ 800000) :
    Calls Tryz.prog 96 #[.pointer (some ⟨g, 0, none⟩)] w (RetN g B (N + 6) 2 702 w) := by
  have HS := Lib.hid h
  clear h
  go_enter Tryz.func96, Tryz.ntmps96
  go_wp2_with fail
  refine (srcPick_any g B N 98 _ HS.out (by omega) (by omega)).mono ?_
  rintro e w1 ⟨x, x1, x2, rfl, S1, K1⟩
  have S := Lib.hid S1
  have K := Lib.hid K1
  clear S1 K1 HS
  go_wp2_with fail
  refine (srcOne_any g B _ 3 _ S.out (by omega) (by omega)).mono ?_
  rintro e w2 ⟨b, rfl, S1, K1⟩
  have S := Lib.hid S1
  have K := Lib.hid (K.out.trans K1)
  clear S1 K1
  cases b
  · obtain ⟨q, hq⟩ : ∃ q, sqB (2 + x) = q := ⟨_, rfl⟩
    go_wp2_with fail
    refine (l07Square_any _ _ (by omega) (by omega)).mono ?_
    rw [hq]
    rintro e w' ⟨rfl, rfl⟩
    clear hq
    cases q
    · go_wp2
      go_ret
      exact ⟨_, by omega, by omega, rfl, S.out.more (by omega), K.out⟩
    · go_wp2
      go_ret
      exact ⟨_, by omega, by omega, rfl, S.out.more (by omega), K.out⟩
  · go_wp2_with fail
    refine (srcPick_any g B _ 700 _ S.out (by omega) (by omega)).mono ?_
    rintro e w3 ⟨z, z1, z2, rfl, S1, K1⟩
    have S := Lib.hid S1
    have K := Lib.hid (K.out.trans K1)
    clear S1 K1
    obtain ⟨q, hq⟩ : ∃ q, sqB (2 + z) = q := ⟨_, rfl⟩
    go_wp2_with fail
    refine (l07Square_any _ _ (by omega) (by omega)).mono ?_
    rw [hq]
    rintro e w' ⟨rfl, rfl⟩
    clear hq
    cases q
    · go_wp2
      go_ret
      exact ⟨_, by omega, by omega, rfl, S.out.more (by omega), K.out⟩
    · go_wp2
      go_ret
      exact ⟨_, by omega, by omega, rfl, S.out.more (by omega), K.out⟩
/-- What a draw of a surd returns. -/
def RetSd (g B N : Nat) (w : World) (e : Ending) (w' : World) : Prop := ∃ p d q : Int, e = .returned (.agg #[.int .i64 p, .int .i64 d, .int .i64 q]) ∧ Src g B N w' ∧ Keep g w w'
set_option maxRecDepth 100000 in
set_option maxHeartbeats 2000000 in
theorem l07Draw_any (g B N : Nat) (w : World) (h : Src g B N w) (hN : N ≤ 700000) :
    Calls Tryz.prog 91 #[.pointer (some ⟨g, 0, none⟩)] w (RetSd g B (N + 40) w) := by
  have HG := Lib.hid h.lt
  have S := Lib.hid (h.next (ext1 w (.cells #[.int .i64 0, .int .i64 0, .int .i64 0] 117)))
  have K := Lib.hid (Keep.of (ext1 w (.cells #[.int .i64 0, .int .i64 0, .int .i64 0] 117)) h.lt)
  have R := Lib.hid (BoxV.new w #[.int .i64 0, .int .i64 0, .int .i64 0] 117)
  clear h
  go_enter Tryz.func91, Tryz.ntmps91
  go_wp2_with fail
  generalize w.alloc (.cells #[.int .i64 0, .int .i64 0, .int .i64 0] 117) = W0 at *
  refine (l07DrawD_any g B N _ S.out (by omega)).mono ?_
  rintro e w1 ⟨d, d1, d2, rfl, S1, K1⟩
  have S := Lib.hid S1
  have R := Lib.hid (BoxV.keepK R.out K1 (by have := HG.out; omega))
  have K := Lib.hid (K.out.trans K1)
  clear S1 K1
  go_wp2_with fail
  refine (srcPick_any g B _ 41 _ S.out (by omega) (by omega)).mono ?_
  rintro e w2 ⟨x, x1, x2, rfl, S1, K1⟩
  have S := Lib.hid S1
  have R := Lib.hid (BoxV.keepK R.out K1 (by have := HG.out; omega))
  have K := Lib.hid (K.out.trans K1)
  clear S1 K1
  obtain ⟨p, hp0⟩ : ∃ p, x - 20 = p := ⟨_, rfl⟩
  obtain ⟨m, hm⟩ : ∃ m, p * p = m := ⟨_, rfl⟩
  have hp : -400 ≤ m ∧ m ≤ 400 := by
    have := mul_bd (x := p) (y := p) (M := 20) (N := 20) (by omega) (by omega) (by omega) (by omega) (by omega) (by omega)
    rw [← hm]; omega
  obtain ⟨hp1, hp2⟩ := hp
  have p1 : -20 ≤ p := by omega
  have p2 : p ≤ 20 := by omega
  go_wp2_with fail
  refine (l02Size_any (d - m) _ (by omega) (by omega)).mono ?_
  rintro e w' ⟨rfl, rfl⟩
  obtain ⟨v, hv⟩ : ∃ v : Int, ((d - m).natAbs : Int) = v := ⟨_, rfl⟩
  have v1 : 0 ≤ v := by omega
  have v2 : v ≤ 2000 := by omega
  rw [hv]
  clear hv hm hp0 x1 x2
  go_wp2_with fail
  refine (srcPick_any g B _ 8 _ S.out (by omega) (by omega)).mono ?_
  rintro e w3 ⟨k, k1, k2, rfl, S1, K1⟩
  have S := Lib.hid S1
  have R := Lib.hid (BoxV.keepK R.out K1 (by have := HG.out; omega))
  have K := Lib.hid (K.out.trans K1)
  clear S1 K1
  obtain ⟨k, rfl⟩ : ∃ j : Nat, k = (j : Int) := ⟨k.toNat, by omega⟩
  have hk7 : k ≤ 7 := by omega
  clear k1 k2
  go_wp2_with fail
  go_loopw [7, 6] (fun t u wr => ∃ (k : Nat) (q : Int), t = .int .i64 k ∧ k ≤ 7 ∧ u = .int .i64 q ∧ 1 ≤ q ∧ q ≤ 40 ∧ Hid (Src g B (N + 10 + 2 * (7 - k)) wr) ∧ Hid (Keep g w wr) ∧ Hid (BoxV w.heap.size [.int .i64 0, .int .i64 0, .int .i64 0] wr)) (fun t _ _ => (intOf t).toNat)
  case atStart => exact ⟨k, 1, rfl, hk7, rfl, by omega, by omega, S.out.more (by omega), K, R⟩
  case round =>
    obtain ⟨k, q, rfl, hk, rfl, q1, q2, S, K, R⟩ := hrel
    by_cases h0 : 0 < k
    · go_wp2_with fail
      refine (srcPick_any g B _ 40 _ S.out (by omega) (by omega)).mono ?_
      rintro e w4 ⟨y, y1, y2, rfl, S1, K1⟩
      have S := Lib.hid S1
      have R := Lib.hid (BoxV.keepK R.out K1 (by have := HG.out; omega))
      have K := Lib.hid (K.out.trans K1)
      clear S1 K1
      have y0 : (1 + y == 0) = false := by simp; omega
      go_wp2_with fail
      all_goals go_roundw
      case rel => exact ⟨k - 1, _, val_int (by omega), by omega, rfl, by omega, by omega, S.out.more (by omega), K, R⟩
      case measure => simp [intOf]; omega
      case rel => exact ⟨k - 1, _, val_int (by omega), by omega, rfl, by omega, by omega, S.out.more (by omega), K, R⟩
      case measure => simp [intOf]; omega
    · go_wp2_with fail
      refine (srcOne_any g B _ 4 _ S.out (by omega) (by omega)).mono ?_
      rintro e w4 ⟨b, rfl, S1, K1⟩
      have S := Lib.hid S1
      have R := Lib.hid (BoxV.keepK R.out K1 (by have := HG.out; omega))
      have K := Lib.hid (K.out.trans K1)
      clear S1 K1
      have r0 := R.out.at 0 _ rfl
      have r1 := R.out.at 1 _ rfl
      have r2 := R.out.at 2 _ rfl
      have f0 := R.out.f 0
      have f1 := R.out.f 1
      have f2 := R.out.f 2
      obtain ⟨s0, s1, s2⟩ := set_three r0 r1 r2
      have HE : Hid (∀ a b c, Src g B (N + 40) (((w4.setCell ⟨w.heap.size, 0, none⟩ a).setCell ⟨w.heap.size, 1, none⟩ b).setCell ⟨w.heap.size, 2, none⟩ c) ∧ Keep g w (((w4.setCell ⟨w.heap.size, 0, none⟩ a).setCell ⟨w.heap.size, 1, none⟩ b).setCell ⟨w.heap.size, 2, none⟩ c)) := fun a b c =>
        ⟨(((S.out.more (by omega)).setOther HG.out _ _).setOther HG.out _ _).setOther HG.out _ _, ((K.out.setOther HG.out (Nat.le_refl _) _ _).setOther HG.out (Nat.le_refl _) _ _).setOther HG.out (Nat.le_refl _) _ _⟩
      cases b
      · go_wp2
        refine bodyPost_ret ?_ rfl ⟨p, d, q, rfl, (HE.out _ _ _).1, (HE.out _ _ _).2⟩
        simp [results, Tryz.results91, go_sem, s0, s1, s2]
      · go_wp2
        refine bodyPost_ret ?_ rfl ⟨p, d, -q, rfl, (HE.out _ _ _).1, (HE.out _ _ _).2⟩
        simp [results, Tryz.results91, go_sem, s0, s1, s2]
end Go.Proofs.YtjgafjbccfjojaaGreat
namespace Go.Proofs.YtjgafjbccfjojaaGreat
open Go.RowKit Go.Sort Go.Maps Go.WideMaps
/-- A row of integers of one's own. -/
@[reducible] def OwnR (W : World) (B : Nat) (v : Value) (xs : List Int) : Prop := W.ownsRow B 2 1 v xs.length (xs.map (Value.int .i64))
theorem own_off {b j : Nat} {u : Value} {W : World} {base : Nat} {e : TypeId} {size n : Nat} {v : Value} {xs : List Value} (h : W.ownsRow base e size v n xs) (hb : v.ownBlock ≠ some b) : (W.setCell ⟨b, j, none⟩ u).ownsRow base e size v n xs := by
  obtain ⟨h1, h2⟩ := h
  refine ⟨h1, ?_⟩
  rcases h2 with h2 | ⟨c, cap, cur, hv, hc, hh, r⟩
  · exact .inl h2
  · refine .inr ⟨c, cap, cur, hv, hc, ?_, r⟩
    have hne : c ≠ b := fun e => hb (by rw [hv, e]; rfl)
    exact (Below.heap_setCell W ⟨b, j, none⟩ u c (by simp; exact hne)).trans hh
/-- Two rows beside a box. -/
structure Row2 (B g : Nat) (v1 v2 : Value) (xs ys : List Int) (W : World) : Prop where
  bx : BoxV g [v1, v2, .slice none 0 0] W
  o1 : OwnR W B v1 xs
  o2 : OwnR W B v2 ys
  ne : ∀ k, v1.ownBlock = some k → v2.ownBlock ≠ some k
  n1 : v1.ownBlock ≠ some g
  n2 : v2.ownBlock ≠ some g
theorem Row2.last {B : Nat} {v1 v2 : Value} {xs ys : List Int} {w5 w6 : World} (O1 : OwnR w5 B v1 xs) (O2 : OwnR w6 w5.heap.size v2 ys) (hb : Below w5.heap.size w5 w6) (hB : B ≤ w5.heap.size) (T : TypeId) :
    Row2 B w6.heap.size v1 v2 xs ys (w6.alloc (.cells #[v1, v2, .slice none 0 0] T)) := by
  have hs := hb.size
  refine ⟨BoxV.new w6 #[v1, v2, .slice none 0 0] T, (own_below O1 hb).alloc _, (O2.mono hB).alloc _, fun k h1 h2 => ?_, fun h => ?_, fun h => ?_⟩
  · have := (O1.lt k h1).2
    have := (O2.lt k h2).1
    omega
  · have := (O1.lt _ h).2
    omega
  · have := (O2.lt _ h).2
    omega
theorem Row2.stored {B g : Nat} {v1 v2 a b c : Value} {xs ys : List Int} {w6 : World} (O1 : OwnR w6 B v1 xs) (O2 : OwnR w6 B v2 ys) (ne : ∀ k, v1.ownBlock = some k → v2.ownBlock ≠ some k) (n1 : v1.ownBlock ≠ some g) (n2 : v2.ownBlock ≠ some g) (bx : BoxV g [a, b, c] w6) :
    Row2 B g v1 v2 xs ys (((w6.setCell ⟨g, 0, none⟩ v1).setCell ⟨g, 1, none⟩ v2).setCell ⟨g, 2, none⟩ (.slice none 0 0)) :=
  ⟨((bx.set 0 v1 (by simp)).set 1 v2 (by simp)).set 2 _ (by simp), own_off (own_off (own_off O1 n1) n1) n1, own_off (own_off (own_off O2 n2) n2) n2, ne, n1, n2⟩
theorem Row2.mid {B : Nat} {v1 v2 a b c : Value} {xs ys : List Int} {w5 w6 : World} {T : TypeId} {B5 : Nat} (h5 : B5 = w5.heap.size + 1) (O1 : OwnR w5 B v1 xs) (O2 : OwnR w6 B5 v2 ys) (hb : Below B5 (w5.alloc (.cells #[a, b, c] T)) w6) (hB : B ≤ w5.heap.size) :
    Row2 B w5.heap.size v1 v2 xs ys (((w6.setCell ⟨w5.heap.size, 0, none⟩ v1).setCell ⟨w5.heap.size, 1, none⟩ v2).setCell ⟨w5.heap.size, 2, none⟩ (.slice none 0 0)) := by
  subst h5
  have hb' : Below (w5.alloc (.cells #[a, b, c] T)).heap.size (w5.alloc (.cells #[a, b, c] T)) w6 := by simpa using hb
  have hl1 := fun k h => (O1.lt k h)
  have hl2 := fun k h => (O2.lt k h)
  refine Row2.stored (own_below (O1.alloc _) hb') (O2.mono (by omega)) (fun k h1 h2 => ?_) (fun h => ?_) (fun h => ?_) ((BoxV.new w5 #[a, b, c] T).next hb')
  · have := (hl1 k h1).2
    have := (hl2 k h2).1
    omega
  · have := (hl1 _ h).2
    omega
  · have := (hl2 _ h).1
    omega
theorem Row2.fst {B : Nat} {v1 v2 a b c : Value} {xs ys : List Int} {W w5 w6 : World} {T : TypeId} {B5 : Nat} (h5 : B5 = W.heap.size + 1) (hB : B ≤ W.heap.size) (O1 : OwnR w5 B5 v1 xs) (hb5 : Below B5 (W.alloc (.cells #[a, b, c] T)).drew w5) (O2 : OwnR w6 w5.heap.size v2 ys) (hb6 : Below w5.heap.size w5 w6) :
    Row2 B W.heap.size v1 v2 xs ys (((w6.setCell ⟨W.heap.size, 0, none⟩ v1).setCell ⟨W.heap.size, 1, none⟩ v2).setCell ⟨W.heap.size, 2, none⟩ (.slice none 0 0)) := by
  subst h5
  have hb5' : Below (W.alloc (.cells #[a, b, c] T)).heap.size (W.alloc (.cells #[a, b, c] T)) w5 := by
    have h : Below (W.alloc (.cells #[a, b, c] T)).heap.size (W.alloc (.cells #[a, b, c] T)).drew w5 := by simpa using hb5
    exact ext_trans (ext_drew (Below.refl _ _)) h
  have hs : W.heap.size + 1 ≤ w5.heap.size := by have := hb5'.size; simpa using this
  have hl1 := fun k h => (O1.lt k h)
  have hl2 := fun k h => (O2.lt k h)
  refine Row2.stored ((own_below O1 hb6).mono (by omega)) (O2.mono (by omega)) (fun k h1 h2 => ?_) (fun h => ?_) (fun h => ?_) (((BoxV.new W #[a, b, c] T).next hb5').next hb6)
  · have := (hl1 k h1).2
    have := (hl2 k h2).1
    omega
  · have := (hl1 _ h).1
    omega
  · have := (hl2 _ h).1
    omega
/-- Three rows, apart from each other. -/
structure Own3 (W : World) (B : Nat) (v1 v2 v3 : Value) (s : So) : Prop where
  o1 : OwnR W B v1 s.hd
  o2 : OwnR W B v2 s.pd
  o3 : OwnR W B v3 s.gr
  n12 : ∀ k, v1.ownBlock = some k → v2.ownBlock ≠ some k
  n13 : ∀ k, v1.ownBlock = some k → v3.ownBlock ≠ some k
  n23 : ∀ k, v2.ownBlock = some k → v3.ownBlock ≠ some k
theorem Own3.nil (W : World) (B : Nat) : Own3 W B (.slice none 0 0) (.slice none 0 0) (.slice none 0 0) ⟨[], [], []⟩ := by
  refine ⟨own_nil, own_nil, own_nil, fun k h => ?_, fun k h => ?_, fun k h => ?_⟩ <;> cases h
theorem Own3.next {W W' : World} {B : Nat} {v1 v2 v3 : Value} {s : So} (h : Own3 W B v1 v2 v3 s) (hb : Below W.heap.size W W') : Own3 W' B v1 v2 v3 s :=
  ⟨own_below h.o1 hb, own_below h.o2 hb, own_below h.o3 hb, h.n12, h.n13, h.n23⟩
theorem Own3.kept {g : Nat} {W W' : World} {B : Nat} {v1 v2 v3 : Value} {s : So} (h : Own3 W B v1 v2 v3 s) (k : Keep g W W') (hg : g < B) : Own3 W' B v1 v2 v3 s :=
  ⟨own_kept h.o1 k hg, own_kept h.o2 k hg, own_kept h.o3 k hg, h.n12, h.n13, h.n23⟩
theorem Own3.off {b j : Nat} {u : Value} {W : World} {B : Nat} {v1 v2 v3 : Value} {s : So} (h : Own3 W B v1 v2 v3 s) (h1 : v1.ownBlock ≠ some b) (h2 : v2.ownBlock ≠ some b) (h3 : v3.ownBlock ≠ some b) : Own3 (W.setCell ⟨b, j, none⟩ u) B v1 v2 v3 s :=
  ⟨own_off h.o1 h1, own_off h.o2 h2, own_off h.o3 h3, h.n12, h.n13, h.n23⟩
theorem Own3.low {b j : Nat} {u : Value} {W : World} {B : Nat} {v1 v2 v3 : Value} {s : So} (h : Own3 W B v1 v2 v3 s) (hb : b < B) : Own3 (W.setCell ⟨b, j, none⟩ u) B v1 v2 v3 s :=
  h.off (fun e => by have := (h.o1.lt _ e).1; omega) (fun e => by have := (h.o2.lt _ e).1; omega) (fun e => by have := (h.o3.lt _ e).1; omega)
theorem Own3.more {W : World} {B B' : Nat} {v1 v2 v3 : Value} {s : So} (h : Own3 W B v1 v2 v3 s) (hB : B' ≤ B) : Own3 W B' v1 v2 v3 s := ⟨h.o1.mono hB, h.o2.mono hB, h.o3.mono hB, h.n12, h.n13, h.n23⟩
theorem made_own (W : World) (B n : Nat) (hB : B ≤ W.heap.size) (hn : n ≤ maxLen) : OwnR (W.alloc (.cells (madeCells #[.int .i64 0] n) 2)) B (.slice (some ⟨W.heap.size, 0, none⟩) n n) (List.replicate n 0) := by
  have h := World.ownsRow_lit (base := B) (e := 2) (size := 1) W (madeCells #[.int .i64 0] n) n hB hn (by rw [size_madeCells]; simp)
  have e : (madeCells #[.int .i64 0] n).toList = (List.replicate n (0 : Int)).map (Value.int .i64) := by
    apply List.ext_getElem?
    intro j
    rw [List.map_replicate, List.getElem?_replicate]
    simp only [madeCells]
    by_cases hj : j < n
    · simp [hj, Nat.mod_one]
    · simp [hj]
  unfold OwnR
  rw [← e, List.length_replicate]
  exact h
/-- Three rows and the box that tells them, behind the third is made. -/
theorem Row2.third {B g m : Nat} {v1 v2 : Value} {xs ys : List Int} {wc : World} (h : Row2 B g v1 v2 xs ys wc) (hB : B ≤ wc.heap.size) (hm : m ≤ maxLen) :
    let W := (wc.alloc (.cells (madeCells #[.int .i64 0] m) 2)).setCell ⟨g, 2, none⟩ (.slice (some ⟨wc.heap.size, 0, none⟩) m m)
    BoxV g [v1, v2, .slice (some ⟨wc.heap.size, 0, none⟩) m m] W ∧ Own3 W B v1 v2 (.slice (some ⟨wc.heap.size, 0, none⟩) m m) ⟨xs, ys, List.replicate m 0⟩ ∧ Below wc.heap.size wc (wc.alloc (.cells (madeCells #[.int .i64 0] m) 2)) := by
  have hg := h.bx.lt
  have hne : (Value.slice (some ⟨wc.heap.size, 0, none⟩) m m).ownBlock ≠ some g := fun e => by
    have e2 : wc.heap.size = g := by injection e
    omega
  refine ⟨(h.bx.alloc _).set 2 _ (by simp), ⟨own_off (h.o1.alloc _) h.n1, own_off (h.o2.alloc _) h.n2, own_off (made_own wc B m hB hm) hne, h.ne, fun k h1 h2 => ?_, fun k h1 h2 => ?_⟩, ext1 _ _⟩
  · have := (h.o1.lt k h1).2
    have e2 : wc.heap.size = k := by injection h2
    omega
  · have := (h.o2.lt k h1).2
    have e2 : wc.heap.size = k := by injection h2
    omega
/-- What a call returns that makes a source, and a code. -/
def RetSs (w : World) (e : Ending) (w' : World) : Prop := ∃ (s : So) (v1 v2 v3 : Value) (c : Int), e = .returned (.tuple #[.agg #[v1, v2, v3], .int .i64 c]) ∧ Own3 w' (w.heap.size + 1) v1 v2 v3 s ∧ (s.hd.length ≤ 30 ∧ s.pd.length ≤ 30 ∧ s.gr.length ≤ 30) ∧ Below w.heap.size w w'
theorem RetSs.nil_ {w w' : World} {c : Int} (h : Below w.heap.size w w') : RetSs w (.returned (.tuple #[.agg #[.slice none 0 0, .slice none 0 0, .slice none 0 0], .int .i64 c])) w' := ⟨⟨[], [], []⟩, _, _, _, c, rfl, Own3.nil _ _, by simp, h⟩
theorem own_rd {W : World} {B : Nat} {A : Option Addr} {n c : Nat} {xs : List Int} (h : OwnR W B (.slice A n c) xs) : n = xs.length ∧ Wr (Value.int .i64) W B A xs := by
  obtain ⟨_, A', c', e, hw⟩ := Wr.of_own h
  injection e with e1 e2 e3
  subst e1
  exact ⟨e2, hw⟩
/-- A slice of its own, by append. -/
def RetOR (w : World) (xs : List Int) (n : Nat) (e : Ending) (w' : World) : Prop := ∃ A c, e = .returned (.slice A n c) ∧ OwnR w' w.heap.size (.slice A n c) xs ∧ Below w.heap.size w w'
theorem l00Own_row (b off c n : Nat) (xs : List Int) (w : World) (hn : xs.length = n) (hc : ∀ j x, xs[j]? = some x → w.cell? ⟨b, off + j, none⟩ = some (.int .i64 x)) (hm : xs.length ≤ 1048576) :
    Calls Tryz.prog 29 #[.slice (some ⟨b, off, none⟩) n c] w (RetOR w xs n) := by
  subst hn
  refine (l00Own_at b off c xs w hc hm).mono ?_
  rintro e w' ⟨v, rfl, h1, h2, h3⟩
  obtain ⟨_, A, c', rfl, _⟩ := Wr.of_own h1
  exact ⟨A, c', rfl, h1, h3⟩
set_option maxRecDepth 100000 in
set_option maxHeartbeats 4000000 in
theorem SourceOfSurd_any (p d q : Int) (w : World) :
    Calls Tryz.prog 90 #[surdV p d q] w (RetSs w) := by
  obtain ⟨i0, hi, hz0', hz1', hz2'⟩ := info_parts info64
  have HE := Lib.hid (fun W : World => l08Code_cap p d q W)
  have E0 := Lib.hid (ext_alloc (ext1 w (.cells #[.int .i64 p, .int .i64 d, .int .i64 q] 117)) (.cells #[.slice none 0 0, .slice none 0 0, .slice none 0 0] 26))
  have R0 : Hid (BoxV (w.heap.size + 1) [.slice none 0 0, .slice none 0 0, .slice none 0 0] ((w.alloc (.cells #[.int .i64 p, .int .i64 d, .int .i64 q] 117)).alloc (.cells #[.slice none 0 0, .slice none 0 0, .slice none 0 0] 26))) := by
    have h := BoxV.new (w.alloc (.cells #[.int .i64 p, .int .i64 d, .int .i64 q] 117)) #[.slice none 0 0, .slice none 0 0, .slice none 0 0] 26
    unfold Hid
    simpa using h
  cases hR : pdR (p, d, q) with
  | none =>
    have e3 : (pdC (p, d, q) != 0) = true := by simpa using pdR_none hR
    rw [hR] at HE
    clear hi hR
    unfold RetCoC at HE
    generalize pdC (p, d, q) = PC at *
    unfold surdV at *
    go_enter Tryz.func90, Tryz.ntmps90
    go_wp2_with fail
    refine (HE.out _).mono ?_
    rintro e w1 ⟨g, rfl, hb1, _⟩
    have HB1 := Lib.hid (ext_trans E0.out hb1)
    have R1 := Lib.hid (R0.out.next hb1)
    have r0 := R1.out.at 0 _ rfl
    have r1 := R1.out.at 1 _ rfl
    have r2 := R1.out.at 2 _ rfl
    have f0 := R1.out.f 0
    have f1 := R1.out.f 1
    have f2 := R1.out.f 2
    obtain ⟨s0, s1, s2⟩ := set_three r0 r1 r2
    go_wp2
    refine bodyPost_ret (v := .tuple #[.agg #[.slice none 0 0, .slice none 0 0, .slice none 0 0], .int .i64 PC]) ?_ rfl (RetSs.nil_ (ext_set (ext_set (ext_set HB1.out (by simp) _) (by simp) _) (by simp) _))
    simp [results, Tryz.results90, go_sem, s0, s1, s2]
  | some R =>
    obtain ⟨L, i⟩ := R
    obtain ⟨-, -, hpc, hi1, hi2⟩ := pdR_facts hR
    rw [hR, hpc] at HE
    have l1 : (headOf (L, i)).length = i := by simp [headOf]; omega
    have l2 : (cycOf (L, i)).length = L.length - i := by simp [cycOf]
    have HL := Lib.hid (And.intro l1 l2)
    have HMK : Hid (∀ W : World, (Instr.makeSlice 24 (.int .i64 ((L.length - i : Nat) : Int)) (.int .i64 ((L.length - i : Nat) : Int))).run Tryz.prog W = .ok (.slice (some ⟨W.heap.size, 0, none⟩) (L.length - i) (L.length - i)) (W.alloc (.cells (madeCells #[.int .i64 0] (L.length - i)) 2))) := fun W => by
      have h := run_make (P := Tryz.prog) W 24 2 i0 _ Tryz.underlying24 hi hz0' .i64 .i64 ((L.length - i : Nat) : Int) ((L.length - i : Nat) : Int) (by omega) (by omega) (by rw [hz2']; omega) (by omega)
      rw [hz1'] at h
      simpa [Value.cells] using h
    clear hi hR hpc l1 l2
    unfold RetCoC at HE
    unfold surdV at *
    go_enter Tryz.func90, Tryz.ntmps90
    go_wp2_with fail
    generalize ((w.alloc (.cells #[.int .i64 p, .int .i64 d, .int .i64 q] 117)).alloc (.cells #[.slice none 0 0, .slice none 0 0, .slice none 0 0] 26)) = W0 at *
    have HW0 : Hid (w.heap.size + 1 < W0.heap.size) := R0.out.lt
    refine (HE.out _).mono ?_
    rintro e w1 ⟨g, rfl, hb1, hwk⟩
    obtain ⟨v0, A0, c0, hbx, hgb, hwr, hlc, hcm⟩ := hwk L i rfl
    obtain ⟨b0, off, rfl, hb00, hbl0, hcx, hfx⟩ := hwr (by simp; omega)
    have HRL : Hid (∀ W : World, Below w1.heap.size w1 W → ∀ j t, (L.map flS)[j]? = some t → W.cell? ⟨b0, off + j, none⟩ = some (.int .i64 t)) := fun W h j t ht => (h.cell (p := ⟨b0, off + j, none⟩) hbl0).trans (hcx j t ht)
    have HO1 : Hid (∀ W : World, Below w1.heap.size w1 W → Calls Tryz.prog 29 #[.slice (some ⟨b0, off, none⟩) i c0] W (RetOR W (headOf (L, i)) i)) := fun W h =>
      l00Own_row b0 off c0 i (headOf (L, i)) W HL.out.1 (fun j t ht => HRL.out W h j t (by
        unfold headOf at ht
        rw [List.map_take, List.getElem?_take] at ht
        split at ht
        · exact ht
        · cases ht)) (by rw [HL.out.1]; omega)
    have HO2 : Hid (∀ W : World, Below w1.heap.size w1 W → Calls Tryz.prog 29 #[.slice (some ⟨b0, off + i, none⟩) (L.length - i) (c0 - i)] W (RetOR W (cycOf (L, i)) (L.length - i))) := fun W h =>
      l00Own_row b0 (off + i) (c0 - i) (L.length - i) (cycOf (L, i)) W HL.out.2 (fun j t ht => by
        rw [show off + i + j = off + (i + j) by omega]
        exact HRL.out W h (i + j) t (by
          unfold cycOf at ht
          rw [List.map_drop, List.getElem?_drop] at ht
          exact ht)) (by rw [HL.out.2]; omega)
    have HBX := Lib.hid hbx
    have HCK : Hid (∀ W : World, Below w1.heap.size w1 W → W.cell? ⟨g, 1, none⟩ = some (.slice (some ⟨b0, off, none⟩) L.length c0) ∧ W.cell? ⟨g, 2, none⟩ = some (.int .i64 (i : Int))) := fun W h => ⟨(HBX.out.next h).at 1 _ rfl, (HBX.out.next h).at 2 _ rfl⟩
    have HB1 := Lib.hid (ext_trans E0.out hb1)
    have R1 := Lib.hid (R0.out.next hb1)
    have HZ1 : Hid (w.heap.size + 1 < w1.heap.size) := R1.out.lt
    clear hwk hcx hfx hwr hbx HE R0 E0
    have j0 : (0 : Int) ≤ (i : Int) := by omega
    have j1 : (i : Int) ≤ (L.length : Int) := by omega
    have j2 : (L.length : Int) ≤ (c0 : Int) := by omega
    have j3 : (i : Int) ≤ (c0 : Int) := by omega
    have j4 : ¬ (c0 - i = 0) := by omega
    have j5 : i ≤ L.length := by omega
    have j6 : i ≤ c0 := by omega
    unfold RetOR at HO1 HO2
    go_upto_region 4 with fail
    go_cut [6] (fun v wx => ∃ (g6 : Nat) (A1 : Option Addr) (c1 : Nat) (A2 : Option Addr) (c2 : Nat), v = .pointer (some ⟨g6, 0, none⟩) ∧ Hid (Row2 w1.heap.size g6 (.slice A1 i c1) (.slice A2 (L.length - i) c2) (headOf (L, i)) (cycOf (L, i)) wx) ∧ Below w1.heap.size w1 wx ∧ w1.heap.size ≤ g6)
    case first =>
      go_region_held3 (fun w' => w'.cell? ⟨g, 1, none⟩ = some (.slice (some ⟨b0, off, none⟩) L.length c0) ∧ w'.cell? ⟨g, 2, none⟩ = some (.int .i64 (i : Int)))
        (exact HCK.out _ (by repeat (first | exact Below.refl _ _ | assumption | refine ext_set ?_ (by simp <;> omega) _ | refine ext_alloc ?_ _ | refine ext_drew ?_ | refine ext_trans ?_ (by assumption))))
        (first | (go_at_call 29; (with_reducible refine (HO1.out _ (by repeat (first | exact Below.refl _ _ | assumption | refine ext_set ?_ (by simp <;> omega) _ | refine ext_alloc ?_ _ | refine ext_drew ?_ | refine ext_trans ?_ (by assumption)))).mono ?_); rintro e w5 ⟨A5, c5, rfl, hw5, hb5⟩; have hy5 := hb5.size; (try simp at hy5); (first | have m50 := (hb5.cell (p := ⟨w1.heap.size, 0, none⟩) (by simp)).trans (cell_one _ _ _ _) | skip); (first | have n50 := (hb5.frozen (p := ⟨w1.heap.size, 0, none⟩) (by simp)).trans (World.frozen?_alloc_at _ _ _ _ rfl) | skip); (first | have m51 := (hb5.cell (p := ⟨w1.heap.size, 1, none⟩) (by simp)).trans (cell_one _ _ _ _) | skip); (first | have n51 := (hb5.frozen (p := ⟨w1.heap.size, 1, none⟩) (by simp)).trans (World.frozen?_alloc_at _ _ _ _ rfl) | skip); (first | have m52 := (hb5.cell (p := ⟨w1.heap.size, 2, none⟩) (by simp)).trans (cell_one _ _ _ _) | skip); (first | have n52 := (hb5.frozen (p := ⟨w1.heap.size, 2, none⟩) (by simp)).trans (World.frozen?_alloc_at _ _ _ _ rfl) | skip)) | (go_at_call 29; (with_reducible refine (HO2.out _ (by repeat (first | exact Below.refl _ _ | assumption | refine ext_set ?_ (by simp <;> omega) _ | refine ext_alloc ?_ _ | refine ext_drew ?_ | refine ext_trans ?_ (by assumption)))).mono ?_); rintro e w6 ⟨A6, c6, rfl, hw6, hb6⟩; have hy6 := hb6.size; (try simp at hy6); (first | have m60 := (hb6.cell (p := ⟨w1.heap.size, 0, none⟩) (by show w1.heap.size < _; omega)).trans m50 | have m60 := (hb6.cell (p := ⟨w5.heap.size, 0, none⟩) (by simp)).trans (cell_one _ _ _ _) | skip); (first | have n60 := (hb6.frozen (p := ⟨w1.heap.size, 0, none⟩) (by show w1.heap.size < _; omega)).trans n50 | have n60 := (hb6.frozen (p := ⟨w5.heap.size, 0, none⟩) (by simp)).trans (World.frozen?_alloc_at _ _ _ _ rfl) | skip); (first | have m61 := (hb6.cell (p := ⟨w1.heap.size, 1, none⟩) (by show w1.heap.size < _; omega)).trans m51 | have m61 := (hb6.cell (p := ⟨w5.heap.size, 1, none⟩) (by simp)).trans (cell_one _ _ _ _) | skip); (first | have n61 := (hb6.frozen (p := ⟨w1.heap.size, 1, none⟩) (by show w1.heap.size < _; omega)).trans n51 | have n61 := (hb6.frozen (p := ⟨w5.heap.size, 1, none⟩) (by simp)).trans (World.frozen?_alloc_at _ _ _ _ rfl) | skip); (first | have m62 := (hb6.cell (p := ⟨w1.heap.size, 2, none⟩) (by show w1.heap.size < _; omega)).trans m52 | have m62 := (hb6.cell (p := ⟨w5.heap.size, 2, none⟩) (by simp)).trans (cell_one _ _ _ _) | skip); (first | have n62 := (hb6.frozen (p := ⟨w1.heap.size, 2, none⟩) (by show w1.heap.size < _; omega)).trans n52 | have n62 := (hb6.frozen (p := ⟨w5.heap.size, 2, none⟩) (by simp)).trans (World.frozen?_alloc_at _ _ _ _ rfl) | skip)))
      all_goals go_wp2_with fail
      all_goals go_meet
      all_goals first
        | exact ⟨w6.heap.size, A5, c5, A6, c6, rfl, Row2.last hw5 hw6 hb6 hy5 _, ext_alloc (ext_trans (ext_trans (ext_drew (Below.refl _ _)) hb5) hb6) _, by omega⟩
        | exact ⟨w5.heap.size, A5, c5, A6, c6, rfl, Row2.mid (by simp) hw5 hw6 hb6 hy5, ext_set (ext_set (ext_set (ext_trans (ext_alloc (ext_trans (ext_drew (Below.refl _ _)) hb5) _) hb6) hy5 _) hy5 _) hy5 _, hy5⟩
        | exact ⟨w1.heap.size, A5, c5, A6, c6, rfl, Row2.fst (by simp) (Nat.le_refl _) hw5 hb5 hw6 hb6, ext_set (ext_set (ext_set (ext_trans (ext_trans (ext_drew (ext1 w1 (.cells #[.slice none 0 0, .slice none 0 0, .slice none 0 0] 26))) hb5) hb6) (Nat.le_refl _) _) (Nat.le_refl _) _) (Nat.le_refl _) _, Nat.le_refl _⟩
    case rest =>
      obtain ⟨g6, A1, c1, A2, c2, rfl, HX, hb6, hg6⟩ := hcut
      have HMm : Hid (L.length - i ≤ maxLen) := by unfold Hid maxLen; omega
      generalize L.length - i = m at *
      have HT := Lib.hid (HX.out.third (m := m) hb6.size HMm.out)
      have HB2 := Lib.hid (ext_trans HB1.out (ext_trans hb6 HT.out.2.2))
      have R2 := Lib.hid ((R1.out.next hb6).next HT.out.2.2)
      have z1 := HX.out.bx.at 1 _ rfl
      have z2 := (HX.out.bx.alloc (.cells (madeCells #[.int .i64 0] m) 2)).at 2 _ rfl
      have y2 := (HX.out.bx.alloc (.cells (madeCells #[.int .i64 0] m) 2)).f 2
      have hgw : w.heap.size + 1 < g6 := Nat.lt_of_lt_of_le HZ1.out hg6
      have hmk := HMK.out wc
      have hzc : w1.heap.size ≤ wc.heap.size := hb6.size
      have HB3 := Lib.hid (ext_set HB2.out (p := ⟨g6, 2, none⟩) (by show w.heap.size ≤ g6; omega) (.slice (some ⟨wc.heap.size, 0, none⟩) m m))
      have R3 := Lib.hid (R2.out.setFar (b := g6) (j := 2) (.slice (some ⟨wc.heap.size, 0, none⟩) m m) (by omega))
      have X3 := Lib.hid HT.out.1
      have O3 := Lib.hid HT.out.2.1
      have hle1 : (headOf (L, i)).length = i := HL.out.1
      have hle2 : (cycOf (L, i)).length = m := HL.out.2
      have HLE := Lib.hid (And.intro hle1 hle2)
      clear hle1 hle2 HT HB2 R2 HX hb6 HMK HL HO1 HO2 HCK HRL R1 HB1
      go_wp2_with fail
      generalize (wc.alloc (.cells (madeCells #[.int .i64 0] m) 2)).setCell ⟨g6, 2, none⟩ (.slice (some ⟨wc.heap.size, 0, none⟩) m m) = W3 at *
      generalize wc.heap.size = gm at *
      obtain ⟨-, hr1⟩ := own_rd O3.out.o1
      obtain ⟨-, hr2⟩ := own_rd O3.out.o2
      obtain ⟨-, hr3⟩ := own_rd O3.out.o3
      have HOK : Hid (Calls Tryz.prog 59 #[.pointer (some ⟨g6, 0, none⟩)] W3 fun e w' => e = .returned (.bool (soB ⟨headOf (L, i), cycOf (L, i), List.replicate m 0⟩)) ∧ Below W3.heap.size W3 w') := by
        have hx := X3.out
        refine l15Ok_any ⟨headOf (L, i), cycOf (L, i), List.replicate m 0⟩ g6 A1 A2 (some ⟨gm, 0, none⟩) c1 c2 m W3 ⟨hr1.rd, hr2.rd, hr3.rd⟩ ?_
        refine SoAt.of_box ?_
        rw [HLE.out.1, HLE.out.2, List.length_replicate]
        exact hx
      have HSO : Hid (soB ⟨headOf (L, i), cycOf (L, i), List.replicate m 0⟩ = true → i ≤ 30 ∧ m ≤ 30) := fun h => by
        have := (so_at h).1
        simp only [HLE.out.1, HLE.out.2] at this
        omega
      clear hr1 hr2 hr3 z1 z2 y2 hmk
      generalize hb : soB ⟨headOf (L, i), cycOf (L, i), List.replicate m 0⟩ = bb at *
      clear hb
      refine HOK.out.mono ?_
      rintro e w4 ⟨rfl, hb4⟩
      have X4 := Lib.hid (X3.out.next hb4)
      have O4 := Lib.hid (O3.out.next hb4)
      have R1 := Lib.hid (R3.out.next hb4)
      have HB4 := Lib.hid (ext_trans HB3.out hb4)
      clear hb4 HOK X3 O3 R3 HB3 hi1 hi2 hlc hcm hgb hb00 hbl0 j0 j1 j2 j3 j4 j5 j6 hg6 hgw hzc hb1
      have r0 := R1.out.at 0 _ rfl
      have r1 := R1.out.at 1 _ rfl
      have r2 := R1.out.at 2 _ rfl
      have f0 := R1.out.f 0
      have f1 := R1.out.f 1
      have f2 := R1.out.f 2
      obtain ⟨s0, s1, s2⟩ := set_three r0 r1 r2
      cases bb
      · go_wp2
        refine bodyPost_ret (v := .tuple #[.agg #[.slice none 0 0, .slice none 0 0, .slice none 0 0], .int .i64 5]) ?_ rfl (RetSs.nil_ (ext_set (ext_set (ext_set HB4.out (by simp) _) (by simp) _) (by simp) _))
        simp [results, Tryz.results90, go_sem, s0, s1, s2]
      · have x0 := X4.out.at 0 _ rfl
        have x1 := X4.out.at 1 _ rfl
        have x2 := X4.out.at 2 _ rfl
        have HN := Lib.hid (HSO.out rfl)
        have OF := Lib.hid ((((O4.out.more (B' := w.heap.size + 1 + 1) (Nat.succ_le_of_lt HZ1.out)).low (b := w.heap.size + 1) (j := 0) (u := .slice A1 i c1) (by omega)).low (b := w.heap.size + 1) (j := 1) (u := .slice A2 m c2) (by omega)).low (b := w.heap.size + 1) (j := 2) (u := .slice (some ⟨gm, 0, none⟩) m m) (by omega))
        go_wp2
        refine bodyPost_ret (v := .tuple #[.agg #[.slice A1 i c1, .slice A2 m c2, .slice (some ⟨gm, 0, none⟩) m m], .int .i64 0]) ?_ rfl ⟨_, _, _, _, _, rfl, OF.out.more (by omega), ?_, ext_set (ext_set (ext_set HB4.out (by simp) _) (by simp) _) (by simp) _⟩
        · simp [results, Tryz.results90, go_sem, s0, s1, s2]
        · simp only [HLE.out.1, HLE.out.2, List.length_replicate]
          have := HN.out
          omega
end Go.Proofs.YtjgafjbccfjojaaGreat
