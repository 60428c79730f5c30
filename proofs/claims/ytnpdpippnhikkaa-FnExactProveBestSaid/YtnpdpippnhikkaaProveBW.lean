/- ProveBest: the walks. No condition but those that each theorem names. -/
import Derived.Test.YtnpdpippnhikkaaBestY
namespace Go.Proofs.Ytnpdpippnhikkaa
open Go.RowKit Go.Sort

set_option maxHeartbeats 1000000 in
theorem iIsBestFirst_is_bad (n d p q k : Int) (w : World) (hk : bestC true [(n, d), (p, q)] = k) (h0 : k ≠ 0) :
    Calls Try.prog 81 #[fracV n d, fracV p q] w fun e w' => e = .returned (.tuple #[.bool false, .int .i64 k]) ∧ Below w.heap.size w w' := by
  have HK : Hid (∀ (W : World) (g c : Nat), g = W.heap.size → Calls Try.prog 157 #[.bool true, .slice (some ⟨g, 0, none⟩) 2 c] (W.alloc (.cells #[.int .i64 n, .int .i64 d, .int .i64 p, .int .i64 q] 29)) fun e w' => e = .returned (.int .i64 k) ∧ Below (W.alloc (.cells #[.int .i64 n, .int .i64 d, .int .i64 p, .int .i64 q] 29)).heap.size (W.alloc (.cells #[.int .i64 n, .int .i64 d, .int .i64 p, .int .i64 q] 29)) w') := fun W g c hg => by
    have := checkBest_any true (some ⟨g, 0, none⟩) c [(n, d), (p, q)] (W.alloc (.cells #[.int .i64 n, .int .i64 d, .int .i64 p, .int .i64 q] 29)) (Wr.lit' W hg rfl).rd (by simp)
    rw [hk] at this
    exact this
  clear hk
  have e1 : (k != 0) = true := by simpa using h0
  have e2 : (k == 0) = false := by simpa using h0
  clear h0
  unfold fracV
  go_enter Try.func81, Try.ntmps81
  go_wp2_with fail
  refine (HK.out _ _ _ (by simp)).mono ?_
  rintro e w1 ⟨rfl, hb⟩
  go_wp2
  go_ret2
  exact ⟨rfl, ext_trans (ext_alloc (ext_alloc (ext1 _ _) _) _) hb⟩
set_option maxHeartbeats 1000000 in
theorem iIsBestFirst_is_good (n d p q : Int) (b : Bool) (w : World) (hk : bestC true [(n, d), (p, q)] = 0) (HB : Hid (∀ W, Calls Try.prog 158 #[fracV n d, fracV p q] W fun e w' => e = .returned (.bool b) ∧ Below W.heap.size W w')) :
    Calls Try.prog 81 #[fracV n d, fracV p q] w fun e w' => e = .returned (.tuple #[.bool b, .int .i64 0]) ∧ Below w.heap.size w w' := by
  have HK : Hid (∀ (W : World) (g c : Nat), g = W.heap.size → Calls Try.prog 157 #[.bool true, .slice (some ⟨g, 0, none⟩) 2 c] (W.alloc (.cells #[.int .i64 n, .int .i64 d, .int .i64 p, .int .i64 q] 29)) fun e w' => e = .returned (.int .i64 0) ∧ Below (W.alloc (.cells #[.int .i64 n, .int .i64 d, .int .i64 p, .int .i64 q] 29)).heap.size (W.alloc (.cells #[.int .i64 n, .int .i64 d, .int .i64 p, .int .i64 q] 29)) w') := fun W g c hg => by
    have := checkBest_any true (some ⟨g, 0, none⟩) c [(n, d), (p, q)] (W.alloc (.cells #[.int .i64 n, .int .i64 d, .int .i64 p, .int .i64 q] 29)) (Wr.lit' W hg rfl).rd (by simp)
    rw [hk] at this
    exact this
  clear hk
  unfold fracV at *
  have G1 := Lib.hid (((B2.new w n d 29).next (ext1 _ (.cells #[.int .i64 p, .int .i64 q] 29))).next (ext1 _ (.cells #[.int .i64 n, .int .i64 d, .int .i64 p, .int .i64 q] 29)))
  have G2 := Lib.hid ((B2.new_at (g := w.heap.size + 1) (W := w.alloc (.cells #[.int .i64 n, .int .i64 d] 29)) p q 29 (by simp)).next (ext1 _ (.cells #[.int .i64 n, .int .i64 d, .int .i64 p, .int .i64 q] 29)))
  go_enter Try.func81, Try.ntmps81
  go_wp2_with fail
  refine (HK.out _ _ _ (by simp)).mono ?_
  rintro e w1 ⟨rfl, hb⟩
  obtain ⟨r0, r1, _, _⟩ := G1.out.next hb
  obtain ⟨x0, x1, _, _⟩ := G2.out.next hb
  have hbe := Lib.hid (ext_trans (ext_alloc (ext_alloc (ext1 _ _) _) _) hb)
  clear hb
  go_wp2_with fail
  refine (HB.out _).mono ?_
  rintro e w2 ⟨rfl, hb⟩
  go_wp2
  go_ret2
  exact ⟨rfl, ext_trans hbe.out hb⟩
set_option maxHeartbeats 1000000 in
theorem sIsBestFirst_is_bad (n d p q k : Int) (w : World) (hk : bestC true [(n, d), (p, q)] = k) (h0 : k ≠ 0) :
    Calls Try.prog 79 #[fracV n d, fracV p q] w fun e w' => e = .returned (.tuple #[.bool false, .int .i64 k]) ∧ Below w.heap.size w w' := by
  have HK : Hid (∀ (W : World) (g c : Nat), g = W.heap.size → Calls Try.prog 153 #[.slice (some ⟨g, 0, none⟩) 2 c] (W.alloc (.cells #[.int .i64 n, .int .i64 d, .int .i64 p, .int .i64 q] 29)) fun e w' => e = .returned (.int .i64 k) ∧ Below (W.alloc (.cells #[.int .i64 n, .int .i64 d, .int .i64 p, .int .i64 q] 29)).heap.size (W.alloc (.cells #[.int .i64 n, .int .i64 d, .int .i64 p, .int .i64 q] 29)) w') := fun W g c hg => by
    have := l18Code_any (some ⟨g, 0, none⟩) c [(n, d), (p, q)] (W.alloc (.cells #[.int .i64 n, .int .i64 d, .int .i64 p, .int .i64 q] 29)) (Wr.lit' W hg rfl).rd (by simp)
    rw [hk] at this
    exact this
  clear hk
  have e1 : (k != 0) = true := by simpa using h0
  have e2 : (k == 0) = false := by simpa using h0
  clear h0
  unfold fracV
  go_enter Try.func79, Try.ntmps79
  go_wp2_with fail
  refine (HK.out _ _ _ (by simp)).mono ?_
  rintro e w1 ⟨rfl, hb⟩
  go_wp2
  go_ret2
  exact ⟨rfl, ext_trans (ext_alloc (ext_alloc (ext1 _ _) _) _) hb⟩
set_option maxHeartbeats 1000000 in
theorem sIsBestFirst_is_good (n d p q : Int) (b : Bool) (w : World) (hk : bestC true [(n, d), (p, q)] = 0) (HB : Hid (∀ W, Calls Try.prog 154 #[fracV n d, fracV p q] W fun e w' => e = .returned (.bool b) ∧ Below W.heap.size W w')) :
    Calls Try.prog 79 #[fracV n d, fracV p q] w fun e w' => e = .returned (.tuple #[.bool b, .int .i64 0]) ∧ Below w.heap.size w w' := by
  have HK : Hid (∀ (W : World) (g c : Nat), g = W.heap.size → Calls Try.prog 153 #[.slice (some ⟨g, 0, none⟩) 2 c] (W.alloc (.cells #[.int .i64 n, .int .i64 d, .int .i64 p, .int .i64 q] 29)) fun e w' => e = .returned (.int .i64 0) ∧ Below (W.alloc (.cells #[.int .i64 n, .int .i64 d, .int .i64 p, .int .i64 q] 29)).heap.size (W.alloc (.cells #[.int .i64 n, .int .i64 d, .int .i64 p, .int .i64 q] 29)) w') := fun W g c hg => by
    have := l18Code_any (some ⟨g, 0, none⟩) c [(n, d), (p, q)] (W.alloc (.cells #[.int .i64 n, .int .i64 d, .int .i64 p, .int .i64 q] 29)) (Wr.lit' W hg rfl).rd (by simp)
    rw [hk] at this
    exact this
  clear hk
  unfold fracV at *
  have G1 := Lib.hid (((B2.new w n d 29).next (ext1 _ (.cells #[.int .i64 p, .int .i64 q] 29))).next (ext1 _ (.cells #[.int .i64 n, .int .i64 d, .int .i64 p, .int .i64 q] 29)))
  have G2 := Lib.hid ((B2.new_at (g := w.heap.size + 1) (W := w.alloc (.cells #[.int .i64 n, .int .i64 d] 29)) p q 29 (by simp)).next (ext1 _ (.cells #[.int .i64 n, .int .i64 d, .int .i64 p, .int .i64 q] 29)))
  go_enter Try.func79, Try.ntmps79
  go_wp2_with fail
  refine (HK.out _ _ _ (by simp)).mono ?_
  rintro e w1 ⟨rfl, hb⟩
  obtain ⟨r0, r1, _, _⟩ := G1.out.next hb
  obtain ⟨x0, x1, _, _⟩ := G2.out.next hb
  have hbe := Lib.hid (ext_trans (ext_alloc (ext_alloc (ext1 _ _) _) _) hb)
  clear hb
  go_wp2_with fail
  refine (HB.out _).mono ?_
  rintro e w2 ⟨rfl, hb⟩
  go_wp2
  go_ret2
  exact ⟨rfl, ext_trans hbe.out hb⟩
set_option maxHeartbeats 1000000 in
theorem iProveBest_bad (n d p q k : Int) (b : Bool) (w : World) (h0 : k ≠ 0) (HI : Hid (∀ W, Calls Try.prog 81 #[fracV n d, fracV p q] W fun e w' => e = .returned (.tuple #[.bool b, .int .i64 k]) ∧ Below W.heap.size W w')) :
    Calls Try.prog 16 #[fracV n d, fracV p q] w (RetCertC w 0 [] k) := by
  have e1 : (k != 0) = true := by simpa using h0
  have e2 : (k == 0) = false := by simpa using h0
  clear h0
  unfold fracV at *
  go_enter Try.func16, Try.ntmps16
  go_wp2_with fail
  refine (HI.out _).mono ?_
  rintro e w1 ⟨rfl, hb1⟩
  have hz1 : w.heap.size + 1 + 1 < w1.heap.size := by have := hb1.size; simp at this; omega
  have m0 : w1.cell? ⟨w.heap.size + 1 + 1, 0, none⟩ = some (.int .i64 0) := (hb1.cell (p := ⟨w.heap.size + 1 + 1, 0, none⟩) (by simp)).trans (cell_three_3 w _ _ _ _ _ _ _)
  have m1 : w1.cell? ⟨w.heap.size + 1 + 1, 1, none⟩ = some (.slice none 0 0) := (hb1.cell (p := ⟨w.heap.size + 1 + 1, 1, none⟩) (by simp)).trans (cell_three_3 w _ _ _ _ _ _ _)
  have f0 : ∀ j, w1.frozen? ⟨w.heap.size + 1 + 1, j, none⟩ = false := fun j => (hb1.frozen (p := ⟨w.heap.size + 1 + 1, j, none⟩) (by simp)).trans (World.frozen?_alloc_at _ _ _ _ (by simp))
  have f00 := f0 0
  have f01 := f0 1
  obtain ⟨s0, s1⟩ := set_two m0 m1
  have hbe := Lib.hid (ext_trans (ext_alloc (ext_alloc (ext1 _ _) _) _) hb1)
  clear f0 hb1
  go_wp2
  exact bodyPost_ret (v := .tuple #[certV 0 none 0 0, .int .i64 k]) (by simp [results, Try.results16, go_sem, s0, s1]; done) rfl ⟨none, 0, rfl, fun h => absurd h (by simp), ext_set (ext_set hbe.out (by simp; omega) _) (by simp; omega) _⟩
set_option maxHeartbeats 1000000 in
theorem iProveBest_no (n d p q : Int) (w : World) (HI : Hid (∀ W, Calls Try.prog 81 #[fracV n d, fracV p q] W fun e w' => e = .returned (.tuple #[.bool false, .int .i64 0]) ∧ Below W.heap.size W w')) :
    Calls Try.prog 16 #[fracV n d, fracV p q] w (RetCertC w 0 [] 3) := by
  unfold fracV at *
  go_enter Try.func16, Try.ntmps16
  go_wp2_with fail
  refine (HI.out _).mono ?_
  rintro e w1 ⟨rfl, hb1⟩
  have hz1 : w.heap.size + 1 + 1 < w1.heap.size := by have := hb1.size; simp at this; omega
  have m0 : w1.cell? ⟨w.heap.size + 1 + 1, 0, none⟩ = some (.int .i64 0) := (hb1.cell (p := ⟨w.heap.size + 1 + 1, 0, none⟩) (by simp)).trans (cell_three_3 w _ _ _ _ _ _ _)
  have m1 : w1.cell? ⟨w.heap.size + 1 + 1, 1, none⟩ = some (.slice none 0 0) := (hb1.cell (p := ⟨w.heap.size + 1 + 1, 1, none⟩) (by simp)).trans (cell_three_3 w _ _ _ _ _ _ _)
  have f0 : ∀ j, w1.frozen? ⟨w.heap.size + 1 + 1, j, none⟩ = false := fun j => (hb1.frozen (p := ⟨w.heap.size + 1 + 1, j, none⟩) (by simp)).trans (World.frozen?_alloc_at _ _ _ _ (by simp))
  have f00 := f0 0
  have f01 := f0 1
  obtain ⟨s0, s1⟩ := set_two m0 m1
  have hbe := Lib.hid (ext_trans (ext_alloc (ext_alloc (ext1 _ _) _) _) hb1)
  clear f0 hb1
  go_wp2
  exact bodyPost_ret (v := .tuple #[certV 0 none 0 0, .int .i64 3]) (by simp [results, Try.results16, go_sem, s0, s1]; done) rfl ⟨none, 0, rfl, fun h => absurd h (by simp), ext_set (ext_set hbe.out (by simp; omega) _) (by simp; omega) _⟩
set_option maxHeartbeats 1000000 in
theorem iProveBest_yes (n d p q a b c e : Int) (w : World) (HI : Hid (∀ W, Calls Try.prog 81 #[fracV n d, fracV p q] W fun e w' => e = .returned (.tuple #[.bool true, .int .i64 0]) ∧ Below W.heap.size W w'))
    (HA : Hid (∀ W, Calls Try.prog 82 #[fracV n d, .int .i64 q] W fun x w' => x = .returned (.tuple #[fracV a b, fracV c e]) ∧ Below W.heap.size W w')) :
    Calls Try.prog 16 #[fracV n d, fracV p q] w (RetCertC w 6 [n, d, p, q, a, b, c, e] 0) := by
  unfold fracV at *
  have G1 := Lib.hid (((B2.new w n d 29).next (ext1 _ (.cells #[.int .i64 p, .int .i64 q] 29))).next (ext1 _ (.cells #[.int .i64 0, .slice none 0 0] 26)))
  have G2 := Lib.hid ((B2.new_at (g := w.heap.size + 1) (W := w.alloc (.cells #[.int .i64 n, .int .i64 d] 29)) p q 29 (by simp)).next (ext1 _ (.cells #[.int .i64 0, .slice none 0 0] 26)))
  go_enter Try.func16, Try.ntmps16
  go_wp2_with fail
  refine (HI.out _).mono ?_
  rintro x w1 ⟨rfl, hb1⟩
  have G1 := Lib.hid (G1.out.next hb1)
  have G2 := Lib.hid (G2.out.next hb1)
  have hz1 : w.heap.size + 1 + 1 < w1.heap.size := by have := hb1.size; simp at this; omega
  have m0 : w1.cell? ⟨w.heap.size + 1 + 1, 0, none⟩ = some (.int .i64 0) := (hb1.cell (p := ⟨w.heap.size + 1 + 1, 0, none⟩) (by simp)).trans (cell_three_3 w _ _ _ _ _ _ _)
  have m1 : w1.cell? ⟨w.heap.size + 1 + 1, 1, none⟩ = some (.slice none 0 0) := (hb1.cell (p := ⟨w.heap.size + 1 + 1, 1, none⟩) (by simp)).trans (cell_three_3 w _ _ _ _ _ _ _)
  have f0 : ∀ j, w1.frozen? ⟨w.heap.size + 1 + 1, j, none⟩ = false := fun j => (hb1.frozen (p := ⟨w.heap.size + 1 + 1, j, none⟩) (by simp)).trans (World.frozen?_alloc_at _ _ _ _ (by simp))
  have M := Lib.hid (And.intro m0 (And.intro m1 f0))
  have hbe := Lib.hid (ext_trans (ext_alloc (ext_alloc (ext1 _ _) _) _) hb1)
  clear f0 hb1 m0 m1
  obtain ⟨r0, r1, _, _⟩ := G1.out
  obtain ⟨x0, x1, _, _⟩ := G2.out
  go_wp2_with fail
  refine (HA.out _).mono ?_
  rintro x w2 ⟨rfl, hb⟩
  obtain ⟨m0, m1, mf⟩ := M.out
  have m0 := (hb.cell (p := ⟨w.heap.size + 1 + 1, 0, none⟩) hz1).trans m0
  have m1 := (hb.cell (p := ⟨w.heap.size + 1 + 1, 1, none⟩) hz1).trans m1
  have f00 := (hb.frozen (p := ⟨w.heap.size + 1 + 1, 0, none⟩) hz1).trans (mf 0)
  have f01 := (hb.frozen (p := ⟨w.heap.size + 1 + 1, 1, none⟩) hz1).trans (mf 1)
  have hz2 : w.heap.size + 1 + 1 < w2.heap.size := Nat.lt_of_lt_of_le hz1 hb.size
  have hz3 : w.heap.size + 1 < w2.heap.size := by omega
  have hz4 : w.heap.size < w2.heap.size := by omega
  clear r0 r1 x0 x1
  obtain ⟨r0, r1, _, _⟩ := G1.out.next hb
  obtain ⟨x0, x1, _, _⟩ := G2.out.next hb
  have hbe := Lib.hid (ext_trans hbe.out hb)
  clear hb mf hz1
  obtain ⟨s0, s1⟩ := set_two m0 m1
  have t0 : ∀ u v o o' o'', (((((w2.setCell ⟨w.heap.size + 1 + 1, 0, none⟩ u).setCell ⟨w.heap.size + 1 + 1, 1, none⟩ v).alloc o).alloc o').alloc o'').cell? ⟨w.heap.size + 1 + 1, 0, none⟩ = some u := fun u v o o' o'' =>
    (World.cell?_alloc_lt _ _ _ (by simp; omega)).trans ((World.cell?_alloc_lt _ _ _ (by simp; omega)).trans ((World.cell?_alloc_lt _ _ _ (by simpa using hz2)).trans ((World.cell?_setCell_other _ ⟨w.heap.size + 1 + 1, 1, none⟩ ⟨w.heap.size + 1 + 1, 0, none⟩ _ (by simp)).trans (s0 u))))
  have t1 : ∀ u v o o' o'', (((((w2.setCell ⟨w.heap.size + 1 + 1, 0, none⟩ u).setCell ⟨w.heap.size + 1 + 1, 1, none⟩ v).alloc o).alloc o').alloc o'').cell? ⟨w.heap.size + 1 + 1, 1, none⟩ = some v := fun u v o o' o'' =>
    (World.cell?_alloc_lt _ _ _ (by simp; omega)).trans ((World.cell?_alloc_lt _ _ _ (by simp; omega)).trans ((World.cell?_alloc_lt _ _ _ (by simpa using hz2)).trans (s1 u v)))
  clear s0 s1
  go_wp2
  refine bodyPost_ret (v := .tuple #[certV 6 (some ⟨w2.heap.size + 1 + 1, 0, none⟩) 8 8, .int .i64 0]) (by simp [results, Try.results16, go_sem, t0, t1]; done) rfl ⟨_, _, rfl, ?_, ?_⟩
  · exact (Wr.lit' _ (xs := [n, d, p, q, a, b, c, e]) (by simp) rfl).more (by omega)
  · exact ext_alloc (ext_alloc (ext_alloc (ext_set (ext_set hbe.out (by simp; omega) _) (by simp; omega) _) _) _) _
set_option maxHeartbeats 1000000 in
theorem sProveBest_bad (n d p q k : Int) (b : Bool) (w : World) (h0 : k ≠ 0) (HI : Hid (∀ W, Calls Try.prog 79 #[fracV n d, fracV p q] W fun e w' => e = .returned (.tuple #[.bool b, .int .i64 k]) ∧ Below W.heap.size W w')) :
    Calls Try.prog 14 #[fracV n d, fracV p q] w (RetCertC w 0 [] k) := by
  have e1 : (k != 0) = true := by simpa using h0
  have e2 : (k == 0) = false := by simpa using h0
  clear h0
  unfold fracV at *
  go_enter Try.func14, Try.ntmps14
  go_wp2_with fail
  refine (HI.out _).mono ?_
  rintro e w1 ⟨rfl, hb1⟩
  have hz1 : w.heap.size + 1 + 1 < w1.heap.size := by have := hb1.size; simp at this; omega
  have m0 : w1.cell? ⟨w.heap.size + 1 + 1, 0, none⟩ = some (.int .i64 0) := (hb1.cell (p := ⟨w.heap.size + 1 + 1, 0, none⟩) (by simp)).trans (cell_three_3 w _ _ _ _ _ _ _)
  have m1 : w1.cell? ⟨w.heap.size + 1 + 1, 1, none⟩ = some (.slice none 0 0) := (hb1.cell (p := ⟨w.heap.size + 1 + 1, 1, none⟩) (by simp)).trans (cell_three_3 w _ _ _ _ _ _ _)
  have f0 : ∀ j, w1.frozen? ⟨w.heap.size + 1 + 1, j, none⟩ = false := fun j => (hb1.frozen (p := ⟨w.heap.size + 1 + 1, j, none⟩) (by simp)).trans (World.frozen?_alloc_at _ _ _ _ (by simp))
  have f00 := f0 0
  have f01 := f0 1
  obtain ⟨s0, s1⟩ := set_two m0 m1
  have hbe := Lib.hid (ext_trans (ext_alloc (ext_alloc (ext1 _ _) _) _) hb1)
  clear f0 hb1
  go_wp2
  exact bodyPost_ret (v := .tuple #[certV 0 none 0 0, .int .i64 k]) (by simp [results, Try.results14, go_sem, s0, s1]; done) rfl ⟨none, 0, rfl, fun h => absurd h (by simp), ext_set (ext_set hbe.out (by simp; omega) _) (by simp; omega) _⟩
set_option maxHeartbeats 1000000 in
theorem sProveBest_no (n d p q : Int) (w : World) (HI : Hid (∀ W, Calls Try.prog 79 #[fracV n d, fracV p q] W fun e w' => e = .returned (.tuple #[.bool false, .int .i64 0]) ∧ Below W.heap.size W w')) :
    Calls Try.prog 14 #[fracV n d, fracV p q] w (RetCertC w 0 [] 3) := by
  unfold fracV at *
  go_enter Try.func14, Try.ntmps14
  go_wp2_with fail
  refine (HI.out _).mono ?_
  rintro e w1 ⟨rfl, hb1⟩
  have hz1 : w.heap.size + 1 + 1 < w1.heap.size := by have := hb1.size; simp at this; omega
  have m0 : w1.cell? ⟨w.heap.size + 1 + 1, 0, none⟩ = some (.int .i64 0) := (hb1.cell (p := ⟨w.heap.size + 1 + 1, 0, none⟩) (by simp)).trans (cell_three_3 w _ _ _ _ _ _ _)
  have m1 : w1.cell? ⟨w.heap.size + 1 + 1, 1, none⟩ = some (.slice none 0 0) := (hb1.cell (p := ⟨w.heap.size + 1 + 1, 1, none⟩) (by simp)).trans (cell_three_3 w _ _ _ _ _ _ _)
  have f0 : ∀ j, w1.frozen? ⟨w.heap.size + 1 + 1, j, none⟩ = false := fun j => (hb1.frozen (p := ⟨w.heap.size + 1 + 1, j, none⟩) (by simp)).trans (World.frozen?_alloc_at _ _ _ _ (by simp))
  have f00 := f0 0
  have f01 := f0 1
  obtain ⟨s0, s1⟩ := set_two m0 m1
  have hbe := Lib.hid (ext_trans (ext_alloc (ext_alloc (ext1 _ _) _) _) hb1)
  clear f0 hb1
  go_wp2
  exact bodyPost_ret (v := .tuple #[certV 0 none 0 0, .int .i64 3]) (by simp [results, Try.results14, go_sem, s0, s1]; done) rfl ⟨none, 0, rfl, fun h => absurd h (by simp), ext_set (ext_set hbe.out (by simp; omega) _) (by simp; omega) _⟩
set_option maxHeartbeats 1000000 in
theorem sProveBest_yes (n d p q a b c e : Int) (w : World) (HI : Hid (∀ W, Calls Try.prog 79 #[fracV n d, fracV p q] W fun e w' => e = .returned (.tuple #[.bool true, .int .i64 0]) ∧ Below W.heap.size W w'))
    (HA : Hid (∀ W, Calls Try.prog 80 #[fracV n d, .int .i64 q] W fun x w' => x = .returned (.tuple #[fracV a b, fracV c e]) ∧ Below W.heap.size W w')) :
    Calls Try.prog 14 #[fracV n d, fracV p q] w (RetCertC w 6 [n, d, p, q, a, b, c, e] 0) := by
  unfold fracV at *
  have G1 := Lib.hid (((B2.new w n d 29).next (ext1 _ (.cells #[.int .i64 p, .int .i64 q] 29))).next (ext1 _ (.cells #[.int .i64 0, .slice none 0 0] 26)))
  have G2 := Lib.hid ((B2.new_at (g := w.heap.size + 1) (W := w.alloc (.cells #[.int .i64 n, .int .i64 d] 29)) p q 29 (by simp)).next (ext1 _ (.cells #[.int .i64 0, .slice none 0 0] 26)))
  go_enter Try.func14, Try.ntmps14
  go_wp2_with fail
  refine (HI.out _).mono ?_
  rintro x w1 ⟨rfl, hb1⟩
  have G1 := Lib.hid (G1.out.next hb1)
  have G2 := Lib.hid (G2.out.next hb1)
  have hz1 : w.heap.size + 1 + 1 < w1.heap.size := by have := hb1.size; simp at this; omega
  have m0 : w1.cell? ⟨w.heap.size + 1 + 1, 0, none⟩ = some (.int .i64 0) := (hb1.cell (p := ⟨w.heap.size + 1 + 1, 0, none⟩) (by simp)).trans (cell_three_3 w _ _ _ _ _ _ _)
  have m1 : w1.cell? ⟨w.heap.size + 1 + 1, 1, none⟩ = some (.slice none 0 0) := (hb1.cell (p := ⟨w.heap.size + 1 + 1, 1, none⟩) (by simp)).trans (cell_three_3 w _ _ _ _ _ _ _)
  have f0 : ∀ j, w1.frozen? ⟨w.heap.size + 1 + 1, j, none⟩ = false := fun j => (hb1.frozen (p := ⟨w.heap.size + 1 + 1, j, none⟩) (by simp)).trans (World.frozen?_alloc_at _ _ _ _ (by simp))
  have M := Lib.hid (And.intro m0 (And.intro m1 f0))
  have hbe := Lib.hid (ext_trans (ext_alloc (ext_alloc (ext1 _ _) _) _) hb1)
  clear f0 hb1 m0 m1
  obtain ⟨r0, r1, _, _⟩ := G1.out
  obtain ⟨x0, x1, _, _⟩ := G2.out
  go_wp2_with fail
  refine (HA.out _).mono ?_
  rintro x w2 ⟨rfl, hb⟩
  obtain ⟨m0, m1, mf⟩ := M.out
  have m0 := (hb.cell (p := ⟨w.heap.size + 1 + 1, 0, none⟩) hz1).trans m0
  have m1 := (hb.cell (p := ⟨w.heap.size + 1 + 1, 1, none⟩) hz1).trans m1
  have f00 := (hb.frozen (p := ⟨w.heap.size + 1 + 1, 0, none⟩) hz1).trans (mf 0)
  have f01 := (hb.frozen (p := ⟨w.heap.size + 1 + 1, 1, none⟩) hz1).trans (mf 1)
  have hz2 : w.heap.size + 1 + 1 < w2.heap.size := Nat.lt_of_lt_of_le hz1 hb.size
  have hz3 : w.heap.size + 1 < w2.heap.size := by omega
  have hz4 : w.heap.size < w2.heap.size := by omega
  clear r0 r1 x0 x1
  obtain ⟨r0, r1, _, _⟩ := G1.out.next hb
  obtain ⟨x0, x1, _, _⟩ := G2.out.next hb
  have hbe := Lib.hid (ext_trans hbe.out hb)
  clear hb mf hz1
  obtain ⟨s0, s1⟩ := set_two m0 m1
  have t0 : ∀ u v o o' o'', (((((w2.setCell ⟨w.heap.size + 1 + 1, 0, none⟩ u).setCell ⟨w.heap.size + 1 + 1, 1, none⟩ v).alloc o).alloc o').alloc o'').cell? ⟨w.heap.size + 1 + 1, 0, none⟩ = some u := fun u v o o' o'' =>
    (World.cell?_alloc_lt _ _ _ (by simp; omega)).trans ((World.cell?_alloc_lt _ _ _ (by simp; omega)).trans ((World.cell?_alloc_lt _ _ _ (by simpa using hz2)).trans ((World.cell?_setCell_other _ ⟨w.heap.size + 1 + 1, 1, none⟩ ⟨w.heap.size + 1 + 1, 0, none⟩ _ (by simp)).trans (s0 u))))
  have t1 : ∀ u v o o' o'', (((((w2.setCell ⟨w.heap.size + 1 + 1, 0, none⟩ u).setCell ⟨w.heap.size + 1 + 1, 1, none⟩ v).alloc o).alloc o').alloc o'').cell? ⟨w.heap.size + 1 + 1, 1, none⟩ = some v := fun u v o o' o'' =>
    (World.cell?_alloc_lt _ _ _ (by simp; omega)).trans ((World.cell?_alloc_lt _ _ _ (by simp; omega)).trans ((World.cell?_alloc_lt _ _ _ (by simpa using hz2)).trans (s1 u v)))
  clear s0 s1
  go_wp2
  refine bodyPost_ret (v := .tuple #[certV 6 (some ⟨w2.heap.size + 1 + 1, 0, none⟩) 8 8, .int .i64 0]) (by simp [results, Try.results14, go_sem, t0, t1]; done) rfl ⟨_, _, rfl, ?_, ?_⟩
  · exact (Wr.lit' _ (xs := [n, d, p, q, a, b, c, e]) (by simp) rfl).more (by omega)
  · exact ext_alloc (ext_alloc (ext_alloc (ext_set (ext_set hbe.out (by simp; omega) _) (by simp; omega) _) _) _) _
theorem bestC_zero {n d p q : Int} (h : bestC true [(n, d), (p, q)] = 0) : fracOk n d = true ∧ smallB n d = true ∧ fracOk p q = true ∧ smallB p q = true := by
  unfold bestC at h
  split at h
  · rename_i h1
    split at h
    · rename_i h2
      simp at h1 h2
      exact ⟨h1.1, h2.1, h1.2, h2.2⟩
    · cases h
  · cases h
/-- Both prove the same. -/
theorem proveBest_same (n d p q : Int) : ∃ (kk : Int) (xs : List Int) (code : Int), Hid (∀ W, Calls Try.prog 14 #[fracV n d, fracV p q] W (RetCertC W kk xs code)) ∧ Hid (∀ W, Calls Try.prog 16 #[fracV n d, fracV p q] W (RetCertC W kk xs code)) ∧ xs.length ≤ 8 := by
  by_cases h0 : bestC true [(n, d), (p, q)] = 0
  · obtain ⟨f1, s1, f2, s2⟩ := bestC_zero h0
    obtain ⟨n1, n2, d1, d2⟩ := small_bd s1 f1
    obtain ⟨p1, p2, q1, q2⟩ := small_bd s2 f2
    have : ∃ (b : Bool) (x y z u : Int), Hid (∀ W, Calls Try.prog 154 #[fracV n d, fracV p q] W fun e w' => e = .returned (.bool b) ∧ Below W.heap.size W w') ∧ Hid (∀ W, Calls Try.prog 158 #[fracV n d, fracV p q] W fun e w' => e = .returned (.bool b) ∧ Below W.heap.size W w') ∧
        Hid (∀ W, Calls Try.prog 80 #[fracV n d, .int .i64 q] W fun e w' => e = .returned (.tuple #[fracV x y, fracV z u]) ∧ Below W.heap.size W w') ∧ Hid (∀ W, Calls Try.prog 82 #[fracV n d, .int .i64 q] W fun e w' => e = .returned (.tuple #[fracV x y, fracV z u]) ∧ Below W.heap.size W w') := by
      by_cases hd : d ≤ q
      · exact ⟨_, _, _, _, _, (l18First_near n d p q · hd), (isBestFirst_near n d p q · hd s1 f1), (l18Sides_near n d q · hd), (around_near n d q · hd)⟩
      · have F : Fr n d q := ⟨n1, n2, d2, q1, by omega, (fracOk_true.1 f1).2.2.2.2⟩
        obtain ⟨A, B, C, E, S⟩ := sides_ex F
        exact ⟨_, _, _, _, _, (l18First_far n d p q A B C E · F S), (isBestFirst_far n d p q A B C E · F S), (l18Sides_far n d q A B C E · F S), (around_far n d q A B C E · F S)⟩
    obtain ⟨b, x, y, z, u, h1, h2, h3, h4⟩ := this
    cases b
    · exact ⟨0, [], 3, fun W => sProveBest_no n d p q W (fun W => sIsBestFirst_is_good n d p q _ W h0 h1), fun W => iProveBest_no n d p q W (fun W => iIsBestFirst_is_good n d p q _ W h0 h2), by simp⟩
    · exact ⟨6, [n, d, p, q, x, y, z, u], 0, fun W => sProveBest_yes n d p q x y z u W (fun W => sIsBestFirst_is_good n d p q _ W h0 h1) h3, fun W => iProveBest_yes n d p q x y z u W (fun W => iIsBestFirst_is_good n d p q _ W h0 h2) h4, by simp⟩
  · exact ⟨0, [], _, fun W => sProveBest_bad n d p q _ false W h0 (fun W => sIsBestFirst_is_bad n d p q _ W rfl h0), fun W => iProveBest_bad n d p q _ false W h0 (fun W => iIsBestFirst_is_bad n d p q _ W rfl h0), by simp⟩
end Go.Proofs.Ytnpdpippnhikkaa
