/- Parts of the proof, merged: ProveBW CheckDW. No condition but those that each theorem names. -/
import Derived.Test.YtpgkellmhlmjeaaGreatDoorMgAO
import Derived.Test.YtpgkellmhlmjeaaGreatDoorMgAM
namespace Go.Proofs.YtpgkellmhlmjeaaGreatDoor
open Go.RowKit Go.Sort
set_option maxHeartbeats 1000000 in
theorem iIsBestFirst_is_bad (n d p q k : Int) (w : World) (hk : bestC true [(n, d), (p, q)] = k) (h0 : k ≠ 0) :
    Calls Tryz.prog 61 #[fracV n d, fracV p q] w fun e w' => e = .returned (.tuple #[.bool false, .int .i64 k]) ∧ Below w.heap.size w w' := by
  have HK : Hid (∀ (W : World) (g c : Nat), g = W.heap.size → Calls Tryz.prog 73 #[.bool true, .slice (some ⟨g, 0, none⟩) 2 c] (W.alloc (.cells #[.int .i64 n, .int .i64 d, .int .i64 p, .int .i64 q] 41)) fun e w' => e = .returned (.int .i64 k) ∧ Below (W.alloc (.cells #[.int .i64 n, .int .i64 d, .int .i64 p, .int .i64 q] 41)).heap.size (W.alloc (.cells #[.int .i64 n, .int .i64 d, .int .i64 p, .int .i64 q] 41)) w') := fun W g c hg => by
    have := checkBest_any true (some ⟨g, 0, none⟩) c [(n, d), (p, q)] (W.alloc (.cells #[.int .i64 n, .int .i64 d, .int .i64 p, .int .i64 q] 41)) (Wr.lit' W hg rfl).rd (by simp)
    rw [hk] at this
    exact this
  clear hk
  have e1 : (k != 0) = true := by simpa using h0
  have e2 : (k == 0) = false := by simpa using h0
  clear h0
  unfold fracV
  go_enter Tryz.func61, Tryz.ntmps61
  go_wp2_with fail
  refine (HK.out _ _ _ (by simp)).mono ?_
  rintro e w1 ⟨rfl, hb⟩
  go_wp2
  go_ret2
  exact ⟨rfl, ext_trans (ext_alloc (ext_alloc (ext1 _ _) _) _) hb⟩
set_option maxHeartbeats 1000000 in
theorem iIsBestFirst_is_good (n d p q : Int) (b : Bool) (w : World) (hk : bestC true [(n, d), (p, q)] = 0) (HB : Hid (∀ W, Calls Tryz.prog 105 #[fracV n d, fracV p q] W fun e w' => e = .returned (.bool b) ∧ Below W.heap.size W w')) :
    Calls Tryz.prog 61 #[fracV n d, fracV p q] w fun e w' => e = .returned (.tuple #[.bool b, .int .i64 0]) ∧ Below w.heap.size w w' := by
  have HK : Hid (∀ (W : World) (g c : Nat), g = W.heap.size → Calls Tryz.prog 73 #[.bool true, .slice (some ⟨g, 0, none⟩) 2 c] (W.alloc (.cells #[.int .i64 n, .int .i64 d, .int .i64 p, .int .i64 q] 41)) fun e w' => e = .returned (.int .i64 0) ∧ Below (W.alloc (.cells #[.int .i64 n, .int .i64 d, .int .i64 p, .int .i64 q] 41)).heap.size (W.alloc (.cells #[.int .i64 n, .int .i64 d, .int .i64 p, .int .i64 q] 41)) w') := fun W g c hg => by
    have := checkBest_any true (some ⟨g, 0, none⟩) c [(n, d), (p, q)] (W.alloc (.cells #[.int .i64 n, .int .i64 d, .int .i64 p, .int .i64 q] 41)) (Wr.lit' W hg rfl).rd (by simp)
    rw [hk] at this
    exact this
  clear hk
  unfold fracV at *
  have G1 := Lib.hid (((B2.new w n d 41).next (ext1 _ (.cells #[.int .i64 p, .int .i64 q] 41))).next (ext1 _ (.cells #[.int .i64 n, .int .i64 d, .int .i64 p, .int .i64 q] 41)))
  have G2 := Lib.hid ((B2.new_at (g := w.heap.size + 1) (W := w.alloc (.cells #[.int .i64 n, .int .i64 d] 41)) p q 41 (by simp)).next (ext1 _ (.cells #[.int .i64 n, .int .i64 d, .int .i64 p, .int .i64 q] 41)))
  go_enter Tryz.func61, Tryz.ntmps61
  go_wp2_with fail
  refine (HK.out _ _ _ (by simp)).mono ?_
  rintro e w1 ⟨rfl, hb⟩
  obtain ⟨r0, r1, _, _⟩ := G1.out.next hb
  obtain ⟨x0, x1, _, _⟩ := G2.out.next hb
  have hbe := Lib.hid (ext_trans (ext_alloc (ext_alloc (ext1 _ _) _) _) hb)
  clear hb
  go_wp2_with fail
  refine (HB.out _).mono ?_
  rintro e w2 ⟨rfl, hb⟩
  go_wp2
  go_ret2
  exact ⟨rfl, ext_trans hbe.out hb⟩
set_option maxHeartbeats 1000000 in
theorem sIsBestFirst_is_bad (n d p q k : Int) (w : World) (hk : bestC true [(n, d), (p, q)] = k) (h0 : k ≠ 0) :
    Calls Tryz.prog 14 #[fracV n d, fracV p q] w fun e w' => e = .returned (.tuple #[.bool false, .int .i64 k]) ∧ Below w.heap.size w w' := by
  have HK : Hid (∀ (W : World) (g c : Nat), g = W.heap.size → Calls Tryz.prog 44 #[.slice (some ⟨g, 0, none⟩) 2 c] (W.alloc (.cells #[.int .i64 n, .int .i64 d, .int .i64 p, .int .i64 q] 41)) fun e w' => e = .returned (.int .i64 k) ∧ Below (W.alloc (.cells #[.int .i64 n, .int .i64 d, .int .i64 p, .int .i64 q] 41)).heap.size (W.alloc (.cells #[.int .i64 n, .int .i64 d, .int .i64 p, .int .i64 q] 41)) w') := fun W g c hg => by
    have := l18Code_any (some ⟨g, 0, none⟩) c [(n, d), (p, q)] (W.alloc (.cells #[.int .i64 n, .int .i64 d, .int .i64 p, .int .i64 q] 41)) (Wr.lit' W hg rfl).rd (by simp)
    rw [hk] at this
    exact this
  clear hk
  have e1 : (k != 0) = true := by simpa using h0
  have e2 : (k == 0) = false := by simpa using h0
  clear h0
  unfold fracV
  go_enter Tryz.func14, Tryz.ntmps14
  go_wp2_with fail
  refine (HK.out _ _ _ (by simp)).mono ?_
  rintro e w1 ⟨rfl, hb⟩
  go_wp2
  go_ret2
  exact ⟨rfl, ext_trans (ext_alloc (ext_alloc (ext1 _ _) _) _) hb⟩
set_option maxHeartbeats 1000000 in
theorem sIsBestFirst_is_good (n d p q : Int) (b : Bool) (w : World) (hk : bestC true [(n, d), (p, q)] = 0) (HB : Hid (∀ W, Calls Tryz.prog 45 #[fracV n d, fracV p q] W fun e w' => e = .returned (.bool b) ∧ Below W.heap.size W w')) :
    Calls Tryz.prog 14 #[fracV n d, fracV p q] w fun e w' => e = .returned (.tuple #[.bool b, .int .i64 0]) ∧ Below w.heap.size w w' := by
  have HK : Hid (∀ (W : World) (g c : Nat), g = W.heap.size → Calls Tryz.prog 44 #[.slice (some ⟨g, 0, none⟩) 2 c] (W.alloc (.cells #[.int .i64 n, .int .i64 d, .int .i64 p, .int .i64 q] 41)) fun e w' => e = .returned (.int .i64 0) ∧ Below (W.alloc (.cells #[.int .i64 n, .int .i64 d, .int .i64 p, .int .i64 q] 41)).heap.size (W.alloc (.cells #[.int .i64 n, .int .i64 d, .int .i64 p, .int .i64 q] 41)) w') := fun W g c hg => by
    have := l18Code_any (some ⟨g, 0, none⟩) c [(n, d), (p, q)] (W.alloc (.cells #[.int .i64 n, .int .i64 d, .int .i64 p, .int .i64 q] 41)) (Wr.lit' W hg rfl).rd (by simp)
    rw [hk] at this
    exact this
  clear hk
  unfold fracV at *
  have G1 := Lib.hid (((B2.new w n d 41).next (ext1 _ (.cells #[.int .i64 p, .int .i64 q] 41))).next (ext1 _ (.cells #[.int .i64 n, .int .i64 d, .int .i64 p, .int .i64 q] 41)))
  have G2 := Lib.hid ((B2.new_at (g := w.heap.size + 1) (W := w.alloc (.cells #[.int .i64 n, .int .i64 d] 41)) p q 41 (by simp)).next (ext1 _ (.cells #[.int .i64 n, .int .i64 d, .int .i64 p, .int .i64 q] 41)))
  go_enter Tryz.func14, Tryz.ntmps14
  go_wp2_with fail
  refine (HK.out _ _ _ (by simp)).mono ?_
  rintro e w1 ⟨rfl, hb⟩
  obtain ⟨r0, r1, _, _⟩ := G1.out.next hb
  obtain ⟨x0, x1, _, _⟩ := G2.out.next hb
  have hbe := Lib.hid (ext_trans (ext_alloc (ext_alloc (ext1 _ _) _) _) hb)
  clear hb
  go_wp2_with fail
  refine (HB.out _).mono ?_
  rintro e w2 ⟨rfl, hb⟩
  go_wp2
  go_ret2
  exact ⟨rfl, ext_trans hbe.out hb⟩
set_option maxHeartbeats 1000000 in
theorem iProveBest_bad (n d p q k : Int) (b : Bool) (w : World) (h0 : k ≠ 0) (HI : Hid (∀ W, Calls Tryz.prog 61 #[fracV n d, fracV p q] W fun e w' => e = .returned (.tuple #[.bool b, .int .i64 k]) ∧ Below W.heap.size W w')) :
    Calls Tryz.prog 25 #[fracV n d, fracV p q] w (RetCertC w 0 [] k) := by
  have e1 : (k != 0) = true := by simpa using h0
  have e2 : (k == 0) = false := by simpa using h0
  clear h0
  unfold fracV at *
  go_enter Tryz.func25, Tryz.ntmps25
  go_wp2_with fail
  refine (HI.out _).mono ?_
  rintro e w1 ⟨rfl, hb1⟩
  have hz1 : w.heap.size + 1 + 1 < w1.heap.size := by have := hb1.size; simp at this; omega
  have m0 : w1.cell? ⟨w.heap.size + 1 + 1, 0, none⟩ = some (.int .i64 0) := (hb1.cell (p := ⟨w.heap.size + 1 + 1, 0, none⟩) (by simp)).trans (cell_three_3 w _ _ _ _ _ _ _)
  have m1 : w1.cell? ⟨w.heap.size + 1 + 1, 1, none⟩ = some (.slice none 0 0) := (hb1.cell (p := ⟨w.heap.size + 1 + 1, 1, none⟩) (by simp)).trans (cell_three_3 w _ _ _ _ _ _ _)
  have f0 : ∀ j, w1.frozen? ⟨w.heap.size + 1 + 1, j, none⟩ = false := fun j => (hb1.frozen (p := ⟨w.heap.size + 1 + 1, j, none⟩) (by simp)).trans (World.frozen?_alloc_at _ _ _ _ (by simp))
  have f00 := f0 0
  have f01 := f0 1
  obtain ⟨s0, s1⟩ := set_two m0 m1
  have hbe := Lib.hid (ext_trans (ext_alloc (ext_alloc (ext1 _ _) _) _) hb1)
  clear f0 hb1
  go_wp2
  exact bodyPost_ret (v := .tuple #[certV 0 none 0 0, .int .i64 k]) (by simp [results, Tryz.results25, go_sem, s0, s1]; done) rfl ⟨none, 0, rfl, fun h => absurd h (by simp), ⟨Nat.le_refl _, Nat.zero_le _⟩, ext_set (ext_set hbe.out (by simp; omega) _) (by simp; omega) _⟩
set_option maxHeartbeats 1000000 in
theorem iProveBest_no (n d p q : Int) (w : World) (HI : Hid (∀ W, Calls Tryz.prog 61 #[fracV n d, fracV p q] W fun e w' => e = .returned (.tuple #[.bool false, .int .i64 0]) ∧ Below W.heap.size W w')) :
    Calls Tryz.prog 25 #[fracV n d, fracV p q] w (RetCertC w 0 [] 3) := by
  unfold fracV at *
  go_enter Tryz.func25, Tryz.ntmps25
  go_wp2_with fail
  refine (HI.out _).mono ?_
  rintro e w1 ⟨rfl, hb1⟩
  have hz1 : w.heap.size + 1 + 1 < w1.heap.size := by have := hb1.size; simp at this; omega
  have m0 : w1.cell? ⟨w.heap.size + 1 + 1, 0, none⟩ = some (.int .i64 0) := (hb1.cell (p := ⟨w.heap.size + 1 + 1, 0, none⟩) (by simp)).trans (cell_three_3 w _ _ _ _ _ _ _)
  have m1 : w1.cell? ⟨w.heap.size + 1 + 1, 1, none⟩ = some (.slice none 0 0) := (hb1.cell (p := ⟨w.heap.size + 1 + 1, 1, none⟩) (by simp)).trans (cell_three_3 w _ _ _ _ _ _ _)
  have f0 : ∀ j, w1.frozen? ⟨w.heap.size + 1 + 1, j, none⟩ = false := fun j => (hb1.frozen (p := ⟨w.heap.size + 1 + 1, j, none⟩) (by simp)).trans (World.frozen?_alloc_at _ _ _ _ (by simp))
  have f00 := f0 0
  have f01 := f0 1
  obtain ⟨s0, s1⟩ := set_two m0 m1
  have hbe := Lib.hid (ext_trans (ext_alloc (ext_alloc (ext1 _ _) _) _) hb1)
  clear f0 hb1
  go_wp2
  exact bodyPost_ret (v := .tuple #[certV 0 none 0 0, .int .i64 3]) (by simp [results, Tryz.results25, go_sem, s0, s1]; done) rfl ⟨none, 0, rfl, fun h => absurd h (by simp), ⟨Nat.le_refl _, Nat.zero_le _⟩, ext_set (ext_set hbe.out (by simp; omega) _) (by simp; omega) _⟩
set_option maxHeartbeats 1000000 in
theorem iProveBest_yes (n d p q a b c e : Int) (w : World) (HI : Hid (∀ W, Calls Tryz.prog 61 #[fracV n d, fracV p q] W fun e w' => e = .returned (.tuple #[.bool true, .int .i64 0]) ∧ Below W.heap.size W w'))
    (HA : Hid (∀ W, Calls Tryz.prog 62 #[fracV n d, .int .i64 q] W fun x w' => x = .returned (.tuple #[fracV a b, fracV c e]) ∧ Below W.heap.size W w')) :
    Calls Tryz.prog 25 #[fracV n d, fracV p q] w (RetCertC w 6 [n, d, p, q, a, b, c, e] 0) := by
  unfold fracV at *
  have G1 := Lib.hid (((B2.new w n d 41).next (ext1 _ (.cells #[.int .i64 p, .int .i64 q] 41))).next (ext1 _ (.cells #[.int .i64 0, .slice none 0 0] 26)))
  have G2 := Lib.hid ((B2.new_at (g := w.heap.size + 1) (W := w.alloc (.cells #[.int .i64 n, .int .i64 d] 41)) p q 41 (by simp)).next (ext1 _ (.cells #[.int .i64 0, .slice none 0 0] 26)))
  go_enter Tryz.func25, Tryz.ntmps25
  go_wp2_with fail
  refine (HI.out _).mono ?_
  rintro x w1 ⟨rfl, hb1⟩
  have G1 := Lib.hid (G1.out.next hb1)
  have G2 := Lib.hid (G2.out.next hb1)
  have hz1 : w.heap.size + 1 + 1 < w1.heap.size := by have := hb1.size; simp at this; omega
  have m0 : w1.cell? ⟨w.heap.size + 1 + 1, 0, none⟩ = some (.int .i64 0) := (hb1.cell (p := ⟨w.heap.size + 1 + 1, 0, none⟩) (by simp)).trans (cell_three_3 w _ _ _ _ _ _ _)
  have m1 : w1.cell? ⟨w.heap.size + 1 + 1, 1, none⟩ = some (.slice none 0 0) := (hb1.cell (p := ⟨w.heap.size + 1 + 1, 1, none⟩) (by simp)).trans (cell_three_3 w _ _ _ _ _ _ _)
  have f0 : ∀ j, w1.frozen? ⟨w.heap.size + 1 + 1, j, none⟩ = false := fun j => (hb1.frozen (p := ⟨w.heap.size + 1 + 1, j, none⟩) (by simp)).trans (World.frozen?_alloc_at _ _ _ _ (by simp))
  have M := Lib.hid (And.intro m0 (And.intro m1 f0))
  have hbe := Lib.hid (ext_trans (ext_alloc (ext_alloc (ext1 _ _) _) _) hb1)
  clear f0 hb1 m0 m1
  obtain ⟨r0, r1, _, _⟩ := G1.out
  obtain ⟨x0, x1, _, _⟩ := G2.out
  go_wp2_with fail
  refine (HA.out _).mono ?_
  rintro x w2 ⟨rfl, hb⟩
  obtain ⟨m0, m1, mf⟩ := M.out
  have m0 := (hb.cell (p := ⟨w.heap.size + 1 + 1, 0, none⟩) hz1).trans m0
  have m1 := (hb.cell (p := ⟨w.heap.size + 1 + 1, 1, none⟩) hz1).trans m1
  have f00 := (hb.frozen (p := ⟨w.heap.size + 1 + 1, 0, none⟩) hz1).trans (mf 0)
  have f01 := (hb.frozen (p := ⟨w.heap.size + 1 + 1, 1, none⟩) hz1).trans (mf 1)
  have hz2 : w.heap.size + 1 + 1 < w2.heap.size := Nat.lt_of_lt_of_le hz1 hb.size
  have hz3 : w.heap.size + 1 < w2.heap.size := by omega
  have hz4 : w.heap.size < w2.heap.size := by omega
  clear r0 r1 x0 x1
  obtain ⟨r0, r1, _, _⟩ := G1.out.next hb
  obtain ⟨x0, x1, _, _⟩ := G2.out.next hb
  have hbe := Lib.hid (ext_trans hbe.out hb)
  clear hb mf hz1
  obtain ⟨s0, s1⟩ := set_two m0 m1
  have t0 : ∀ u v o o' o'', (((((w2.setCell ⟨w.heap.size + 1 + 1, 0, none⟩ u).setCell ⟨w.heap.size + 1 + 1, 1, none⟩ v).alloc o).alloc o').alloc o'').cell? ⟨w.heap.size + 1 + 1, 0, none⟩ = some u := fun u v o o' o'' =>
    (World.cell?_alloc_lt _ _ _ (by simp; omega)).trans ((World.cell?_alloc_lt _ _ _ (by simp; omega)).trans ((World.cell?_alloc_lt _ _ _ (by simpa using hz2)).trans ((World.cell?_setCell_other _ ⟨w.heap.size + 1 + 1, 1, none⟩ ⟨w.heap.size + 1 + 1, 0, none⟩ _ (by simp)).trans (s0 u))))
  have t1 : ∀ u v o o' o'', (((((w2.setCell ⟨w.heap.size + 1 + 1, 0, none⟩ u).setCell ⟨w.heap.size + 1 + 1, 1, none⟩ v).alloc o).alloc o').alloc o'').cell? ⟨w.heap.size + 1 + 1, 1, none⟩ = some v := fun u v o o' o'' =>
    (World.cell?_alloc_lt _ _ _ (by simp; omega)).trans ((World.cell?_alloc_lt _ _ _ (by simp; omega)).trans ((World.cell?_alloc_lt _ _ _ (by simpa using hz2)).trans (s1 u v)))
  clear s0 s1
  go_wp2
  refine bodyPost_ret (v := .tuple #[certV 6 (some ⟨w2.heap.size + 1 + 1, 0, none⟩) 8 8, .int .i64 0]) (by simp [results, Tryz.results25, go_sem, t0, t1]; done) rfl ⟨_, _, rfl, ?_, ⟨by simp, by unfold maxLen; omega⟩, ?_⟩
  · exact (Wr.lit' _ (xs := [n, d, p, q, a, b, c, e]) (by simp) rfl).more (by omega)
  · exact ext_alloc (ext_alloc (ext_alloc (ext_set (ext_set hbe.out (by simp; omega) _) (by simp; omega) _) _) _) _
theorem bestC_zero {n d p q : Int} (h : bestC true [(n, d), (p, q)] = 0) : fracOk n d = true ∧ smallFB n d = true ∧ fracOk p q = true ∧ smallFB p q = true := by
  unfold bestC at h
  split at h
  · rename_i h1
    split at h
    · rename_i h2
      simp at h1 h2
      exact ⟨h1.1, h2.1, h1.2, h2.2⟩
    · cases h
  · cases h
end Go.Proofs.YtpgkellmhlmjeaaGreatDoor
namespace Go.Proofs.YtpgkellmhlmjeaaGreatDoor
open Go.RowKit Go.Sort
/-- What the product of the matrices of terms returns. -/
def RetMx (w : World) (R : Option (Int × Int)) (e : Ending) (w' : World) : Prop :=
  ∃ p q x y, e = .returned (.tuple #[cvV p q x y, .bool R.isSome]) ∧ (∀ a b, R = some (a, b) → p = a ∧ q = b) ∧ Below w.heap.size w w'
set_option maxRecDepth 100000 in
set_option maxHeartbeats 4000000 in
theorem l08Matrix_any (A : Option Addr) (c : Nat) (ts : List Int) (w : World) (hx : Rd (Value.int .i64) w w.heap.size A ts) (hl : ts.length ≤ 1000) (hb : ∀ t ∈ ts, bil t) :
    Calls Tryz.prog 127 #[.slice A ts.length c] w (RetMx w (mtxLast ts)) := by
  obtain ⟨U, hU⟩ : ∃ U, mtxLast ts = U := ⟨_, rfl⟩
  have HU0 : Hid (mtx (ts.drop 0) 1 0 0 1 = U) := hU
  rw [hU]
  have HX := Lib.hid hx
  have HB := Lib.hid hb
  clear hU hx hb
  have Z0 := Lib.hid (BoxV.new w #[.int .i64 0, .int .i64 0, .int .i64 0, .int .i64 0] 111)
  have E0 := Lib.hid (ext1 w (.cells #[.int .i64 0, .int .i64 0, .int .i64 0, .int .i64 0] 111))
  go_enter Tryz.func127, Tryz.ntmps127
  go_wp2_with fail
  refine (l03New_any _).mono ?_
  rintro e w3 ⟨rfl, hb3⟩
  have B3 := Lib.hid ((Z0.out.next hb3).alloc (.cells #[.int .i64 1, .int .i64 0, .int .i64 0, .int .i64 1] 111))
  have HB3 := Lib.hid (ext_alloc (ext_trans E0.out hb3) (.cells #[.int .i64 1, .int .i64 0, .int .i64 0, .int .i64 1] 111))
  have K3 := Lib.hid (BoxV.new w3 #[.int .i64 1, .int .i64 0, .int .i64 0, .int .i64 1] 111)
  have hwq : w.heap.size < w3.heap.size := (Z0.out.next hb3).lt
  unfold cvV
  clear hb3 Z0 E0
  go_wp2_with fail
  generalize hW0 : w3.alloc (.cells #[.int .i64 1, .int .i64 0, .int .i64 0, .int .i64 1] 111) = W0 at *
  clear hW0
  generalize w3.heap.size = q at *
  have hqW : q < W0.heap.size := K3.out.lt
  go_loopw [5] (fun t wr => ∃ (k : Nat) (x y x0 y0 : Int), k ≤ ts.length ∧ t = .int .i64 k ∧ BoxV q [.int .i64 x, .int .i64 y, .int .i64 x0, .int .i64 y0] wr ∧ Hid (bil x ∧ bil y ∧ bil x0 ∧ bil y0) ∧ Hid (mtx (ts.drop k) x y x0 y0 = U) ∧ Below q W0 wr) (fun t _ => ts.length - (intOf t).toNat)
  case atStart => exact ⟨0, 1, 0, 0, 1, by omega, rfl, K3.out, ⟨⟨by omega, by omega⟩, ⟨by omega, by omega⟩, ⟨by omega, by omega⟩, ⟨by omega, by omega⟩⟩, HU0.out, Below.refl _ _⟩
  case round =>
    obtain ⟨k, x, y, x0, y0, hk, rfl, HK, HBD, HU, hbe⟩ := hrel
    clear HU0 K3
    have z0 := HK.at 0 _ rfl
    have z1 := HK.at 1 _ rfl
    have z2 := HK.at 2 _ rfl
    have z3 := HK.at 3 _ rfl
    have HBR0 : Hid (Below w.heap.size w wr) := HB3.out.trans (hbe.mono (by omega))
    have BR0 := Lib.hid (B3.out.under hbe hwq)
    by_cases hlt : k < ts.length
    · obtain ⟨b, off, rfl, hbl, hc⟩ := HX.out (by omega)
      obtain ⟨t, htk⟩ : ∃ t, ts[k]? = some t := ⟨_, List.getElem?_eq_getElem hlt⟩
      have c0 := (HBR0.out.cell (p := ⟨b, off + k, none⟩) hbl).trans (hc k t htk)
      obtain ⟨t3, t4⟩ := HB.out t (List.mem_of_getElem? htk)
      have HS := Lib.hid (mtx_step (p := x) (q := y) (x := x0) (y := y0) htk)
      have hs8 := Lib.hid (fun W : World => l08Step_any x y x0 y0 t W HBD.out.1 HBD.out.2.1 HBD.out.2.2.1 HBD.out.2.2.2 ⟨by omega, by omega⟩)
      have i0 : (0 : Int) ≤ (k : Int) := by omega
      have i1 : (k : Int) < (ts.length : Int) := by omega
      unfold cvV at hs8
      have HSB : Hid (smB (t * x + x0) (t * y + y0) = true → bil (t * x + x0) ∧ bil (t * y + y0)) := fun h => by
        obtain ⟨e1, e2⟩ := smB_true.1 h
        exact ⟨⟨by omega, by omega⟩, ⟨by omega, by omega⟩⟩
      have HK6 : Hid (∀ W', Below wr.heap.size wr W' → W'.cell? ⟨q, 0, none⟩ = some (.int .i64 x) ∧ W'.cell? ⟨q, 1, none⟩ = some (.int .i64 y) ∧ W'.cell? ⟨q, 2, none⟩ = some (.int .i64 x0) ∧ W'.cell? ⟨q, 3, none⟩ = some (.int .i64 y0) ∧ W'.cell? ⟨b, off + k, none⟩ = some (.int .i64 t)) := fun W' hb => by
        have hq := HK.next hb
        exact ⟨hq.at 0 _ rfl, hq.at 1 _ rfl, hq.at 2 _ rfl, hq.at 3 _ rfl, (hb.cell (p := ⟨b, off + k, none⟩) (Nat.lt_of_lt_of_le hbl HBR0.out.size)).trans c0⟩
      generalize t * x + x0 = a at *
      generalize t * y + y0 = b' at *
      generalize hsm : smB a b' = sm at *
      clear htk hc
      go_upto_region 5 with fail
      go_cut [6, 7] (fun u v wx => ∃ g5, u = .pointer (some ⟨g5, 0, none⟩) ∧ v = .bool sm ∧ BoxV g5 [.int .i64 a, .int .i64 b', .int .i64 x, .int .i64 y] wx ∧ Below wr.heap.size wr wx ∧ wr.heap.size ≤ g5)
      case first =>
        go_region_held3 (fun w' => w'.cell? ⟨q, 0, none⟩ = some (.int .i64 x) ∧ w'.cell? ⟨q, 1, none⟩ = some (.int .i64 y) ∧ w'.cell? ⟨q, 2, none⟩ = some (.int .i64 x0) ∧ w'.cell? ⟨q, 3, none⟩ = some (.int .i64 y0) ∧ w'.cell? ⟨b, off + k, none⟩ = some (.int .i64 t))
          (first | exact HK6.out _ (by repeat (first | exact Below.refl _ _ | assumption | refine ext_set ?_ (by simp <;> omega) _ | refine ext_alloc ?_ _ | refine ext_drew ?_ | refine ext_trans ?_ (by assumption))))
          (first | (go_at_call 89; (with_reducible refine (hs8.out _).mono ?_); rintro e w5 ⟨rfl, hb5⟩; have y5 := hb5.size; (try simp at y5); (try have m0 := (hb5.cell (p := ⟨wr.heap.size, 0, none⟩) (by simp)).trans (cell_one wr.drew _ _ _)); (try have m1 := (hb5.cell (p := ⟨wr.heap.size, 1, none⟩) (by simp)).trans (cell_one wr.drew _ _ _)); (try have m2 := (hb5.cell (p := ⟨wr.heap.size, 2, none⟩) (by simp)).trans (cell_one wr.drew _ _ _)); (try have m3 := (hb5.cell (p := ⟨wr.heap.size, 3, none⟩) (by simp)).trans (cell_one wr.drew _ _ _)); (try have f0 := (hb5.frozen (p := ⟨wr.heap.size, 0, none⟩) (by simp)).trans (World.frozen?_alloc_at wr.drew _ _ _ rfl)); obtain ⟨hc5, hf5⟩ := bcell hb5))
        all_goals go_wp2_with fail
        all_goals go_meet
        all_goals first
          | exact ⟨w5.heap.size, rfl, rfl, BoxV.new w5 #[.int .i64 a, .int .i64 b', .int .i64 x, .int .i64 y] _, ext_alloc (ext_trans (ext_drew (Below.refl _ _)) hb5) _, by simpa using y5⟩
          | exact ⟨wr.heap.size, rfl, rfl, by simpa using (((((BoxV.new wr.drew #[.int .i64 0, .int .i64 0, .int .i64 0, .int .i64 0] _).next hb5).set 0 (.int .i64 a) (by simp)).set 1 (.int .i64 b') (by simp)).set 2 (.int .i64 x) (by simp)).set 3 (.int .i64 y) (by simp), ext_set (ext_set (ext_set (ext_set (ext_trans (ext_alloc (ext_drew (Below.refl _ _)) _) hb5) (by simp) _) (by simp) _) (by simp) _) (by simp) _, Nat.le_refl _⟩
      case rest =>
        obtain ⟨g5, rfl, rfl, B5, hb5, hg5⟩ := hcut
        have hqw : q < wr.heap.size := HK.lt
        have HBR : Hid (Below w.heap.size w wc) := ext_trans HBR0.out hb5
        have KR := Lib.hid (HK.next hb5)
        have BR := Lib.hid (BR0.out.next hb5)
        clear z0 z1 z2 z3
        have z0 := KR.out.at 0 _ rfl
        have z1 := KR.out.at 1 _ rfl
        have z2 := KR.out.at 2 _ rfl
        have z3 := KR.out.at 3 _ rfl
        cases sm
        · have hUN : Hid (U = none) := by
            have h := HU.out
            rw [HS.out] at h
            exact h.symm
          have y0' := BR.out.at 0 _ rfl
          have y1' := BR.out.at 1 _ rfl
          have y2' := BR.out.at 2 _ rfl
          have y3' := BR.out.at 3 _ rfl
          have F0 := BR.out.f 0
          have F1 := BR.out.f 1
          have F2 := BR.out.f 2
          have F3 := BR.out.f 3
          obtain ⟨s0, s1, s2, s3⟩ := set4 y0' y1' y2' y3'
          go_wp2_with fail
          exact bodyPost_ret (v := .tuple #[cvV x y x0 y0, .bool false]) (by simp [results, Tryz.results127, go_sem, s0, s1, s2, s3]; done) rfl ⟨x, y, x0, y0, by rw [hUN.out]; rfl, (by rw [hUN.out]; intro a b h; cases h), ext_set (ext_set (ext_set (ext_set HBR.out (Nat.le_refl _) _) (Nat.le_refl _) _) (Nat.le_refl _) _) (Nat.le_refl _) _⟩
        · obtain ⟨⟨v1, v2⟩, ⟨v3, v4⟩⟩ := HSB.out rfl
          have HUN : Hid (mtx (ts.drop (k + 1)) a b' x y = U) := by
            have h := HU.out
            rw [HS.out] at h
            exact h
          have x5 := B5.at 0 _ rfl
          have x6 := B5.at 1 _ rfl
          have x7 := B5.at 2 _ rfl
          have x8 := B5.at 3 _ rfl
          have F0 := KR.out.f 0
          have F1 := KR.out.f 1
          have F2 := KR.out.f 2
          have F3 := KR.out.f 3
          go_wp2_with fail
          go_wp2
          go_roundw
          case rel => exact ⟨k + 1, a, b', x, y, by omega, by go_num, by simpa using (((KR.out.set 0 (.int .i64 a) (by simp)).set 1 (.int .i64 b') (by simp)).set 2 (.int .i64 x) (by simp)).set 3 (.int .i64 y) (by simp), ⟨⟨v1, v2⟩, ⟨v3, v4⟩, HBD.out.1, HBD.out.2.1⟩, HUN.out, (((((hbe.trans (hb5.mono (by omega))).setCell (by simp) _).setCell (by simp) _).setCell (by simp) _).setCell (by simp) _)⟩
          case measure => simp [intOf]; omega
    · have HF : Hid (U = some (x, y)) := by
        have h := HU.out
        rw [mtx_end (by omega)] at h
        exact h.symm
      have j1 : ¬ (k : Int) < (ts.length : Int) := by omega
      have y0' := BR0.out.at 0 _ rfl
      have y1' := BR0.out.at 1 _ rfl
      have y2' := BR0.out.at 2 _ rfl
      have y3' := BR0.out.at 3 _ rfl
      have F0 := BR0.out.f 0
      have F1 := BR0.out.f 1
      have F2 := BR0.out.f 2
      have F3 := BR0.out.f 3
      obtain ⟨s0, s1, s2, s3⟩ := set4 y0' y1' y2' y3'
      go_wp2_with fail
      exact bodyPost_ret (v := .tuple #[cvV x y x0 y0, .bool true]) (by simp [results, Tryz.results127, go_sem, s0, s1, s2, s3]; done) rfl ⟨x, y, x0, y0, by rw [HF.out]; rfl, (by rw [HF.out]; intro a b h; injection h with h; injection h with h1 h2; exact ⟨h1, h2⟩), ext_set (ext_set (ext_set (ext_set HBR0.out (Nat.le_refl _) _) (Nat.le_refl _) _) (Nat.le_refl _) _) (Nat.le_refl _) _⟩
theorem l26Along_none {p d q : Int} {A : Option Addr} {c n : Nat} {ts : List Int} {w : World} (hx : Rd (Value.int .i64) w w.heap.size A ts) (hl : ts.length ≤ 1000) (hn : n = ts.length) (hok : sdOk (p, d, q) = true) (h : along (p, d, q) ts = none) :
    Calls Tryz.prog 126 #[surdV p d q, .slice A n c] w fun e w' => ∃ A5 c5, e = .returned (.tuple #[.slice A5 0 c5, .bool false]) ∧ Below w.heap.size w w' := by
  subst hn
  have := l26Along_any p d q A c ts w hx hl hok
  rw [h] at this
  exact this.mono fun _ _ ⟨A5, c5, h1, _, _, h2⟩ => ⟨A5, c5, h1, h2⟩
theorem l26Along_some {p d q : Int} {A : Option Addr} {c n : Nat} {ts : List Int} {w : World} {L : List Sd} (hx : Rd (Value.int .i64) w w.heap.size A ts) (hl : ts.length ≤ 1000) (hn : n = ts.length) (hok : sdOk (p, d, q) = true) (h : along (p, d, q) ts = some L) (m : Nat) (hm : L.length = m) :
    Calls Tryz.prog 126 #[surdV p d q, .slice A n c] w fun e w' => ∃ A5 c5, e = .returned (.tuple #[.slice A5 m c5, .bool true]) ∧ Wr (Value.int .i64) w' w.heap.size A5 (sdL L) ∧ (m ≤ c5 ∧ c5 ≤ maxLen) ∧ Below w.heap.size w w' := by
  subst hn
  have := l26Along_any p d q A c ts w hx hl hok
  rw [h] at this
  subst hm
  exact this
set_option maxRecDepth 100000 in
set_option maxHeartbeats 4000000 in
theorem l26Unit_any (A : Option Addr) (c : Nat) (xs : List Int) (w : World) (hx : RdC w w.heap.size A c xs) (hb : ∀ x ∈ xs, -1000000000 ≤ x ∧ x ≤ 1000000000) (hm : xs.length ≤ 420) :
    Calls Tryz.prog 82 #[.slice A xs.length c] w fun e w' => e = .returned (.bool (unB xs)) ∧ Below w.heap.size w w' := by
  obtain ⟨hx1, hx2, hx3⟩ := hx
  unfold maxLen at hx3
  have HU : Hid (unB xs = (decide (4 ≤ xs.length) && (inR (xs.getD 0 0) 2 10000 && (match along (0, xs.getD 0 0, 1) (xs.drop 3) with
    | none => false
    | some L => midQ L && (lastQ L && (mtxLast (xs.drop 3) == some (xs.getD 1 0, xs.getD 2 0))))))) := rfl
  by_cases h4 : 4 ≤ xs.length
  · rw [decide_eq_true h4, Bool.true_and] at HU
    have d4 : decide ((xs.length : Int) < 4) = false := by simp; omega
    obtain ⟨b, off, rfl, hbl, hc⟩ := hx1 (by omega)
    have c0 := hc 0 _ (getD_ofC (show 0 < xs.length by omega))
    have c1 := hc 1 _ (getD_ofC (show 1 < xs.length by omega))
    have c2 := hc 2 _ (getD_ofC (show 2 < xs.length by omega))
    rw [Nat.add_zero] at c0
    have hd := hb _ (List.mem_of_getElem? (getD_ofC (show 0 < xs.length by omega)))
    have HRD : Hid (∀ W, Below w.heap.size w W → Rd (Value.int .i64) W W.heap.size (some ⟨b, off + 3, none⟩) (xs.drop 3)) := fun W hW => ((drop_rd hbl hc).below hW).more hW.size
    have HCK : Hid (∀ W, Below w.heap.size w W → W.cell? ⟨b, off, none⟩ = some (.int .i64 (xs.getD 0 0)) ∧ W.cell? ⟨b, off + 1, none⟩ = some (.int .i64 (xs.getD 1 0)) ∧ W.cell? ⟨b, off + 2, none⟩ = some (.int .i64 (xs.getD 2 0))) := fun W hW => ⟨(hW.cell (p := ⟨b, off, none⟩) hbl).trans c0, (hW.cell (p := ⟨b, off + 1, none⟩) hbl).trans c1, (hW.cell (p := ⟨b, off + 2, none⟩) hbl).trans c2⟩
    have HDB : Hid (∀ x ∈ xs.drop 3, bil x) := drop_bd hb
    have HLD : Hid (xs.length - 3 = (xs.drop 3).length) := by simp [Hid]
    have hds : (xs.drop 3).length ≤ 1000 := by rw [List.length_drop]; omega
    have j3 : (3 : Int) ≤ (xs.length : Int) := by omega
    have n0 : 0 < xs.length := by omega
    have nc3 : ¬ (c = 3) := by omega
    have n1 : 1 < xs.length := by omega
    have n2 : 2 < xs.length := by omega
    have j3c : (3 : Int) ≤ (c : Int) := by omega
    have jlc : (xs.length : Int) ≤ (c : Int) := by omega
    clear hc hb hx1 c1 c2
    generalize xs.getD 0 0 = d at *
    generalize xs.getD 1 0 = x1 at *
    generalize xs.getD 2 0 = x2 at *
    obtain ⟨D1, D2⟩ := hd
    have HD := Lib.hid (fun W : World => l09D_any d W)
    by_cases hpc : pcC d = 0
    · obtain ⟨p1, p2, p3⟩ := pcC_zero hpc
      have hin : inR d 2 10000 = true := inR_true.2 ⟨p1, p2⟩
      have HNS : Hid (NoSq d) := ⟨p1, by omega, p3⟩
      have HOK : Hid (sdOk (0, d, 1) = true) := (next_root HNS.out).2.2
      rw [hin, Bool.true_and] at HU
      rw [hpc] at HD
      have HIN := Lib.hid hin
      clear hin hpc p1 p2 p3
      have HBB : Hid (Below w.heap.size w w) := Below.refl _ _
      rcases Option.eq_none_or_eq_some (along (0, d, 1) (xs.drop 3)) with hR | ⟨L, hR⟩
      · rw [hR] at HU
        have HSB := Lib.hid (l26Along_none (c := c - 3) (HRD.out _ HBB.out) hds HLD.out HOK.out hR)
        unfold surdV at HSB
        clear hR
        go_enter Tryz.func82, Tryz.ntmps82
        go_wp2_with (go_at_call 40; (with_reducible refine (HD.out _).mono ?_); rintro e w' ⟨rfl, rfl⟩)
        refine HSB.out.mono ?_
        rintro e w5 ⟨A5, c5, rfl, hb5⟩
        go_wp2
        go_ret
        exact ⟨ret_bool HU.out.symm, hb5⟩
      · rw [hR] at HU
        have HTP := Lib.hid (along_pos HNS.out hR)
        have hLl := along_len hR
        obtain ⟨m, hLm⟩ : ∃ m, L.length = m + 2 := ⟨xs.length - 4, by rw [hLl, List.length_drop]; omega⟩
        have hml : (xs.drop 3).length = m + 1 := by omega
        have hxm : xs.length - 3 = m + 1 := by rw [← hml, List.length_drop]
        have HSB := Lib.hid (l26Along_some (c := c - 3) (n := m + 1) (HRD.out _ HBB.out) hds hml.symm HOK.out hR (m + 2) hLm)
        have HMX : Hid (∀ W, Below w.heap.size w W → Calls Tryz.prog 127 #[.slice (some ⟨b, off + 3, none⟩) (m + 1) (c - 3)] W (RetMx W (mtxLast (xs.drop 3)))) := fun W hW => by
          have := l08Matrix_any (some ⟨b, off + 3, none⟩) (c - 3) (xs.drop 3) W (HRD.out W hW) (by omega) HDB.out
          rwa [hml] at this
        have HREF : Hid (allK (refP L (m + 1)) (m + 1) = (midQ L && lastQ L)) := ref_mid (by omega) (by omega)
        have HUA : Hid (unB xs = ((midQ L && lastQ L) && (mtxLast (xs.drop 3) == some (x1, x2)))) := by
          unfold Hid
          rw [HU.out]
          simp only [Bool.and_assoc]
        rw [← HREF.out] at HUA
        have HLM := Lib.hid hLm
        have HXM := Lib.hid hxm
        have hmb : m ≤ 420 := by rw [List.length_drop] at hml; omega
        unfold surdV at HSB
        clear hR hLl hLm hml hds hxm HU HREF
        go_enter Tryz.func82, Tryz.ntmps82
        go_wp2_with (go_at_call 40; (with_reducible refine (HD.out _).mono ?_); rintro e w' ⟨rfl, rfl⟩)
        rw [HXM.out]
        refine HSB.out.mono ?_
        rintro e w5 ⟨A5, c5, rfl, hw5, ⟨hc5, hc5m⟩, hb5⟩
        obtain ⟨b5, off5, rfl, hb5l, hb5h, hcc5, _⟩ := hw5 (by rw [sdL_length, HLM.out]; omega)
        have HB5 := Lib.hid hb5
        have HCC := Lib.hid hcc5
        clear hb5 hcc5 HSB c0
        go_wp2_with fail
        go_loopw [6] (fun t wr => ∃ k : Nat, 1 ≤ k ∧ k ≤ m + 2 ∧ t = .int .i64 (k : Int) ∧ Hid (allK (refP L (m + 1)) (k - 1) = true) ∧ Hid (w5 = wr)) (fun t _ => m + 2 - (intOf t).toNat)
        case atStart => exact ⟨1, by omega, by omega, by go_num, rfl, rfl⟩
        case round =>
          obtain ⟨k, hk1, hk, rfl, HK, HW⟩ := hrel
          obtain rfl := HW.out
          clear HW
          have k0 : (0 : Int) ≤ (k : Int) := by omega
          by_cases hlt : k < m + 2
          · obtain ⟨g0, g1, g2⟩ := sdL_get (getD_ofL (show k < L.length by rw [HLM.out]; omega))
            have y2 := HCC.out _ _ g2
            rw [← Nat.add_assoc] at y2
            have HQ : Hid (refP L (m + 1) (k - 1) = (((L.getD k (0, 0, 0)).2.2 == 1) == decide (k = m + 1))) := by
              unfold Hid refP qS
              rw [show k - 1 + 1 = k by omega]
            have HM : Hid (refP L (m + 1) (k - 1) = false → unB xs = false) := fun h => by
              rw [HUA.out, allK_false h _ (by omega), Bool.false_and]
            have HKS : Hid (refP L (m + 1) (k - 1) = true → allK (refP L (m + 1)) (k + 1 - 1) = true) := fun h => by
              have := allK_succ HK.out h
              rwa [show k - 1 + 1 = k + 1 - 1 by omega] at this
            have i1 : (k : Int) < (m : Int) + 2 := by omega
            have i2 : k < m + 2 := hlt
            clear g0 g1 g2
            generalize (L.getD k (0, 0, 0)).2.2 = s3 at *
            by_cases hjm : k = m + 1
            · have e1 : ((k : Int) == (m : Int) + 1) = true := by simp; omega
              rw [decide_eq_true hjm] at HQ
              have HJ := Lib.hid hjm
              clear hjm hlt
              cases hq : (s3 == 1)
              · have HE := Lib.hid (HM.out (by rw [HQ.out, hq]; rfl))
                clear HQ HM HKS
                go_wp2
                go_ret
                exact ⟨ret_bool HE.out.symm, HB5.out⟩
              · have HE := Lib.hid (HKS.out (by rw [HQ.out, hq]; rfl))
                clear HQ HM HKS
                go_wp2
                go_roundw
                case rel => exact ⟨k + 1, by omega, by omega, by go_num, HE.out, by first | exact trivial | exact rfl⟩
                case measure => simp [intOf]; omega
            · have e1 : ((k : Int) == (m : Int) + 1) = false := by simp; omega
              rw [decide_eq_false hjm] at HQ
              clear hjm hlt
              cases hq : (s3 == 1)
              · have HE := Lib.hid (HKS.out (by rw [HQ.out, hq]; rfl))
                clear HQ HM HKS
                go_wp2
                go_roundw
                case rel => exact ⟨k + 1, by omega, by omega, by go_num, HE.out, by first | exact trivial | exact rfl⟩
                case measure => simp [intOf]; omega
              · have HE := Lib.hid (HM.out (by rw [HQ.out, hq]; rfl))
                clear HQ HM HKS
                go_wp2
                go_ret
                exact ⟨ret_bool HE.out.symm, HB5.out⟩
          · have HUU : Hid (unB xs = (mtxLast (xs.drop 3) == some (x1, x2))) := by
              have h := HK.out
              rw [show k - 1 = m + 1 by omega] at h
              unfold Hid
              rw [HUA.out, h, Bool.true_and]
            have i1 : ¬ (k : Int) < (m : Int) + 2 := by omega
            have HMW := Lib.hid (HMX.out _ HB5.out)
            unfold RetMx cvV at HMW
            clear HK HCC HUA hlt
            rcases Option.eq_none_or_eq_some (mtxLast (xs.drop 3)) with hF | ⟨⟨f1, f2⟩, hF⟩
            · rw [hF] at HMW HUU
              have HE : Hid (unB xs = false) := by rw [HUU.out]; rfl
              clear hF HUU
              go_wp2_with fail
              refine HMW.out.mono ?_
              rintro e w7 ⟨p, q, x, y, rfl, _, hb7⟩
              have E7 := Lib.hid (ext_alloc (ext_trans HB5.out hb7) (.cells #[.int .i64 p, .int .i64 q, .int .i64 x, .int .i64 y] 111))
              clear hb7
              go_wp2_with fail
              refine wp_region_quiet_below (by kernel_rfl) (by kernel_rfl) ?_
              repeat (first | go_big_quiet_step (fail) | quiet_step (fail))
              refine wpQuiet_nil ?_
              intro _ hw'
              obtain ⟨⟨dq, oq⟩, hw''⟩ := hw'
              subst hw''
              go_wp2
              go_ret
              exact ⟨ret_bool HE.out.symm, ext_trans E7.out (below_regrown _ _ _)⟩
            · rw [hF] at HMW HUU
              have HV : Hid ((some (f1, f2) == some (x1, x2)) = ((f1 == x1) && (f2 == x2))) := by
                unfold Hid
                rw [Bool.eq_iff_iff]
                simp
              rw [HV.out] at HUU
              clear hF HV
              go_wp2_with fail
              refine HMW.out.mono ?_
              rintro e w7 ⟨p, q, x, y, rfl, hpq, hb7⟩
              obtain ⟨rfl, rfl⟩ := hpq f1 f2 rfl
              have E7 := Lib.hid (ext_alloc (ext_trans HB5.out hb7) (.cells #[.int .i64 p, .int .i64 q, .int .i64 x, .int .i64 y] 111))
              have B7 := BoxV.new w7 #[.int .i64 p, .int .i64 q, .int .i64 x, .int .i64 y] 111
              clear hb7 hpq
              go_wp2_with fail
              generalize w7.alloc (.cells #[.int .i64 p, .int .i64 q, .int .i64 x, .int .i64 y] 111) = W8 at *
              have k1 : ∀ x os, (grow (redrawn W8 x) os).cell? ⟨w7.heap.size, 0, none⟩ = some (.int .i64 p) := cell_regrown (B7.at 0 _ rfl)
              have k2 : ∀ x os, (grow (redrawn W8 x) os).cell? ⟨w7.heap.size, 1, none⟩ = some (.int .i64 q) := cell_regrown (B7.at 1 _ rfl)
              have k3 : ∀ x os, (grow (redrawn W8 x) os).cell? ⟨b, off + 1, none⟩ = some (.int .i64 x1) := cell_regrown (HCK.out _ E7.out).2.1
              have k4 : ∀ x os, (grow (redrawn W8 x) os).cell? ⟨b, off + 2, none⟩ = some (.int .i64 x2) := cell_regrown (HCK.out _ E7.out).2.2
              cases he1 : (p == x1)
              · refine wp_region_quiet_below (by kernel_rfl) (by kernel_rfl) ?_
                repeat (first | go_big_quiet_step (fail) | quiet_step (fail))
                refine wpQuiet_nil ?_
                intro _ hw'
                obtain ⟨⟨dq, oq⟩, hw''⟩ := hw'
                subst hw''
                go_wp2
                go_ret
                exact ⟨ret_bool (by rw [HUU.out, he1]; rfl), ext_trans E7.out (below_regrown _ _ _)⟩
              · refine wp_region_quiet_below (by kernel_rfl) (by kernel_rfl) ?_
                repeat (first | go_big_quiet_step (fail) | quiet_step (fail))
                refine wpQuiet_nil ?_
                intro _ hw'
                obtain ⟨⟨dq, oq⟩, hw''⟩ := hw'
                subst hw''
                go_wp2
                go_ret
                exact ⟨ret_bool (by rw [HUU.out, he1]; rfl), ext_trans E7.out (below_regrown _ _ _)⟩
    · have hu : Hid (unB xs = false) := by
        unfold Hid
        rw [HU.out]
        cases hin : inR d 2 10000
        · rfl
        · cases hs : sqB d
          · exact absurd (by unfold pcC; rw [if_pos hin, hs]; rfl) hpc
          · rw [along_root_sq hs]; rfl
      have hne : (pcC d != 0) = true := by simpa using hpc
      have hrng := pcC_in d
      obtain ⟨r1, r2⟩ := hrng
      clear hpc HU
      generalize pcC d = pc at *
      go_enter Tryz.func82, Tryz.ntmps82
      go_wp2_with (go_at_call 40; (with_reducible refine (HD.out _).mono ?_); rintro e w' ⟨rfl, rfl⟩)
      go_ret
      exact ⟨ret_bool hu.out.symm, Below.refl _ _⟩
  · have HE : Hid (unB xs = false) := by rw [HU.out, decide_eq_false h4]; rfl
    have d4 : decide ((xs.length : Int) < 4) = true := by simp; omega
    rw [HE.out]
    go_enter Tryz.func82, Tryz.ntmps82
    go_wp2
    go_ret
    exact ⟨rfl, Below.refl _ _⟩
end Go.Proofs.YtpgkellmhlmjeaaGreatDoor
