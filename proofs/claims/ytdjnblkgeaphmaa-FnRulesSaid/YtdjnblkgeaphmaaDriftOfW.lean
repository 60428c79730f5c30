/- DriftOf: both walks. No condition but those that each theorem names. -/
import Derived.Test.YtdjnblkgeaphmaaDriftW
import Derived.Deep.RegionHeld3
namespace Go.Proofs.Ytdjnblkgeaphmaa
open Go.RowKit Go.Sort

def drB (l c s n d y : Int) : Int := if (ruleOk l c s && lenOk n d) = true then (if inR y 0 100000 = true then 0 else 2) else 1
def drN (l c s n d y : Int) : Int := if drB l c s n d y = 0 then fullN (driftV l c n d * y) (c * d) else 0
def drD (l c s n d y : Int) : Int := if drB l c s n d y = 0 then fullD (driftV l c n d * y) (c * d) else 0
def drC (l c s n d y : Int) : Int := if drB l c s n d y = 0 then fullC (driftV l c n d * y) (c * d) else drB l c s n d y

/-- What the loads of the drawn statement read, and that all that was there is there. -/
@[reducible] def DS (w : World) (l c s n d : Int) (w' : World) : Prop :=
  w'.cell? ⟨w.heap.size, 0, none⟩ = some (.int .i64 l) ∧ w'.cell? ⟨w.heap.size, 1, none⟩ = some (.int .i64 c) ∧ w'.cell? ⟨w.heap.size, 2, none⟩ = some (.int .i64 s) ∧ w'.cell? ⟨w.heap.size + 1, 0, none⟩ = some (.int .i64 n) ∧ w'.cell? ⟨w.heap.size + 1, 1, none⟩ = some (.int .i64 d) ∧
  Below w.heap.size w w' ∧ w.heap.size + 1 < w'.heap.size
theorem DS.next {w W W' : World} {l c s n d : Int} (h : DS w l c s n d W) (hb : Below W.heap.size W W') : DS w l c s n d W' := by
  obtain ⟨h1, h2, h3, h4, h5, h6, h7⟩ := h
  exact ⟨(hb.cell (p := ⟨w.heap.size, 0, none⟩) (by simp; omega)).trans h1, (hb.cell (p := ⟨w.heap.size, 1, none⟩) (by simp; omega)).trans h2, (hb.cell (p := ⟨w.heap.size, 2, none⟩) (by simp; omega)).trans h3, (hb.cell (p := ⟨w.heap.size + 1, 0, none⟩) h7).trans h4, (hb.cell (p := ⟨w.heap.size + 1, 1, none⟩) h7).trans h5,
    ext_trans h6 hb, Nat.lt_of_lt_of_le h7 hb.size⟩
theorem DS.new (w : World) (l c s n d : Int) (T U : TypeId) : DS w l c s n d ((w.alloc (.cells #[.int .i64 l, .int .i64 c, .int .i64 s] T)).alloc (.cells #[.int .i64 n, .int .i64 d] U)) := by
  refine ⟨?_, ?_, ?_, ?_, ?_, ext_alloc (ext_alloc (Below.refl _ _) _) _, by simp⟩
  · exact cell_two_fst w #[.int .i64 l, .int .i64 c, .int .i64 s] #[.int .i64 n, .int .i64 d] T U 0
  · exact cell_two_fst w #[.int .i64 l, .int .i64 c, .int .i64 s] #[.int .i64 n, .int .i64 d] T U 1
  · exact cell_two_fst w #[.int .i64 l, .int .i64 c, .int .i64 s] #[.int .i64 n, .int .i64 d] T U 2
  · exact cell_two_snd w #[.int .i64 l, .int .i64 c, .int .i64 s] #[.int .i64 n, .int .i64 d] T U 0
  · exact cell_two_snd w #[.int .i64 l, .int .i64 c, .int .i64 s] #[.int .i64 n, .int .i64 d] T U 1
theorem DS.set {w W : World} {l c s n d : Int} {j : Nat} {v : Value} (h : DS w l c s n d W) : DS w l c s n d (W.setCell ⟨w.heap.size + 1 + 1, j, none⟩ v) := by
  obtain ⟨h1, h2, h3, h4, h5, h6, h7⟩ := h
  refine ⟨?_, ?_, ?_, ?_, ?_, ext_set h6 (by simp; omega) _, by simpa using h7⟩
  · exact (World.cell?_setCell_other _ _ _ _ (by simp)).trans h1
  · exact (World.cell?_setCell_other _ _ _ _ (by simp)).trans h2
  · exact (World.cell?_setCell_other _ _ _ _ (by simp)).trans h3
  · exact (World.cell?_setCell_other _ _ _ _ (by simp)).trans h4
  · exact (World.cell?_setCell_other _ _ _ _ (by simp)).trans h5
theorem DS.drew {w W : World} {l c s n d : Int} (h : DS w l c s n d W) : DS w l c s n d W.drew := h.next (ext_drew (Below.refl _ _))

set_option maxHeartbeats 2000000 in
theorem iDriftOf_any (l c s n d y : Int) (w : World) :
    Calls Try.prog 33 #[ruleV l c s, fracV n d, .int .i64 y] w fun e w' => e = .returned (.tuple #[fracV (drN l c s n d y) (drD l c s n d y), .int .i64 (drC l c s n d y)]) ∧ Below w.heap.size w w' := by
  cases h1 : ruleOk l c s
  · have e0 : drB l c s n d y = 1 := by simp [drB, h1]
    have e1 : drN l c s n d y = 0 := by simp [drN, e0]
    have e2 : drD l c s n d y = 0 := by simp [drD, e0]
    have e3 : drC l c s n d y = 1 := by simp [drC, e0]
    rw [e1, e2, e3]
    clear e0 e1 e2 e3
    unfold ruleV fracV
    go_enter Try.func33, Try.ntmps33
    go_wp2_with fail
    refine (ValidRule_any l c s _).mono ?_
    rintro e w1 ⟨rfl, hb1⟩
    obtain ⟨hc1, hf1⟩ := bcell hb1
    have hy1 := hb1.size
    (try simp at hy1)
    have hz1_0 : w.heap.size < w1.heap.size := by omega
    have hz1_1 : w.heap.size + 1 < w1.heap.size := by omega
    have hz1_2 : w.heap.size + 2 < w1.heap.size := by omega
    have m0 : w1.cell? ⟨w.heap.size + 2, 0, none⟩ = some (.int .i64 0) := by rw [hc1 _ _ (by simp)]; rw [show w.heap.size + 2 = ((w.alloc _).alloc _).heap.size from by simp, cell_one]; rfl
    have m1 : w1.cell? ⟨w.heap.size + 2, 1, none⟩ = some (.int .i64 0) := by rw [hc1 _ _ (by simp)]; rw [show w.heap.size + 2 = ((w.alloc _).alloc _).heap.size from by simp, cell_one]; rfl
    obtain ⟨s0, s1⟩ := set_two m0 m1
    go_wp2
    exact bodyPost_ret (v := .tuple #[fracV 0 0, .int .i64 1]) (by simp [results, Try.results33, go_sem, s0, s1]; done) rfl ⟨rfl, ext_set (ext_set (ext_trans (ext_alloc (ext_alloc (ext_alloc (Below.refl _ _) _) _) _) hb1) (by simp; omega) _) (by simp; omega) _⟩
  · cases h2 : lenOk n d
    · have e0 : drB l c s n d y = 1 := by simp [drB, h2]
      have e1 : drN l c s n d y = 0 := by simp [drN, e0]
      have e2 : drD l c s n d y = 0 := by simp [drD, e0]
      have e3 : drC l c s n d y = 1 := by simp [drC, e0]
      rw [e1, e2, e3]
      clear e0 e1 e2 e3
      unfold ruleV fracV
      go_enter Try.func33, Try.ntmps33
      go_wp2_with fail
      refine (ValidRule_any l c s _).mono ?_
      rintro e w1 ⟨rfl, hb1⟩
      obtain ⟨hc1, hf1⟩ := bcell hb1
      have hy1 := hb1.size
      (try simp at hy1)
      have hz1_0 : w.heap.size < w1.heap.size := by omega
      have hz1_1 : w.heap.size + 1 < w1.heap.size := by omega
      have hz1_2 : w.heap.size + 2 < w1.heap.size := by omega
      go_wp2_with fail
      refine (isLength_any n d _).mono ?_
      rintro e w2 ⟨rfl, hb2⟩
      obtain ⟨hc2, hf2⟩ := bcell hb2
      have hy2 := hb2.size
      (try simp at hy2)
      have hz2_0 : w.heap.size < w2.heap.size := by omega
      have hz2_1 : w.heap.size + 1 < w2.heap.size := by omega
      have hz2_2 : w.heap.size + 2 < w2.heap.size := by omega
      have m0 : w2.cell? ⟨w.heap.size + 2, 0, none⟩ = some (.int .i64 0) := by rw [hc2 _ _ hz1_2, hc1 _ _ (by simp)]; rw [show w.heap.size + 2 = ((w.alloc _).alloc _).heap.size from by simp, cell_one]; rfl
      have m1 : w2.cell? ⟨w.heap.size + 2, 1, none⟩ = some (.int .i64 0) := by rw [hc2 _ _ hz1_2, hc1 _ _ (by simp)]; rw [show w.heap.size + 2 = ((w.alloc _).alloc _).heap.size from by simp, cell_one]; rfl
      obtain ⟨s0, s1⟩ := set_two m0 m1
      go_wp2
      exact bodyPost_ret (v := .tuple #[fracV 0 0, .int .i64 1]) (by simp [results, Try.results33, go_sem, s0, s1]; done) rfl ⟨rfl, ext_set (ext_set (ext_trans (ext_trans (ext_alloc (ext_alloc (ext_alloc (Below.refl _ _) _) _) _) hb1) hb2) (by simp; omega) _) (by simp; omega) _⟩
    · obtain ⟨c1, c2, l1, l2, s1, s2⟩ := ruleOk_true.1 h1
      obtain ⟨hf, d2, n1, n2⟩ := lenOk_true.1 h2
      obtain ⟨d1, _⟩ := fracOk_true.1 hf
      cases h3 : inR y 0 100000
      · have e0 : drB l c s n d y = 2 := by simp [drB, h1, h2, h3]
        have e1 : drN l c s n d y = 0 := by simp [drN, e0]
        have e2 : drD l c s n d y = 0 := by simp [drD, e0]
        have e3 : drC l c s n d y = 2 := by simp [drC, e0]
        rw [e1, e2, e3]
        clear e0 e1 e2 e3
        unfold ruleV fracV
        go_enter Try.func33, Try.ntmps33
        go_wp2_with fail
        refine (ValidRule_any l c s _).mono ?_
        rintro e w1 ⟨rfl, hb1⟩
        obtain ⟨hc1, hf1⟩ := bcell hb1
        have hy1 := hb1.size
        (try simp at hy1)
        have hz1_0 : w.heap.size < w1.heap.size := by omega
        have hz1_1 : w.heap.size + 1 < w1.heap.size := by omega
        have hz1_2 : w.heap.size + 2 < w1.heap.size := by omega
        go_wp2_with fail
        refine (isLength_any n d _).mono ?_
        rintro e w2 ⟨rfl, hb2⟩
        obtain ⟨hc2, hf2⟩ := bcell hb2
        have hy2 := hb2.size
        (try simp at hy2)
        have hz2_0 : w.heap.size < w2.heap.size := by omega
        have hz2_1 : w.heap.size + 1 < w2.heap.size := by omega
        have hz2_2 : w.heap.size + 2 < w2.heap.size := by omega
        have m0 : w2.cell? ⟨w.heap.size + 2, 0, none⟩ = some (.int .i64 0) := by rw [hc2 _ _ hz1_2, hc1 _ _ (by simp)]; rw [show w.heap.size + 2 = ((w.alloc _).alloc _).heap.size from by simp, cell_one]; rfl
        have m1 : w2.cell? ⟨w.heap.size + 2, 1, none⟩ = some (.int .i64 0) := by rw [hc2 _ _ hz1_2, hc1 _ _ (by simp)]; rw [show w.heap.size + 2 = ((w.alloc _).alloc _).heap.size from by simp, cell_one]; rfl
        obtain ⟨s0, s1⟩ := set_two m0 m1
        go_wp2_with (go_at_call 110; refine (within_any _ _ _ _).mono ?_; rintro e w' ⟨rfl, rfl⟩)
        exact bodyPost_ret (v := .tuple #[fracV 0 0, .int .i64 2]) (by simp [results, Try.results33, go_sem, s0, s1]; done) rfl ⟨rfl, ext_set (ext_set (ext_trans (ext_trans (ext_alloc (ext_alloc (ext_alloc (Below.refl _ _) _) _) _) hb1) hb2) (by simp; omega) _) (by simp; omega) _⟩
      · obtain ⟨y1, y2⟩ := inR_true.1 h3
        have e0 : drB l c s n d y = 0 := by simp [drB, h1, h2, h3]
        have e1 : drN l c s n d y = fullN (driftV l c n d * y) (c * d) := by simp [drN, e0]
        have e2 : drD l c s n d y = fullD (driftV l c n d * y) (c * d) := by simp [drD, e0]
        have e3 : drC l c s n d y = fullC (driftV l c n d * y) (c * d) := by simp [drC, e0]
        rw [e1, e2, e3]
        clear e0 e1 e2 e3
        obtain ⟨b1, b2, b3, b4⟩ := drift_bd l1 l2 c1 c2 d1 d2 n1 n2
        have hdb : -1000000000 ≤ driftV l c n d ∧ driftV l c n d ≤ 1000000000 := by unfold driftV; omega
        have hcd : 1 ≤ c * d := Int.mul_pos (by omega) (by omega)
        have hcd2 : c * d ≤ 1000 * 1000000 := Int.mul_le_mul c2 d2 (by omega) (by omega)
        have HD := Lib.hid (driftBy_any l c s n d · l1 l2 c1 c2 d1 d2 n1 n2)
        clear b1 b2 b3 b4
        generalize driftV l c n d = v at *
        obtain ⟨v1, v2⟩ := hdb
        have p5 : -(1000000000 * 100000) ≤ v * y ∧ v * y ≤ 1000000000 * 100000 := mul_bd (by omega) v2 (by omega) y2 v1 (by omega)
        obtain ⟨p5, p6⟩ := p5
        have HP := Lib.hid (plainOf_any (v * y) (c * d) · (by omega) (by omega) (by omega) (by omega) (by omega))
        have k1 : IntKind.i64.wrap (v * y) = v * y := IntWalk.i64_in _ (by omega)
        have k1' : IntKind.i64.wrap (y * v) = v * y := by rw [Int.mul_comm y v]; exact k1
        have k2 : IntKind.i64.wrap (c * d) = c * d := IntWalk.i64_in _ (by omega)
        unfold ruleV fracV at *
        go_enter Try.func33, Try.ntmps33
        go_wp2_with fail
        refine (ValidRule_any l c s _).mono ?_
        rintro e w1 ⟨rfl, hb1⟩
        obtain ⟨hc1, hf1⟩ := bcell hb1
        have hy1 := hb1.size
        (try simp at hy1)
        have hz1_0 : w.heap.size < w1.heap.size := by omega
        have hz1_1 : w.heap.size + 1 < w1.heap.size := by omega
        have hz1_2 : w.heap.size + 2 < w1.heap.size := by omega
        go_wp2_with fail
        refine (isLength_any n d _).mono ?_
        rintro e w2 ⟨rfl, hb2⟩
        obtain ⟨hc2, hf2⟩ := bcell hb2
        have hy2 := hb2.size
        (try simp at hy2)
        have hz2_0 : w.heap.size < w2.heap.size := by omega
        have hz2_1 : w.heap.size + 1 < w2.heap.size := by omega
        have hz2_2 : w.heap.size + 2 < w2.heap.size := by omega
        have D0 : DS w l c s n d _ := ((((DS.new w l c s n d 60 25).next (ext1 _ (.cells #[.int .i64 0, .int .i64 0] 25))).next hb1)).next hb2
        have m0 : w2.cell? ⟨w.heap.size + 2, 0, none⟩ = some (.int .i64 0) := by rw [hc2 _ _ hz1_2, hc1 _ _ (by simp)]; rw [show w.heap.size + 2 = ((w.alloc _).alloc _).heap.size from by simp, cell_one]; rfl
        have m1 : w2.cell? ⟨w.heap.size + 2, 1, none⟩ = some (.int .i64 0) := by rw [hc2 _ _ hz1_2, hc1 _ _ (by simp)]; rw [show w.heap.size + 2 = ((w.alloc _).alloc _).heap.size from by simp, cell_one]; rfl
        go_wp2_with (go_at_call 110; refine (within_any _ _ _ _).mono ?_; rintro e w' ⟨rfl, rfl⟩)
        have fz : ∀ j, w2.frozen? ⟨w.heap.size + 2, j, none⟩ = false := fun j => by rw [hf2 _ _ hz1_2, hf1 _ _ (by simp)]; rw [show w.heap.size + 2 = ((w.alloc _).alloc _).heap.size from by simp]; exact World.frozen?_alloc_at _ _ _ _ rfl
        obtain ⟨x1, x2, x3, x4, x5, x6, x7⟩ := id D0
        clear hc1 hf1 hc2 hf2
        go_region_held3 (fun w' => w'.cell? ⟨w.heap.size, 0, none⟩ = some (.int .i64 l) ∧ w'.cell? ⟨w.heap.size, 1, none⟩ = some (.int .i64 c) ∧ w'.cell? ⟨w.heap.size, 2, none⟩ = some (.int .i64 s) ∧ w'.cell? ⟨w.heap.size + 1, 0, none⟩ = some (.int .i64 n) ∧ w'.cell? ⟨w.heap.size + 1, 1, none⟩ = some (.int .i64 d) ∧ Below w.heap.size w w' ∧ w.heap.size + 1 < w'.heap.size)
          (first | exact D0.drew | exact DS.next (by assumption) (by assumption) | exact DS.set (DS.set (by assumption)))
          (first
            | (go_at_call 122; (with_reducible refine (HD.out _).mono ?_); rintro e w3 ⟨rfl, hb3⟩)
            | (go_at_call 121; (with_reducible refine (HP.out _).mono ?_); rintro e w4 ⟨rfl, hb4⟩; have hb24 : Below w2.heap.size w2 w4 := ext_trans (ext_trans (ext_drew (Below.refl w2.heap.size w2)) hb3) hb4; have M0 := (hb24.cell (p := ⟨w.heap.size + 2, 0, none⟩) hz2_2).trans m0; have M1 := (hb24.cell (p := ⟨w.heap.size + 2, 1, none⟩) hz2_2).trans m1; have F0 := (hb24.frozen (p := ⟨w.heap.size + 2, 0, none⟩) hz2_2).trans (fz 0); have F1 := (hb24.frozen (p := ⟨w.heap.size + 2, 1, none⟩) hz2_2).trans (fz 1)))
        obtain ⟨s0, s1⟩ := set_two M0 M1
        go_wp2
        exact bodyPost_ret (v := .tuple #[fracV (fullN (v * y) (c * d)) (fullD (v * y) (c * d)), .int .i64 (fullC (v * y) (c * d))]) (by simp [results, Try.results33, go_sem, s0, s1]; done) rfl ⟨rfl, ext_set (ext_set (ext_trans x6 hb24) (by simp; omega) _) (by simp; omega) _⟩
set_option maxHeartbeats 2000000 in
theorem sDriftOf_any (l c s n d y : Int) (w : World) :
    Calls Try.prog 34 #[ruleV l c s, fracV n d, .int .i64 y] w fun e w' => e = .returned (.tuple #[fracV (drN l c s n d y) (drD l c s n d y), .int .i64 (drC l c s n d y)]) ∧ Below w.heap.size w w' := by
  cases h1 : ruleOk l c s
  · have e0 : drB l c s n d y = 1 := by simp [drB, h1]
    have e1 : drN l c s n d y = 0 := by simp [drN, e0]
    have e2 : drD l c s n d y = 0 := by simp [drD, e0]
    have e3 : drC l c s n d y = 1 := by simp [drC, e0]
    rw [e1, e2, e3]
    clear e0 e1 e2 e3
    unfold ruleV fracV
    go_enter Try.func34, Try.ntmps34
    go_wp2_with fail
    refine (l24Ok_any l c s _).mono ?_
    rintro e w1 ⟨rfl, hb1⟩
    obtain ⟨hc1, hf1⟩ := bcell hb1
    have hy1 := hb1.size
    (try simp at hy1)
    have hz1_0 : w.heap.size < w1.heap.size := by omega
    have hz1_1 : w.heap.size + 1 < w1.heap.size := by omega
    have hz1_2 : w.heap.size + 2 < w1.heap.size := by omega
    have m0 : w1.cell? ⟨w.heap.size + 2, 0, none⟩ = some (.int .i64 0) := by rw [hc1 _ _ (by simp)]; rw [show w.heap.size + 2 = ((w.alloc _).alloc _).heap.size from by simp, cell_one]; rfl
    have m1 : w1.cell? ⟨w.heap.size + 2, 1, none⟩ = some (.int .i64 0) := by rw [hc1 _ _ (by simp)]; rw [show w.heap.size + 2 = ((w.alloc _).alloc _).heap.size from by simp, cell_one]; rfl
    obtain ⟨s0, s1⟩ := set_two m0 m1
    go_wp2
    exact bodyPost_ret (v := .tuple #[fracV 0 0, .int .i64 1]) (by simp [results, Try.results34, go_sem, s0, s1]; done) rfl ⟨rfl, ext_set (ext_set (ext_trans (ext_alloc (ext_alloc (ext_alloc (Below.refl _ _) _) _) _) hb1) (by simp; omega) _) (by simp; omega) _⟩
  · cases h2 : lenOk n d
    · have e0 : drB l c s n d y = 1 := by simp [drB, h2]
      have e1 : drN l c s n d y = 0 := by simp [drN, e0]
      have e2 : drD l c s n d y = 0 := by simp [drD, e0]
      have e3 : drC l c s n d y = 1 := by simp [drC, e0]
      rw [e1, e2, e3]
      clear e0 e1 e2 e3
      unfold ruleV fracV
      go_enter Try.func34, Try.ntmps34
      go_wp2_with fail
      refine (l24Ok_any l c s _).mono ?_
      rintro e w1 ⟨rfl, hb1⟩
      obtain ⟨hc1, hf1⟩ := bcell hb1
      have hy1 := hb1.size
      (try simp at hy1)
      have hz1_0 : w.heap.size < w1.heap.size := by omega
      have hz1_1 : w.heap.size + 1 < w1.heap.size := by omega
      have hz1_2 : w.heap.size + 2 < w1.heap.size := by omega
      go_wp2_with fail
      refine (l24Year_any n d _).mono ?_
      rintro e w2 ⟨rfl, hb2⟩
      obtain ⟨hc2, hf2⟩ := bcell hb2
      have hy2 := hb2.size
      (try simp at hy2)
      have hz2_0 : w.heap.size < w2.heap.size := by omega
      have hz2_1 : w.heap.size + 1 < w2.heap.size := by omega
      have hz2_2 : w.heap.size + 2 < w2.heap.size := by omega
      have m0 : w2.cell? ⟨w.heap.size + 2, 0, none⟩ = some (.int .i64 0) := by rw [hc2 _ _ hz1_2, hc1 _ _ (by simp)]; rw [show w.heap.size + 2 = ((w.alloc _).alloc _).heap.size from by simp, cell_one]; rfl
      have m1 : w2.cell? ⟨w.heap.size + 2, 1, none⟩ = some (.int .i64 0) := by rw [hc2 _ _ hz1_2, hc1 _ _ (by simp)]; rw [show w.heap.size + 2 = ((w.alloc _).alloc _).heap.size from by simp, cell_one]; rfl
      obtain ⟨s0, s1⟩ := set_two m0 m1
      go_wp2
      exact bodyPost_ret (v := .tuple #[fracV 0 0, .int .i64 1]) (by simp [results, Try.results34, go_sem, s0, s1]; done) rfl ⟨rfl, ext_set (ext_set (ext_trans (ext_trans (ext_alloc (ext_alloc (ext_alloc (Below.refl _ _) _) _) _) hb1) hb2) (by simp; omega) _) (by simp; omega) _⟩
    · obtain ⟨c1, c2, l1, l2, s1, s2⟩ := ruleOk_true.1 h1
      obtain ⟨hf, d2, n1, n2⟩ := lenOk_true.1 h2
      obtain ⟨d1, _⟩ := fracOk_true.1 hf
      cases h3 : inR y 0 100000
      · have e0 : drB l c s n d y = 2 := by simp [drB, h1, h2, h3]
        have e1 : drN l c s n d y = 0 := by simp [drN, e0]
        have e2 : drD l c s n d y = 0 := by simp [drD, e0]
        have e3 : drC l c s n d y = 2 := by simp [drC, e0]
        rw [e1, e2, e3]
        clear e0 e1 e2 e3
        unfold ruleV fracV
        go_enter Try.func34, Try.ntmps34
        go_wp2_with fail
        refine (l24Ok_any l c s _).mono ?_
        rintro e w1 ⟨rfl, hb1⟩
        obtain ⟨hc1, hf1⟩ := bcell hb1
        have hy1 := hb1.size
        (try simp at hy1)
        have hz1_0 : w.heap.size < w1.heap.size := by omega
        have hz1_1 : w.heap.size + 1 < w1.heap.size := by omega
        have hz1_2 : w.heap.size + 2 < w1.heap.size := by omega
        go_wp2_with fail
        refine (l24Year_any n d _).mono ?_
        rintro e w2 ⟨rfl, hb2⟩
        obtain ⟨hc2, hf2⟩ := bcell hb2
        have hy2 := hb2.size
        (try simp at hy2)
        have hz2_0 : w.heap.size < w2.heap.size := by omega
        have hz2_1 : w.heap.size + 1 < w2.heap.size := by omega
        have hz2_2 : w.heap.size + 2 < w2.heap.size := by omega
        have m0 : w2.cell? ⟨w.heap.size + 2, 0, none⟩ = some (.int .i64 0) := by rw [hc2 _ _ hz1_2, hc1 _ _ (by simp)]; rw [show w.heap.size + 2 = ((w.alloc _).alloc _).heap.size from by simp, cell_one]; rfl
        have m1 : w2.cell? ⟨w.heap.size + 2, 1, none⟩ = some (.int .i64 0) := by rw [hc2 _ _ hz1_2, hc1 _ _ (by simp)]; rw [show w.heap.size + 2 = ((w.alloc _).alloc _).heap.size from by simp, cell_one]; rfl
        obtain ⟨s0, s1⟩ := set_two m0 m1
        go_wp2_with (go_at_call 115; refine (l00In_any _ _ _ _).mono ?_; rintro e w' ⟨rfl, rfl⟩)
        exact bodyPost_ret (v := .tuple #[fracV 0 0, .int .i64 2]) (by simp [results, Try.results34, go_sem, s0, s1]; done) rfl ⟨rfl, ext_set (ext_set (ext_trans (ext_trans (ext_alloc (ext_alloc (ext_alloc (Below.refl _ _) _) _) _) hb1) hb2) (by simp; omega) _) (by simp; omega) _⟩
      · obtain ⟨y1, y2⟩ := inR_true.1 h3
        have e0 : drB l c s n d y = 0 := by simp [drB, h1, h2, h3]
        have e1 : drN l c s n d y = fullN (driftV l c n d * y) (c * d) := by simp [drN, e0]
        have e2 : drD l c s n d y = fullD (driftV l c n d * y) (c * d) := by simp [drD, e0]
        have e3 : drC l c s n d y = fullC (driftV l c n d * y) (c * d) := by simp [drC, e0]
        rw [e1, e2, e3]
        clear e0 e1 e2 e3
        obtain ⟨b1, b2, b3, b4⟩ := drift_bd l1 l2 c1 c2 d1 d2 n1 n2
        have hdb : -1000000000 ≤ driftV l c n d ∧ driftV l c n d ≤ 1000000000 := by unfold driftV; omega
        have hcd : 1 ≤ c * d := Int.mul_pos (by omega) (by omega)
        have hcd2 : c * d ≤ 1000 * 1000000 := Int.mul_le_mul c2 d2 (by omega) (by omega)
        have HD := Lib.hid (l24Wrong_any l c s n d · l1 l2 c1 c2 d1 d2 n1 n2)
        clear b1 b2 b3 b4
        generalize driftV l c n d = v at *
        obtain ⟨v1, v2⟩ := hdb
        have p5 : -(1000000000 * 100000) ≤ v * y ∧ v * y ≤ 1000000000 * 100000 := mul_bd (by omega) v2 (by omega) y2 v1 (by omega)
        obtain ⟨p5, p6⟩ := p5
        have HP := Lib.hid (l02Full_any (v * y) (c * d) · (by omega) (by omega) (by omega) (by omega) (by omega))
        have k1 : IntKind.i64.wrap (v * y) = v * y := IntWalk.i64_in _ (by omega)
        have k1' : IntKind.i64.wrap (y * v) = v * y := by rw [Int.mul_comm y v]; exact k1
        have k2 : IntKind.i64.wrap (c * d) = c * d := IntWalk.i64_in _ (by omega)
        unfold ruleV fracV at *
        go_enter Try.func34, Try.ntmps34
        go_wp2_with fail
        refine (l24Ok_any l c s _).mono ?_
        rintro e w1 ⟨rfl, hb1⟩
        obtain ⟨hc1, hf1⟩ := bcell hb1
        have hy1 := hb1.size
        (try simp at hy1)
        have hz1_0 : w.heap.size < w1.heap.size := by omega
        have hz1_1 : w.heap.size + 1 < w1.heap.size := by omega
        have hz1_2 : w.heap.size + 2 < w1.heap.size := by omega
        go_wp2_with fail
        refine (l24Year_any n d _).mono ?_
        rintro e w2 ⟨rfl, hb2⟩
        obtain ⟨hc2, hf2⟩ := bcell hb2
        have hy2 := hb2.size
        (try simp at hy2)
        have hz2_0 : w.heap.size < w2.heap.size := by omega
        have hz2_1 : w.heap.size + 1 < w2.heap.size := by omega
        have hz2_2 : w.heap.size + 2 < w2.heap.size := by omega
        have D0 : DS w l c s n d _ := ((((DS.new w l c s n d 60 25).next (ext1 _ (.cells #[.int .i64 0, .int .i64 0] 25))).next hb1)).next hb2
        have m0 : w2.cell? ⟨w.heap.size + 2, 0, none⟩ = some (.int .i64 0) := by rw [hc2 _ _ hz1_2, hc1 _ _ (by simp)]; rw [show w.heap.size + 2 = ((w.alloc _).alloc _).heap.size from by simp, cell_one]; rfl
        have m1 : w2.cell? ⟨w.heap.size + 2, 1, none⟩ = some (.int .i64 0) := by rw [hc2 _ _ hz1_2, hc1 _ _ (by simp)]; rw [show w.heap.size + 2 = ((w.alloc _).alloc _).heap.size from by simp, cell_one]; rfl
        go_wp2_with (go_at_call 115; refine (l00In_any _ _ _ _).mono ?_; rintro e w' ⟨rfl, rfl⟩)
        have fz : ∀ j, w2.frozen? ⟨w.heap.size + 2, j, none⟩ = false := fun j => by rw [hf2 _ _ hz1_2, hf1 _ _ (by simp)]; rw [show w.heap.size + 2 = ((w.alloc _).alloc _).heap.size from by simp]; exact World.frozen?_alloc_at _ _ _ _ rfl
        obtain ⟨x1, x2, x3, x4, x5, x6, x7⟩ := id D0
        clear hc1 hf1 hc2 hf2
        go_region_held3 (fun w' => w'.cell? ⟨w.heap.size, 0, none⟩ = some (.int .i64 l) ∧ w'.cell? ⟨w.heap.size, 1, none⟩ = some (.int .i64 c) ∧ w'.cell? ⟨w.heap.size, 2, none⟩ = some (.int .i64 s) ∧ w'.cell? ⟨w.heap.size + 1, 0, none⟩ = some (.int .i64 n) ∧ w'.cell? ⟨w.heap.size + 1, 1, none⟩ = some (.int .i64 d) ∧ Below w.heap.size w w' ∧ w.heap.size + 1 < w'.heap.size)
          (first | exact D0.drew | exact DS.next (by assumption) (by assumption) | exact DS.set (DS.set (by assumption)))
          (first
            | (go_at_call 125; (with_reducible refine (HD.out _).mono ?_); rintro e w3 ⟨rfl, hb3⟩)
            | (go_at_call 124; (with_reducible refine (HP.out _).mono ?_); rintro e w4 ⟨rfl, hb4⟩; have hb24 : Below w2.heap.size w2 w4 := ext_trans (ext_trans (ext_drew (Below.refl w2.heap.size w2)) hb3) hb4; have M0 := (hb24.cell (p := ⟨w.heap.size + 2, 0, none⟩) hz2_2).trans m0; have M1 := (hb24.cell (p := ⟨w.heap.size + 2, 1, none⟩) hz2_2).trans m1; have F0 := (hb24.frozen (p := ⟨w.heap.size + 2, 0, none⟩) hz2_2).trans (fz 0); have F1 := (hb24.frozen (p := ⟨w.heap.size + 2, 1, none⟩) hz2_2).trans (fz 1)))
        obtain ⟨s0, s1⟩ := set_two M0 M1
        go_wp2
        exact bodyPost_ret (v := .tuple #[fracV (fullN (v * y) (c * d)) (fullD (v * y) (c * d)), .int .i64 (fullC (v * y) (c * d))]) (by simp [results, Try.results34, go_sem, s0, s1]; done) rfl ⟨rfl, ext_set (ext_set (ext_trans x6 hb24) (by simp; omega) _) (by simp; omega) _⟩
end Go.Proofs.Ytdjnblkgeaphmaa
