/- Parts of the proof, merged: SideW MinW. No condition but those that each theorem names. -/
import Derived.Test.YtpgkellmhlmjeaaGreatDoorMgAF
import Derived.Test.YtpgkellmhlmjeaaGreatDoorMgAC
import Derived.Deep.RegionHeld3
import Derived.Test.YtpgkellmhlmjeaaGreatDoorMgAB
namespace Go.Proofs.YtpgkellmhlmjeaaGreatDoor
open Go.RowKit Go.Sort
/-- Block g is two cells. -/
def B2 (g : Nat) (x y : Int) (W : World) : Prop := W.cell? ⟨g, 0, none⟩ = some (.int .i64 x) ∧ W.cell? ⟨g, 1, none⟩ = some (.int .i64 y) ∧ (∀ j, W.frozen? ⟨g, j, none⟩ = false) ∧ g < W.heap.size
theorem B2.next {g : Nat} {x y : Int} {W W' : World} (h : B2 g x y W) (hb : Below W.heap.size W W') : B2 g x y W' :=
  ⟨(hb.cell (p := ⟨g, 0, none⟩) h.2.2.2).trans h.1, (hb.cell (p := ⟨g, 1, none⟩) h.2.2.2).trans h.2.1, fun j => (hb.frozen (p := ⟨g, j, none⟩) h.2.2.2).trans (h.2.2.1 j), Nat.lt_of_lt_of_le h.2.2.2 hb.size⟩
theorem B2.new (W : World) (x y : Int) (T : TypeId) : B2 W.heap.size x y (W.alloc (.cells #[.int .i64 x, .int .i64 y] T)) :=
  ⟨by rw [cell_one]; rfl, by rw [cell_one]; rfl, fun j => World.frozen?_alloc_at _ _ _ _ rfl, by simp⟩
theorem B2.new_at {g : Nat} {W : World} (x y : Int) (T : TypeId) (h : g = W.heap.size) : B2 g x y (W.alloc (.cells #[.int .i64 x, .int .i64 y] T)) := h ▸ B2.new W x y T
theorem B2.far {g i j : Nat} {x y : Int} {W : World} (h : B2 g x y W) (hi : g ≠ i) (u : Value) : B2 g x y (W.setCell ⟨i, j, none⟩ u) := by
  have o : ∀ m, (W.setCell ⟨i, j, none⟩ u).cell? ⟨g, m, none⟩ = W.cell? ⟨g, m, none⟩ := fun m => World.cell?_setCell_other _ _ _ _ (by intro e; injection e; omega)
  exact ⟨(o 0).trans h.1, (o 1).trans h.2.1, fun m => (World.frozen?_setCell _ _ _ _).trans (h.2.2.1 m), by simpa using h.2.2.2⟩
theorem B2.set {g : Nat} {x y : Int} {W : World} (h : B2 g x y W) (a b : Int) : B2 g a b ((W.setCell ⟨g, 0, none⟩ (.int .i64 a)).setCell ⟨g, 1, none⟩ (.int .i64 b)) := by
  obtain ⟨h0, h1, hf, hl⟩ := h
  obtain ⟨s0, s1⟩ := set_two h0 h1
  exact ⟨(World.cell?_setCell_other _ ⟨g, 1, none⟩ ⟨g, 0, none⟩ _ (by simp)).trans (s0 _), s1 _ _, fun m => (World.frozen?_setCell _ _ _ _).trans ((World.frozen?_setCell _ _ _ _).trans (hf m)), by simpa using hl⟩
/-- The state while one goes towards the fraction: it, both results, the lower and the upper one. -/
def SW (w : World) (n d a b c e : Int) (W : World) : Prop :=
  Below w.heap.size w W ∧ B2 w.heap.size n d W ∧ B2 (w.heap.size + 1) 0 0 W ∧ B2 (w.heap.size + 1 + 1) 0 0 W ∧ B2 (w.heap.size + 1 + 1 + 1) a b W ∧ B2 (w.heap.size + 1 + 1 + 1 + 1) c e W
theorem SW.next {w : World} {n d a b c e : Int} {W W' : World} (h : SW w n d a b c e W) (hb : Below W.heap.size W W') : SW w n d a b c e W' :=
  ⟨ext_trans h.1 hb, h.2.1.next hb, h.2.2.1.next hb, h.2.2.2.1.next hb, h.2.2.2.2.1.next hb, h.2.2.2.2.2.next hb⟩
theorem SW.low {w : World} {n d a b c e : Int} {W : World} (h : SW w n d a b c e W) (x y : Int) : SW w n d x y c e ((W.setCell ⟨w.heap.size + 1 + 1 + 1, 0, none⟩ (.int .i64 x)).setCell ⟨w.heap.size + 1 + 1 + 1, 1, none⟩ (.int .i64 y)) :=
  ⟨ext_set (ext_set h.1 (by simp; omega) _) (by simp; omega) _, (h.2.1.far (by omega) _).far (by omega) _, (h.2.2.1.far (by omega) _).far (by omega) _, (h.2.2.2.1.far (by omega) _).far (by omega) _, h.2.2.2.2.1.set x y, (h.2.2.2.2.2.far (by omega) _).far (by omega) _⟩
theorem SW.high {w : World} {n d a b c e : Int} {W : World} (h : SW w n d a b c e W) (x y : Int) : SW w n d a b x y ((W.setCell ⟨w.heap.size + 1 + 1 + 1 + 1, 0, none⟩ (.int .i64 x)).setCell ⟨w.heap.size + 1 + 1 + 1 + 1, 1, none⟩ (.int .i64 y)) :=
  ⟨ext_set (ext_set h.1 (by simp; omega) _) (by simp; omega) _, (h.2.1.far (by omega) _).far (by omega) _, (h.2.2.1.far (by omega) _).far (by omega) _, (h.2.2.2.1.far (by omega) _).far (by omega) _, (h.2.2.2.2.1.far (by omega) _).far (by omega) _, h.2.2.2.2.2.set x y⟩
theorem SW.start (w : World) (n d a b c e : Int) (T : TypeId) : SW w n d a b c e (((((w.alloc (.cells #[.int .i64 n, .int .i64 d] T)).alloc (.cells #[.int .i64 0, .int .i64 0] T)).alloc (.cells #[.int .i64 0, .int .i64 0] T)).alloc (.cells #[.int .i64 a, .int .i64 b] T)).alloc (.cells #[.int .i64 c, .int .i64 e] T)) :=
  ⟨ext_alloc (ext_alloc (ext_alloc (ext_alloc (ext_alloc (Below.refl _ _) _) _) _) _) _,
   ((((B2.new w n d T).next (ext1 _ _)).next (ext1 _ _)).next (ext1 _ _)).next (ext1 _ _),
   (((B2.new_at 0 0 T (by simp)).next (ext1 _ _)).next (ext1 _ _)).next (ext1 _ _), ((B2.new_at 0 0 T (by simp)).next (ext1 _ _)).next (ext1 _ _), (B2.new_at a b T (by simp)).next (ext1 _ _), B2.new_at c e T (by simp)⟩
theorem ends {n d most A B C E a b c e a' b' c' e' : Int} (F : Fr n d most) (S : Sides n d most A B C E) (h : Nb n d most a b c e) (ha : a + 0 * c = a') (hb : b + 0 * e = b') (hc : c + 0 * a' = c') (he : e + 0 * b' = e') (hk : loK n d most a b c e = 0) (hm : hiK n d most a' b' c e = 0) :
    a' = A ∧ b' = B ∧ c' = C ∧ e' = E := by
  obtain rfl : a = a' := by omega
  obtain rfl : b = b' := by omega
  obtain rfl : c = c' := by omega
  obtain rfl : e = e' := by omega
  exact S.one F ⟨h, h.done hk hm⟩
theorem moves {b e b' e' k m : Int} (most : Int) (hb : b + k * e = b') (he : e + m * b' = e') (b1 : 1 ≤ b') (e1 : 1 ≤ e) (k0 : 0 ≤ k) (m0 : 0 ≤ m) (h : ¬ (k = 0 ∧ m = 0)) (hb2 : b' ≤ most) (he2 : e' ≤ most) : (2 * most - b' - e').toNat < (2 * most - b - e).toNat := by
  have p1 : k * 1 ≤ k * e := Int.mul_le_mul_of_nonneg_left e1 k0
  have p2 : m * 1 ≤ m * b' := Int.mul_le_mul_of_nonneg_left b1 m0
  omega
/-- The integer in a cell. -/
def ci (W : World) (g j : Nat) : Int := match W.cell? ⟨g, j, none⟩ with | some v => intOf v | none => 0
def mS (w : World) (most : Int) (W : World) : Nat := (2 * most - ci W (w.heap.size + 1 + 1 + 1) 1 - ci W (w.heap.size + 1 + 1 + 1 + 1) 1).toNat
theorem SW.ms {w : World} {n d a b c e : Int} {W : World} (h : SW w n d a b c e W) (most : Int) : mS w most W = (2 * most - b - e).toNat := by
  unfold mS ci
  rw [h.2.2.2.2.1.2.1, h.2.2.2.2.2.2.1]
  rfl
theorem errV_pos {n d most a b c e : Int} (F : Fr n d most) (h : Nb n d most a b c e) : 1 ≤ errV n d a b ∧ errV n d a b ≤ 2000000000000 ∧ 1 ≤ errV n d c e ∧ errV n d c e ≤ 2000000000000 := by
  obtain ⟨ba, bb, bc, be⟩ := h.bd F
  have hd : big6 d := ⟨by have := F.lt; have := F.most1; omega, F.d2⟩
  obtain ⟨_, _, _, _, _, x2⟩ := errV_bd (n := n) (d := d) ⟨F.n1, F.n2⟩ hd ba bb
  obtain ⟨_, _, _, _, _, y2⟩ := errV_bd (n := n) (d := d) ⟨F.n1, F.n2⟩ hd bc be
  obtain ⟨e1, e2⟩ := h.err
  have := h.lo
  have := h.hi
  omega
/-- One goes up from the lower side. -/
theorem Nb.goLow {n d most a b c e : Int} (F : Fr n d most) (h : Nb n d most a b c e) : ∃ k a' b' : Int, Hid (loK n d most a b c e = k) ∧ min (errV n d a b / errV n d c e) ((most - b) / e) = k ∧ a + k * c = a' ∧ b + k * e = b' ∧ errV n d a b - k * errV n d c e = errV n d a' b' ∧ 0 ≤ k ∧ k ≤ 2000000000000 ∧
    0 ≤ errV n d a b / errV n d c e ∧ 0 ≤ (most - b) / e ∧ k * errV n d c e ≤ errV n d a b ∧ 0 ≤ k * errV n d c e ∧ Hid (Nb n d most a' b' c e) ∧ big6 a' ∧ big6 b' := by
  obtain ⟨k0, k1, h2⟩ := h.loStep F
  obtain ⟨e1, e2⟩ := h.err
  obtain ⟨e3, _⟩ := h2.err
  obtain ⟨ba, bb, _, _⟩ := h2.bd F
  have p1 := h.lo
  have p2 := h.hi
  have p3 := h.b2
  have p4 := h.e1
  have g1 : 0 ≤ errV n d a b / errV n d c e := Int.ediv_nonneg (by omega) (by omega)
  have g2 : 0 ≤ (most - b) / e := Int.ediv_nonneg (by omega) (by omega)
  have i1 : errV n d a b - loK n d most a b c e * errV n d c e = errV n d (a + loK n d most a b c e * c) (b + loK n d most a b c e * e) := by rw [e3, e1, e2]; grind
  have p5 := h2.lo
  refine ⟨_, _, _, rfl, by unfold loK; rw [e1, e2], rfl, rfl, i1, k0, k1, g1, g2, ?_, Int.mul_nonneg k0 (by omega), h2, ba, bb⟩
  omega
theorem Nb.goHigh {n d most a b c e : Int} (F : Fr n d most) (h : Nb n d most a b c e) : ∃ k c' e' : Int, Hid (hiK n d most a b c e = k) ∧ min (errV n d c e / errV n d a b) ((most - e) / b) = k ∧ c + k * a = c' ∧ e + k * b = e' ∧ 0 ≤ k ∧ k ≤ 2000000000000 ∧
    0 ≤ errV n d c e / errV n d a b ∧ 0 ≤ (most - e) / b ∧ Hid (Nb n d most a b c' e') ∧ big6 c' ∧ big6 e' := by
  obtain ⟨k0, k1, h2⟩ := h.hiStep F
  obtain ⟨e1, e2⟩ := h.err
  obtain ⟨_, _, ba, bb⟩ := h2.bd F
  have p1 := h.lo
  have p2 := h.hi
  have p3 := h.e2
  have p4 := h.b1
  have g1 : 0 ≤ errV n d c e / errV n d a b := Int.ediv_nonneg (by omega) (by omega)
  have g2 : 0 ≤ (most - e) / b := Int.ediv_nonneg (by omega) (by omega)
  exact ⟨_, _, _, rfl, by unfold hiK; rw [e1, e2], rfl, rfl, k0, k1, g1, g2, h2, ba, bb⟩
set_option maxRecDepth 100000 in
set_option maxHeartbeats 4000000 in
theorem around_far (n d most A B C E : Int) (w : World) (F : Fr n d most) (S : Sides n d most A B C E) :
    Calls Tryz.prog 62 #[fracV n d, .int .i64 most] w fun e w' => e = .returned (.tuple #[fracV A B, fracV C E]) ∧ Below w.heap.size w w' := by
  obtain ⟨f1, f2, f3, f4, f5, _⟩ := id F
  have HF := Lib.hid F
  have HS := Lib.hid S
  have HN := Lib.hid (Nb.start F)
  have HQ := Lib.hid (floorDiv_any n d · (by omega) (by omega) (by omega) (by omega))
  obtain ⟨q1, q2⟩ := ediv_bd (n := n) (g := d) (M := 1000000) (by omega) (by omega) (by omega)
  clear F S
  generalize n / d = q at *
  unfold fracV at *
  go_enter Tryz.func62, Tryz.ntmps62
  go_wp2_with fail
  refine (HQ.out _).mono ?_
  rintro e w' ⟨rfl, rfl⟩
  go_wp2_with fail
  have HW := Lib.hid (SW.start w n d q 1 (q + 1) 1 41)
  generalize ((((w.alloc (.cells #[.int .i64 n, .int .i64 d] 41)).alloc (.cells #[.int .i64 0, .int .i64 0] 41)).alloc (.cells #[.int .i64 0, .int .i64 0] 41)).alloc (.cells #[.int .i64 q, .int .i64 1] 41)).alloc (.cells #[.int .i64 (q + 1), .int .i64 1] 41) = W at *
  go_loopw [9] (fun _ wr => ∃ a b c e : Int, Hid (Nb n d most a b c e) ∧ Hid (SW w n d a b c e wr)) (fun _ wr => mS w most wr)
  case atStart => exact ⟨_, _, _, _, HN.out, HW.out⟩
  case round =>
    obtain ⟨a, b, c, e, HB, HW1⟩ := hrel
    clear HW HQ HN
    obtain ⟨ba, bb, bc, be⟩ := HB.out.bd HF.out
    have HE1 := Lib.hid (errorOf_any n d a b · ⟨f1, f2⟩ ⟨by omega, by omega⟩ ba bb)
    have HE2 := Lib.hid (errorOf_any n d c e · ⟨f1, f2⟩ ⟨by omega, by omega⟩ bc be)
    obtain ⟨x1, x2, y1, y2⟩ := errV_pos HF.out HB.out
    obtain ⟨k, a', b', HK, hk, ha, hb, hx, k0, k1, g1, g2, l1, l2, HB2, ba', bb'⟩ := HB.out.goLow HF.out
    obtain ⟨z1, z2, _, _⟩ := errV_pos HF.out HB2.out
    obtain ⟨m, c', e', HM, hm, hc, he, m0, m1, g3, g4, HB3, bc', be'⟩ := HB2.out.goHigh HF.out
    have nb := HB.out.b1
    have nb2 := HB.out.b2
    have ne := HB.out.e1
    have ne2 := HB.out.e2
    have nb' := HB2.out.b1
    have nb2' := HB2.out.b2
    generalize errV n d a b = x at *
    generalize errV n d c e = y at *
    generalize errV n d a' b' = z at *
    obtain ⟨a1, a2⟩ := ba
    obtain ⟨a3, a4⟩ := ba'
    obtain ⟨c1, c2⟩ := bc
    obtain ⟨c3, c4⟩ := bc'
    obtain ⟨b1, b2⟩ := bb'
    obtain ⟨e1, e2⟩ := be'
    clear bb be
    have p1 : -2000000 ≤ k * c ∧ k * c ≤ 2000000 := by omega
    have p2 : -2000000 ≤ k * e ∧ k * e ≤ 2000000 := by omega
    have p3 : -2000000 ≤ m * a' ∧ m * a' ≤ 2000000 := by omega
    have p4 : -2000000 ≤ m * b' ∧ m * b' ≤ 2000000 := by omega
    obtain ⟨p1, p1'⟩ := p1
    obtain ⟨p2, p2'⟩ := p2
    obtain ⟨p3, p3'⟩ := p3
    obtain ⟨p4, p4'⟩ := p4
    have HA := Lib.hid ha
    have HBB := Lib.hid hb
    have HC := Lib.hid hc
    have HEE := Lib.hid he
    clear hb he ha hc
    obtain ⟨s1, ⟨r0, r1, _, _⟩, _, _, ⟨r2, r3, _, _⟩, r4, r5, _, _⟩ := HW1.out
    have q0 : ∀ x os, (grow (redrawn wr x) os).cell? ⟨w.heap.size, 0, none⟩ = some (.int .i64 n) := cell_regrown r0
    have q1 : ∀ x os, (grow (redrawn wr x) os).cell? ⟨w.heap.size, 1, none⟩ = some (.int .i64 d) := cell_regrown r1
    have q2 : ∀ x os, (grow (redrawn wr x) os).cell? ⟨w.heap.size + 1 + 1 + 1, 0, none⟩ = some (.int .i64 a) := cell_regrown r2
    have q3 : ∀ x os, (grow (redrawn wr x) os).cell? ⟨w.heap.size + 1 + 1 + 1, 1, none⟩ = some (.int .i64 b) := cell_regrown r3
    have q4 : ∀ x os, (grow (redrawn wr x) os).cell? ⟨w.heap.size + 1 + 1 + 1 + 1, 0, none⟩ = some (.int .i64 c) := cell_regrown r4
    have q5 : ∀ x os, (grow (redrawn wr x) os).cell? ⟨w.heap.size + 1 + 1 + 1 + 1, 1, none⟩ = some (.int .i64 e) := cell_regrown r5
    clear s1 r0 r1 r2 r3 r4 r5
    go_wp2_with fail
    refine wp_region_quiet_below (by kernel_rfl) (by kernel_rfl) ?_
    repeat (first | go_big_quiet_step ((first | (with_reducible exact Calls.regrown_of (HE1.out _)) | (with_reducible exact Calls.regrown_of (HE2.out _)))) | quiet_step ((first | (with_reducible exact Calls.regrown_of (HE1.out _)) | (with_reducible exact Calls.regrown_of (HE2.out _)))))
    refine wpQuiet_nil ?_
    intro _ hw'
    obtain ⟨⟨dq, oq⟩, hw''⟩ := hw'
    subst hw''
    obtain ⟨w1, hW1⟩ : ∃ Wq, Wq = grow (redrawn wr dq) oq := ⟨_, rfl⟩
    have hb1 : Below wr.heap.size wr w1 := by rw [hW1]; exact below_regrown _ _ _
    rw [← hW1]
    clear hW1
    obtain ⟨hc1, hf1⟩ := bcell hb1
    have hy1 := hb1.size
    have HW2 := Lib.hid (HW1.out.next hb1)
    clear hb1 hc1 hf1 hy1 q0 q1 q2 q3 q4 q5 HE1 HE2
    obtain ⟨u, hu⟩ : ∃ u, x / y = u := ⟨_, rfl⟩
    obtain ⟨v, hv⟩ : ∃ v, (most - b) / e = v := ⟨_, rfl⟩
    obtain ⟨u2, hu2⟩ : ∃ u, y / z = u := ⟨_, rfl⟩
    obtain ⟨v2, hv2⟩ : ∃ v, (most - e) / b' = v := ⟨_, rfl⟩
    rw [hu, hv] at hk
    rw [hu2, hv2] at hm
    rw [hu] at g1
    rw [hv] at g2
    rw [hu2] at g3
    rw [hv2] at g4
    by_cases huv : u ≤ v
    · obtain rfl : k = u := by omega
      clear hk
      have ha := HA.out
      have hb := HBB.out
      obtain ⟨s1, ⟨r0, r1, _, _⟩, _, _, ⟨r2, r3, rf1, _⟩, r4, r5, _, _⟩ := HW2.out
      have rf10 := rf1 0
      have rf11 := rf1 1
      clear rf1
      go_wp2_with fail
      go_quiet (fail)
      have HW3 := Lib.hid ((HW2.out.next (W' := w1.drewN nq) ⟨rfl, rfl, rfl, Nat.le_refl _, fun _ _ => rfl⟩).low a' b')
      go_wp2_with fail
      generalize ((w1.drewN nq).setCell ⟨w.heap.size + 1 + 1 + 1, 0, none⟩ (.int .i64 a')).setCell ⟨w.heap.size + 1 + 1 + 1, 1, none⟩ (.int .i64 b') = W3 at *
      clear s1 r0 r1 r2 r3 r4 r5 rf10 rf11 ha hb
      clear hu hv
      by_cases huv2 : u2 ≤ v2
      · obtain rfl : m = u2 := by omega
        clear hm
        have hc := HC.out
        have he := HEE.out
        obtain ⟨s1, ⟨r0, r1, _, _⟩, _, _, ⟨r2, r3, _, _⟩, r4, r5, rf1, _⟩ := HW3.out
        have rf10 := rf1 0
        have rf11 := rf1 1
        clear rf1
        go_wp2_with fail
        go_quiet (fail)
        have HW4 := Lib.hid ((HW3.out.next (W' := W3.drewN nq) ⟨rfl, rfl, rfl, Nat.le_refl _, fun _ _ => rfl⟩).high c' e')
        by_cases hkm : k = 0 ∧ m = 0
        · obtain ⟨rfl, rfl⟩ := hkm
          have t1 : ((0 : Int) == 0) = true := rfl
          have HEND := Lib.hid (ends HF.out HS.out HB.out HA.out HBB.out HC.out HEE.out HK.out HM.out)
          clear hc he
          obtain rfl : c = c' := by have := HC.out; omega
          obtain rfl : e = e' := by have := HEE.out; omega
          go_wp2_with fail
          generalize ((W3.drewN nq).setCell ⟨w.heap.size + 1 + 1 + 1 + 1, 0, none⟩ (.int .i64 c)).setCell ⟨w.heap.size + 1 + 1 + 1 + 1, 1, none⟩ (.int .i64 e) = W4 at *
          clear s1 r0 r1 r2 r3 r4 r5 rf10 rf11 hu2 hv2
          obtain ⟨s1, ⟨r0, r1, _, _⟩, ⟨y0, y1, yf1, _⟩, ⟨v0, v1, vf1, _⟩, ⟨r2, r3, _, _⟩, r4, r5, _, _⟩ := HW4.out
          have Q1 := Lib.hid (((HW4.out.2.2.1.set a' b').far (i := w.heap.size + 1 + 1) (j := 0) (by omega) (.int .i64 c)).far (i := w.heap.size + 1 + 1) (j := 1) (by omega) (.int .i64 e))
          have Q2 := Lib.hid (((HW4.out.2.2.2.1.far (i := w.heap.size + 1) (j := 0) (by omega) (.int .i64 a')).far (i := w.heap.size + 1) (j := 1) (by omega) (.int .i64 b')).set c e)
          have Q3 := Lib.hid ((HW4.out.2.2.1.far (i := w.heap.size + 1 + 1) (j := 0) (by omega) (.int .i64 c)).far (i := w.heap.size + 1 + 1) (j := 1) (by omega) (.int .i64 e) |>.set a' b')
          have Q4 := Lib.hid (((HW4.out.2.2.2.1.set c e).far (i := w.heap.size + 1) (j := 0) (by omega) (.int .i64 a')).far (i := w.heap.size + 1) (j := 1) (by omega) (.int .i64 b'))
          have hbel := Lib.hid HW4.out.1
          have y10 := yf1 0
          have y11 := yf1 1
          have v10 := vf1 0
          have v11 := vf1 1
          clear yf1 vf1
          go_region_held3 (fun w' => w'.cell? ⟨w.heap.size + 1 + 1 + 1, 0, none⟩ = some (.int .i64 a') ∧ w'.cell? ⟨w.heap.size + 1 + 1 + 1, 1, none⟩ = some (.int .i64 b') ∧ w'.cell? ⟨w.heap.size + 1 + 1 + 1 + 1, 0, none⟩ = some (.int .i64 c) ∧ w'.cell? ⟨w.heap.size + 1 + 1 + 1 + 1, 1, none⟩ = some (.int .i64 e)) (go_keep) (fail)
          all_goals
            go_wp2
            refine bodyPost_ret (v := .tuple #[.agg #[.int .i64 a', .int .i64 b'], .agg #[.int .i64 c, .int .i64 e]]) ?_ rfl ⟨by obtain ⟨e1, e2, e3, e4⟩ := HEND.out; rw [e1, e2, e3, e4], ?_⟩
            · obtain ⟨z1, z2, _, _⟩ := Q1.out
              obtain ⟨z3, z4, _, _⟩ := Q2.out
              obtain ⟨z5, z6, _, _⟩ := Q3.out
              obtain ⟨z7, z8, _, _⟩ := Q4.out
              first
                | (simp [results, Tryz.results62, go_sem, z1, z2, z3, z4]; done)
                | (simp [results, Tryz.results62, go_sem, z5, z6, z7, z8]; done)
            · repeat (first | exact hbel.out | refine ext_set ?_ (by first | (simp; done) | (simp; omega)) _ | refine ext_drew ?_)
        · have HMV := Lib.hid (moves most HBB.out HEE.out nb' ne k0 m0 hkm nb2' HB3.out.e2)
          go_wp2_with fail
          all_goals
            refine ⟨⟨a', b', c', e', HB3.out, HW4.out⟩, ?_⟩
            rw [HW4.out.ms most, HW1.out.ms most]
            exact HMV.out
      · obtain rfl : m = v2 := by omega
        clear hm
        have hc := HC.out
        have he := HEE.out
        obtain ⟨s1, ⟨r0, r1, _, _⟩, _, _, ⟨r2, r3, _, _⟩, r4, r5, rf1, _⟩ := HW3.out
        have rf10 := rf1 0
        have rf11 := rf1 1
        clear rf1
        go_wp2_with fail
        go_quiet (fail)
        have HW4 := Lib.hid ((HW3.out.next (W' := W3.drewN nq) ⟨rfl, rfl, rfl, Nat.le_refl _, fun _ _ => rfl⟩).high c' e')
        by_cases hkm : k = 0 ∧ m = 0
        · obtain ⟨rfl, rfl⟩ := hkm
          have t1 : ((0 : Int) == 0) = true := rfl
          have HEND := Lib.hid (ends HF.out HS.out HB.out HA.out HBB.out HC.out HEE.out HK.out HM.out)
          clear hc he
          obtain rfl : c = c' := by have := HC.out; omega
          obtain rfl : e = e' := by have := HEE.out; omega
          go_wp2_with fail
          generalize ((W3.drewN nq).setCell ⟨w.heap.size + 1 + 1 + 1 + 1, 0, none⟩ (.int .i64 c)).setCell ⟨w.heap.size + 1 + 1 + 1 + 1, 1, none⟩ (.int .i64 e) = W4 at *
          clear s1 r0 r1 r2 r3 r4 r5 rf10 rf11 hu2 hv2
          obtain ⟨s1, ⟨r0, r1, _, _⟩, ⟨y0, y1, yf1, _⟩, ⟨v0, v1, vf1, _⟩, ⟨r2, r3, _, _⟩, r4, r5, _, _⟩ := HW4.out
          have Q1 := Lib.hid (((HW4.out.2.2.1.set a' b').far (i := w.heap.size + 1 + 1) (j := 0) (by omega) (.int .i64 c)).far (i := w.heap.size + 1 + 1) (j := 1) (by omega) (.int .i64 e))
          have Q2 := Lib.hid (((HW4.out.2.2.2.1.far (i := w.heap.size + 1) (j := 0) (by omega) (.int .i64 a')).far (i := w.heap.size + 1) (j := 1) (by omega) (.int .i64 b')).set c e)
          have Q3 := Lib.hid ((HW4.out.2.2.1.far (i := w.heap.size + 1 + 1) (j := 0) (by omega) (.int .i64 c)).far (i := w.heap.size + 1 + 1) (j := 1) (by omega) (.int .i64 e) |>.set a' b')
          have Q4 := Lib.hid (((HW4.out.2.2.2.1.set c e).far (i := w.heap.size + 1) (j := 0) (by omega) (.int .i64 a')).far (i := w.heap.size + 1) (j := 1) (by omega) (.int .i64 b'))
          have hbel := Lib.hid HW4.out.1
          have y10 := yf1 0
          have y11 := yf1 1
          have v10 := vf1 0
          have v11 := vf1 1
          clear yf1 vf1
          go_region_held3 (fun w' => w'.cell? ⟨w.heap.size + 1 + 1 + 1, 0, none⟩ = some (.int .i64 a') ∧ w'.cell? ⟨w.heap.size + 1 + 1 + 1, 1, none⟩ = some (.int .i64 b') ∧ w'.cell? ⟨w.heap.size + 1 + 1 + 1 + 1, 0, none⟩ = some (.int .i64 c) ∧ w'.cell? ⟨w.heap.size + 1 + 1 + 1 + 1, 1, none⟩ = some (.int .i64 e)) (go_keep) (fail)
          all_goals
            go_wp2
            refine bodyPost_ret (v := .tuple #[.agg #[.int .i64 a', .int .i64 b'], .agg #[.int .i64 c, .int .i64 e]]) ?_ rfl ⟨by obtain ⟨e1, e2, e3, e4⟩ := HEND.out; rw [e1, e2, e3, e4], ?_⟩
            · obtain ⟨z1, z2, _, _⟩ := Q1.out
              obtain ⟨z3, z4, _, _⟩ := Q2.out
              obtain ⟨z5, z6, _, _⟩ := Q3.out
              obtain ⟨z7, z8, _, _⟩ := Q4.out
              first
                | (simp [results, Tryz.results62, go_sem, z1, z2, z3, z4]; done)
                | (simp [results, Tryz.results62, go_sem, z5, z6, z7, z8]; done)
            · repeat (first | exact hbel.out | refine ext_set ?_ (by first | (simp; done) | (simp; omega)) _ | refine ext_drew ?_)
        · have HMV := Lib.hid (moves most HBB.out HEE.out nb' ne k0 m0 hkm nb2' HB3.out.e2)
          go_wp2_with fail
          all_goals
            refine ⟨⟨a', b', c', e', HB3.out, HW4.out⟩, ?_⟩
            rw [HW4.out.ms most, HW1.out.ms most]
            exact HMV.out
    · obtain rfl : k = v := by omega
      clear hk
      have ha := HA.out
      have hb := HBB.out
      obtain ⟨s1, ⟨r0, r1, _, _⟩, _, _, ⟨r2, r3, rf1, _⟩, r4, r5, _, _⟩ := HW2.out
      have rf10 := rf1 0
      have rf11 := rf1 1
      clear rf1
      go_wp2_with fail
      go_quiet (fail)
      have HW3 := Lib.hid ((HW2.out.next (W' := w1.drewN nq) ⟨rfl, rfl, rfl, Nat.le_refl _, fun _ _ => rfl⟩).low a' b')
      go_wp2_with fail
      generalize ((w1.drewN nq).setCell ⟨w.heap.size + 1 + 1 + 1, 0, none⟩ (.int .i64 a')).setCell ⟨w.heap.size + 1 + 1 + 1, 1, none⟩ (.int .i64 b') = W3 at *
      clear s1 r0 r1 r2 r3 r4 r5 rf10 rf11 ha hb
      clear hu hv
      by_cases huv2 : u2 ≤ v2
      · obtain rfl : m = u2 := by omega
        clear hm
        have hc := HC.out
        have he := HEE.out
        obtain ⟨s1, ⟨r0, r1, _, _⟩, _, _, ⟨r2, r3, _, _⟩, r4, r5, rf1, _⟩ := HW3.out
        have rf10 := rf1 0
        have rf11 := rf1 1
        clear rf1
        go_wp2_with fail
        go_quiet (fail)
        have HW4 := Lib.hid ((HW3.out.next (W' := W3.drewN nq) ⟨rfl, rfl, rfl, Nat.le_refl _, fun _ _ => rfl⟩).high c' e')
        by_cases hkm : k = 0 ∧ m = 0
        · obtain ⟨rfl, rfl⟩ := hkm
          have t1 : ((0 : Int) == 0) = true := rfl
          have HEND := Lib.hid (ends HF.out HS.out HB.out HA.out HBB.out HC.out HEE.out HK.out HM.out)
          clear hc he
          obtain rfl : c = c' := by have := HC.out; omega
          obtain rfl : e = e' := by have := HEE.out; omega
          go_wp2_with fail
          generalize ((W3.drewN nq).setCell ⟨w.heap.size + 1 + 1 + 1 + 1, 0, none⟩ (.int .i64 c)).setCell ⟨w.heap.size + 1 + 1 + 1 + 1, 1, none⟩ (.int .i64 e) = W4 at *
          clear s1 r0 r1 r2 r3 r4 r5 rf10 rf11 hu2 hv2
          obtain ⟨s1, ⟨r0, r1, _, _⟩, ⟨y0, y1, yf1, _⟩, ⟨v0, v1, vf1, _⟩, ⟨r2, r3, _, _⟩, r4, r5, _, _⟩ := HW4.out
          have Q1 := Lib.hid (((HW4.out.2.2.1.set a' b').far (i := w.heap.size + 1 + 1) (j := 0) (by omega) (.int .i64 c)).far (i := w.heap.size + 1 + 1) (j := 1) (by omega) (.int .i64 e))
          have Q2 := Lib.hid (((HW4.out.2.2.2.1.far (i := w.heap.size + 1) (j := 0) (by omega) (.int .i64 a')).far (i := w.heap.size + 1) (j := 1) (by omega) (.int .i64 b')).set c e)
          have Q3 := Lib.hid ((HW4.out.2.2.1.far (i := w.heap.size + 1 + 1) (j := 0) (by omega) (.int .i64 c)).far (i := w.heap.size + 1 + 1) (j := 1) (by omega) (.int .i64 e) |>.set a' b')
          have Q4 := Lib.hid (((HW4.out.2.2.2.1.set c e).far (i := w.heap.size + 1) (j := 0) (by omega) (.int .i64 a')).far (i := w.heap.size + 1) (j := 1) (by omega) (.int .i64 b'))
          have hbel := Lib.hid HW4.out.1
          have y10 := yf1 0
          have y11 := yf1 1
          have v10 := vf1 0
          have v11 := vf1 1
          clear yf1 vf1
          go_region_held3 (fun w' => w'.cell? ⟨w.heap.size + 1 + 1 + 1, 0, none⟩ = some (.int .i64 a') ∧ w'.cell? ⟨w.heap.size + 1 + 1 + 1, 1, none⟩ = some (.int .i64 b') ∧ w'.cell? ⟨w.heap.size + 1 + 1 + 1 + 1, 0, none⟩ = some (.int .i64 c) ∧ w'.cell? ⟨w.heap.size + 1 + 1 + 1 + 1, 1, none⟩ = some (.int .i64 e)) (go_keep) (fail)
          all_goals
            go_wp2
            refine bodyPost_ret (v := .tuple #[.agg #[.int .i64 a', .int .i64 b'], .agg #[.int .i64 c, .int .i64 e]]) ?_ rfl ⟨by obtain ⟨e1, e2, e3, e4⟩ := HEND.out; rw [e1, e2, e3, e4], ?_⟩
            · obtain ⟨z1, z2, _, _⟩ := Q1.out
              obtain ⟨z3, z4, _, _⟩ := Q2.out
              obtain ⟨z5, z6, _, _⟩ := Q3.out
              obtain ⟨z7, z8, _, _⟩ := Q4.out
              first
                | (simp [results, Tryz.results62, go_sem, z1, z2, z3, z4]; done)
                | (simp [results, Tryz.results62, go_sem, z5, z6, z7, z8]; done)
            · repeat (first | exact hbel.out | refine ext_set ?_ (by first | (simp; done) | (simp; omega)) _ | refine ext_drew ?_)
        · have HMV := Lib.hid (moves most HBB.out HEE.out nb' ne k0 m0 hkm nb2' HB3.out.e2)
          go_wp2_with fail
          all_goals
            refine ⟨⟨a', b', c', e', HB3.out, HW4.out⟩, ?_⟩
            rw [HW4.out.ms most, HW1.out.ms most]
            exact HMV.out
      · obtain rfl : m = v2 := by omega
        clear hm
        have hc := HC.out
        have he := HEE.out
        obtain ⟨s1, ⟨r0, r1, _, _⟩, _, _, ⟨r2, r3, _, _⟩, r4, r5, rf1, _⟩ := HW3.out
        have rf10 := rf1 0
        have rf11 := rf1 1
        clear rf1
        go_wp2_with fail
        go_quiet (fail)
        have HW4 := Lib.hid ((HW3.out.next (W' := W3.drewN nq) ⟨rfl, rfl, rfl, Nat.le_refl _, fun _ _ => rfl⟩).high c' e')
        by_cases hkm : k = 0 ∧ m = 0
        · obtain ⟨rfl, rfl⟩ := hkm
          have t1 : ((0 : Int) == 0) = true := rfl
          have HEND := Lib.hid (ends HF.out HS.out HB.out HA.out HBB.out HC.out HEE.out HK.out HM.out)
          clear hc he
          obtain rfl : c = c' := by have := HC.out; omega
          obtain rfl : e = e' := by have := HEE.out; omega
          go_wp2_with fail
          generalize ((W3.drewN nq).setCell ⟨w.heap.size + 1 + 1 + 1 + 1, 0, none⟩ (.int .i64 c)).setCell ⟨w.heap.size + 1 + 1 + 1 + 1, 1, none⟩ (.int .i64 e) = W4 at *
          clear s1 r0 r1 r2 r3 r4 r5 rf10 rf11 hu2 hv2
          obtain ⟨s1, ⟨r0, r1, _, _⟩, ⟨y0, y1, yf1, _⟩, ⟨v0, v1, vf1, _⟩, ⟨r2, r3, _, _⟩, r4, r5, _, _⟩ := HW4.out
          have Q1 := Lib.hid (((HW4.out.2.2.1.set a' b').far (i := w.heap.size + 1 + 1) (j := 0) (by omega) (.int .i64 c)).far (i := w.heap.size + 1 + 1) (j := 1) (by omega) (.int .i64 e))
          have Q2 := Lib.hid (((HW4.out.2.2.2.1.far (i := w.heap.size + 1) (j := 0) (by omega) (.int .i64 a')).far (i := w.heap.size + 1) (j := 1) (by omega) (.int .i64 b')).set c e)
          have Q3 := Lib.hid ((HW4.out.2.2.1.far (i := w.heap.size + 1 + 1) (j := 0) (by omega) (.int .i64 c)).far (i := w.heap.size + 1 + 1) (j := 1) (by omega) (.int .i64 e) |>.set a' b')
          have Q4 := Lib.hid (((HW4.out.2.2.2.1.set c e).far (i := w.heap.size + 1) (j := 0) (by omega) (.int .i64 a')).far (i := w.heap.size + 1) (j := 1) (by omega) (.int .i64 b'))
          have hbel := Lib.hid HW4.out.1
          have y10 := yf1 0
          have y11 := yf1 1
          have v10 := vf1 0
          have v11 := vf1 1
          clear yf1 vf1
          go_region_held3 (fun w' => w'.cell? ⟨w.heap.size + 1 + 1 + 1, 0, none⟩ = some (.int .i64 a') ∧ w'.cell? ⟨w.heap.size + 1 + 1 + 1, 1, none⟩ = some (.int .i64 b') ∧ w'.cell? ⟨w.heap.size + 1 + 1 + 1 + 1, 0, none⟩ = some (.int .i64 c) ∧ w'.cell? ⟨w.heap.size + 1 + 1 + 1 + 1, 1, none⟩ = some (.int .i64 e)) (go_keep) (fail)
          all_goals
            go_wp2
            refine bodyPost_ret (v := .tuple #[.agg #[.int .i64 a', .int .i64 b'], .agg #[.int .i64 c, .int .i64 e]]) ?_ rfl ⟨by obtain ⟨e1, e2, e3, e4⟩ := HEND.out; rw [e1, e2, e3, e4], ?_⟩
            · obtain ⟨z1, z2, _, _⟩ := Q1.out
              obtain ⟨z3, z4, _, _⟩ := Q2.out
              obtain ⟨z5, z6, _, _⟩ := Q3.out
              obtain ⟨z7, z8, _, _⟩ := Q4.out
              first
                | (simp [results, Tryz.results62, go_sem, z1, z2, z3, z4]; done)
                | (simp [results, Tryz.results62, go_sem, z5, z6, z7, z8]; done)
            · repeat (first | exact hbel.out | refine ext_set ?_ (by first | (simp; done) | (simp; omega)) _ | refine ext_drew ?_)
        · have HMV := Lib.hid (moves most HBB.out HEE.out nb' ne k0 m0 hkm nb2' HB3.out.e2)
          go_wp2_with fail
          all_goals
            refine ⟨⟨a', b', c', e', HB3.out, HW4.out⟩, ?_⟩
            rw [HW4.out.ms most, HW1.out.ms most]
            exact HMV.out
end Go.Proofs.YtpgkellmhlmjeaaGreatDoor
namespace Go.Proofs.YtpgkellmhlmjeaaGreatDoor
open Go.RowKit Go.Sort
theorem l00Min_any (a b m : Int) (h : min a b = m) (w : World) : Calls Tryz.prog 138 #[.int .i64 a, .int .i64 b] w fun e w' => e = .returned (.int .i64 m) ∧ w = w' := by
  have H := Lib.hid h
  clear h
  by_cases h1 : a < b
  all_goals
    by_cases h2 : b < a
    all_goals
      first
      | omega
      | (go_enter Tryz.func138, Tryz.ntmps138
         go_wp2
         go_ret
         exact ⟨ret_int (by have := H.out; omega), rfl⟩)
end Go.Proofs.YtpgkellmhlmjeaaGreatDoor
