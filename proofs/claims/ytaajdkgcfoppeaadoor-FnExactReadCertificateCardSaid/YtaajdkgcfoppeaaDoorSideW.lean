/- The nearest fractions on both sides: the walks. No condition but those that each theorem names. -/
import Derived.Test.YtaajdkgcfoppeaaDoorSideP
import Derived.Test.YtaajdkgcfoppeaaDoorExpW
import Derived.Deep.RegionHeld3
namespace Go.Proofs.YtaajdkgcfoppeaaDoor
open Go.RowKit Go.Sort

/-- Block g is two cells. -/
def B2 (g : Nat) (x y : Int) (W : World) : Prop := W.cell? ⟨g, 0, none⟩ = some (.int .i64 x) ∧ W.cell? ⟨g, 1, none⟩ = some (.int .i64 y) ∧ (∀ j, W.frozen? ⟨g, j, none⟩ = false) ∧ g < W.heap.size
theorem B2.next {g : Nat} {x y : Int} {W W' : World} (h : B2 g x y W) (hb : Below W.heap.size W W') : B2 g x y W' :=
  ⟨(hb.cell (p := ⟨g, 0, none⟩) h.2.2.2).trans h.1, (hb.cell (p := ⟨g, 1, none⟩) h.2.2.2).trans h.2.1, fun j => (hb.frozen (p := ⟨g, j, none⟩) h.2.2.2).trans (h.2.2.1 j), Nat.lt_of_lt_of_le h.2.2.2 hb.size⟩
theorem B2.new (W : World) (x y : Int) (T : TypeId) : B2 W.heap.size x y (W.alloc (.cells #[.int .i64 x, .int .i64 y] T)) :=
  ⟨by rw [cell_one]; rfl, by rw [cell_one]; rfl, fun j => World.frozen?_alloc_at _ _ _ _ rfl, by simp⟩
theorem B2.new_at {g : Nat} {W : World} (x y : Int) (T : TypeId) (h : g = W.heap.size) : B2 g x y (W.alloc (.cells #[.int .i64 x, .int .i64 y] T)) := h ▸ B2.new W x y T
theorem B2.far {g i j : Nat} {x y : Int} {W : World} (h : B2 g x y W) (hi : g ≠ i) (u : Value) : B2 g x y (W.setCell ⟨i, j, none⟩ u) := by
  have o : ∀ m, (W.setCell ⟨i, j, none⟩ u).cell? ⟨g, m, none⟩ = W.cell? ⟨g, m, none⟩ := fun m => World.cell?_setCell_other _ _ _ _ (by intro e; injection e; omega)
  exact ⟨(o 0).trans h.1, (o 1).trans h.2.1, fun m => (World.frozen?_setCell _ _ _ _).trans (h.2.2.1 m), by simpa using h.2.2.2⟩
theorem B2.set {g : Nat} {x y : Int} {W : World} (h : B2 g x y W) (a b : Int) : B2 g a b ((W.setCell ⟨g, 0, none⟩ (.int .i64 a)).setCell ⟨g, 1, none⟩ (.int .i64 b)) := by
  obtain ⟨h0, h1, hf, hl⟩ := h
  obtain ⟨s0, s1⟩ := set_two h0 h1
  exact ⟨(World.cell?_setCell_other _ ⟨g, 1, none⟩ ⟨g, 0, none⟩ _ (by simp)).trans (s0 _), s1 _ _, fun m => (World.frozen?_setCell _ _ _ _).trans ((World.frozen?_setCell _ _ _ _).trans (hf m)), by simpa using hl⟩
/-- The state while one goes towards the fraction: it, both results, the lower and the upper one. -/
def SW (w : World) (n d a b c e : Int) (W : World) : Prop :=
  Below w.heap.size w W ∧ B2 w.heap.size n d W ∧ B2 (w.heap.size + 1) 0 0 W ∧ B2 (w.heap.size + 1 + 1) 0 0 W ∧ B2 (w.heap.size + 1 + 1 + 1) a b W ∧ B2 (w.heap.size + 1 + 1 + 1 + 1) c e W
theorem SW.next {w : World} {n d a b c e : Int} {W W' : World} (h : SW w n d a b c e W) (hb : Below W.heap.size W W') : SW w n d a b c e W' :=
  ⟨ext_trans h.1 hb, h.2.1.next hb, h.2.2.1.next hb, h.2.2.2.1.next hb, h.2.2.2.2.1.next hb, h.2.2.2.2.2.next hb⟩
theorem SW.low {w : World} {n d a b c e : Int} {W : World} (h : SW w n d a b c e W) (x y : Int) : SW w n d x y c e ((W.setCell ⟨w.heap.size + 1 + 1 + 1, 0, none⟩ (.int .i64 x)).setCell ⟨w.heap.size + 1 + 1 + 1, 1, none⟩ (.int .i64 y)) :=
  ⟨ext_set (ext_set h.1 (by simp; omega) _) (by simp; omega) _, (h.2.1.far (by omega) _).far (by omega) _, (h.2.2.1.far (by omega) _).far (by omega) _, (h.2.2.2.1.far (by omega) _).far (by omega) _, h.2.2.2.2.1.set x y, (h.2.2.2.2.2.far (by omega) _).far (by omega) _⟩
theorem SW.high {w : World} {n d a b c e : Int} {W : World} (h : SW w n d a b c e W) (x y : Int) : SW w n d a b x y ((W.setCell ⟨w.heap.size + 1 + 1 + 1 + 1, 0, none⟩ (.int .i64 x)).setCell ⟨w.heap.size + 1 + 1 + 1 + 1, 1, none⟩ (.int .i64 y)) :=
  ⟨ext_set (ext_set h.1 (by simp; omega) _) (by simp; omega) _, (h.2.1.far (by omega) _).far (by omega) _, (h.2.2.1.far (by omega) _).far (by omega) _, (h.2.2.2.1.far (by omega) _).far (by omega) _, (h.2.2.2.2.1.far (by omega) _).far (by omega) _, h.2.2.2.2.2.set x y⟩
theorem SW.start (w : World) (n d a b c e : Int) (T : TypeId) : SW w n d a b c e (((((w.alloc (.cells #[.int .i64 n, .int .i64 d] T)).alloc (.cells #[.int .i64 0, .int .i64 0] T)).alloc (.cells #[.int .i64 0, .int .i64 0] T)).alloc (.cells #[.int .i64 a, .int .i64 b] T)).alloc (.cells #[.int .i64 c, .int .i64 e] T)) :=
  ⟨ext_alloc (ext_alloc (ext_alloc (ext_alloc (ext_alloc (Below.refl _ _) _) _) _) _) _,
   ((((B2.new w n d T).next (ext1 _ _)).next (ext1 _ _)).next (ext1 _ _)).next (ext1 _ _),
   (((B2.new_at 0 0 T (by simp)).next (ext1 _ _)).next (ext1 _ _)).next (ext1 _ _), ((B2.new_at 0 0 T (by simp)).next (ext1 _ _)).next (ext1 _ _), (B2.new_at a b T (by simp)).next (ext1 _ _), B2.new_at c e T (by simp)⟩

theorem ends {n d most A B C E a b c e a' b' c' e' : Int} (F : Fr n d most) (S : Sides n d most A B C E) (h : Nb n d most a b c e) (ha : a + 0 * c = a') (hb : b + 0 * e = b') (hc : c + 0 * a' = c') (he : e + 0 * b' = e') (hk : loK n d most a b c e = 0) (hm : hiK n d most a' b' c e = 0) :
    a' = A ∧ b' = B ∧ c' = C ∧ e' = E := by
  obtain rfl : a = a' := by omega
  obtain rfl : b = b' := by omega
  obtain rfl : c = c' := by omega
  obtain rfl : e = e' := by omega
  exact S.one F ⟨h, h.done hk hm⟩
theorem moves {b e b' e' k m : Int} (most : Int) (hb : b + k * e = b') (he : e + m * b' = e') (b1 : 1 ≤ b') (e1 : 1 ≤ e) (k0 : 0 ≤ k) (m0 : 0 ≤ m) (h : ¬ (k = 0 ∧ m = 0)) (hb2 : b' ≤ most) (he2 : e' ≤ most) : (2 * most - b' - e').toNat < (2 * most - b - e).toNat := by
  have p1 : k * 1 ≤ k * e := Int.mul_le_mul_of_nonneg_left e1 k0
  have p2 : m * 1 ≤ m * b' := Int.mul_le_mul_of_nonneg_left b1 m0
  omega
/-- The integer in a cell. -/
def ci (W : World) (g j : Nat) : Int := match W.cell? ⟨g, j, none⟩ with | some v => intOf v | none => 0
def mS (w : World) (most : Int) (W : World) : Nat := (2 * most - ci W (w.heap.size + 1 + 1 + 1) 1 - ci W (w.heap.size + 1 + 1 + 1 + 1) 1).toNat
theorem SW.ms {w : World} {n d a b c e : Int} {W : World} (h : SW w n d a b c e W) (most : Int) : mS w most W = (2 * most - b - e).toNat := by
  unfold mS ci
  rw [h.2.2.2.2.1.2.1, h.2.2.2.2.2.2.1]
  rfl
theorem errV_pos {n d most a b c e : Int} (F : Fr n d most) (h : Nb n d most a b c e) : 1 ≤ errV n d a b ∧ errV n d a b ≤ 2000000000000 ∧ 1 ≤ errV n d c e ∧ errV n d c e ≤ 2000000000000 := by
  obtain ⟨ba, bb, bc, be⟩ := h.bd F
  have hd : big6 d := ⟨by have := F.lt; have := F.most1; omega, F.d2⟩
  obtain ⟨_, _, _, _, _, x2⟩ := errV_bd (n := n) (d := d) ⟨F.n1, F.n2⟩ hd ba bb
  obtain ⟨_, _, _, _, _, y2⟩ := errV_bd (n := n) (d := d) ⟨F.n1, F.n2⟩ hd bc be
  obtain ⟨e1, e2⟩ := h.err
  have := h.lo
  have := h.hi
  omega
/-- One goes up from the lower side. -/
theorem Nb.goLow {n d most a b c e : Int} (F : Fr n d most) (h : Nb n d most a b c e) : ∃ k a' b' : Int, Hid (loK n d most a b c e = k) ∧ min (errV n d a b / errV n d c e) ((most - b) / e) = k ∧ a + k * c = a' ∧ b + k * e = b' ∧ errV n d a b - k * errV n d c e = errV n d a' b' ∧ 0 ≤ k ∧ k ≤ 2000000000000 ∧
    0 ≤ errV n d a b / errV n d c e ∧ 0 ≤ (most - b) / e ∧ k * errV n d c e ≤ errV n d a b ∧ 0 ≤ k * errV n d c e ∧ Hid (Nb n d most a' b' c e) ∧ big6 a' ∧ big6 b' := by
  obtain ⟨k0, k1, h2⟩ := h.loStep F
  obtain ⟨e1, e2⟩ := h.err
  obtain ⟨e3, _⟩ := h2.err
  obtain ⟨ba, bb, _, _⟩ := h2.bd F
  have p1 := h.lo
  have p2 := h.hi
  have p3 := h.b2
  have p4 := h.e1
  have g1 : 0 ≤ errV n d a b / errV n d c e := Int.ediv_nonneg (by omega) (by omega)
  have g2 : 0 ≤ (most - b) / e := Int.ediv_nonneg (by omega) (by omega)
  have i1 : errV n d a b - loK n d most a b c e * errV n d c e = errV n d (a + loK n d most a b c e * c) (b + loK n d most a b c e * e) := by rw [e3, e1, e2]; grind
  have p5 := h2.lo
  refine ⟨_, _, _, rfl, by unfold loK; rw [e1, e2], rfl, rfl, i1, k0, k1, g1, g2, ?_, Int.mul_nonneg k0 (by omega), h2, ba, bb⟩
  omega
theorem Nb.goHigh {n d most a b c e : Int} (F : Fr n d most) (h : Nb n d most a b c e) : ∃ k c' e' : Int, Hid (hiK n d most a b c e = k) ∧ min (errV n d c e / errV n d a b) ((most - e) / b) = k ∧ c + k * a = c' ∧ e + k * b = e' ∧ 0 ≤ k ∧ k ≤ 2000000000000 ∧
    0 ≤ errV n d c e / errV n d a b ∧ 0 ≤ (most - e) / b ∧ Hid (Nb n d most a b c' e') ∧ big6 c' ∧ big6 e' := by
  obtain ⟨k0, k1, h2⟩ := h.hiStep F
  obtain ⟨e1, e2⟩ := h.err
  obtain ⟨_, _, ba, bb⟩ := h2.bd F
  have p1 := h.lo
  have p2 := h.hi
  have p3 := h.e2
  have p4 := h.b1
  have g1 : 0 ≤ errV n d c e / errV n d a b := Int.ediv_nonneg (by omega) (by omega)
  have g2 : 0 ≤ (most - e) / b := Int.ediv_nonneg (by omega) (by omega)
  exact ⟨_, _, _, rfl, by unfold hiK; rw [e1, e2], rfl, rfl, k0, k1, g1, g2, h2, ba, bb⟩

end Go.Proofs.YtaajdkgcfoppeaaDoor
