/- XSideP XSideW XDrawFW XDrawGW XMinW in one text. No condition but those that each theorem names. -/
import Derived.Test.YtkimmahmbacjpaaErrW
import Derived.Test.YtkimmahmbacjpaaExpW
import Derived.Deep.RegionHeld3
import Derived.Test.YtkimmahmbacjpaaMgSrc
import Derived.IntWalk
import Derived.Test.YtkimmahmbacjpaaBase
/- The nearest fractions with bounded denominators on both sides of a fraction: they are one pair. No condition. -/
namespace Go.Proofs.Ytkimmahmbacjpaa
open Go.RowKit Go.Sort

/-- a / b and c / e are neighbours, with denominators up to most, on both sides of n / d. -/
structure Nb (n d most a b c e : Int) : Prop where
  det : c * b - a * e = 1
  lo : 0 < n * b - a * d
  hi : 0 < c * d - n * e
  b1 : 1 ≤ b
  b2 : b ≤ most
  e1 : 1 ≤ e
  e2 : e ≤ most
/-- What is asked of the fraction. -/
structure Fr (n d most : Int) : Prop where
  n1 : -1000000 ≤ n
  n2 : n ≤ 1000000
  d2 : d ≤ 1000000
  most1 : 1 ≤ most
  lt : most < d
  cop : Int.gcd n d = 1

theorem dvd_of_eq {n d a b : Int} (hc : Int.gcd n d = 1) (h : n * b = a * d) : d ∣ b := by
  have h1 : d ∣ n * b := ⟨a, by rw [h, Int.mul_comm]⟩
  have hg : Nat.Coprime d.natAbs n.natAbs := by
    have : Int.gcd d n = 1 := by rw [Int.gcd_comm]; exact hc
    exact this
  have h2 := Int.natAbs_dvd_natAbs.2 h1
  rw [Int.natAbs_mul] at h2
  exact Int.natAbs_dvd_natAbs.1 (hg.dvd_of_dvd_mul_left h2)
theorem no_eq {n d most a b : Int} (F : Fr n d most) (b1 : 1 ≤ b) (b2 : b ≤ most) : n * b - a * d ≠ 0 := by
  intro h
  have h1 := dvd_of_eq F.cop (show n * b = a * d by omega)
  have h2 := Int.le_of_dvd (by omega) h1
  have := F.lt
  omega
theorem Nb.bd {n d most a b c e : Int} (F : Fr n d most) (h : Nb n d most a b c e) : big6 a ∧ big6 b ∧ big6 c ∧ big6 e := by
  obtain ⟨h1, h2, h3, h4, h5, h6, h7⟩ := h
  obtain ⟨n1, n2, d2, m1, lt, _⟩ := F
  have k1 : n * b ≤ 1000000 * b := Int.mul_le_mul_of_nonneg_right n2 (by omega)
  have k2 : -1000000 * b ≤ n * b := Int.mul_le_mul_of_nonneg_right n1 (by omega)
  have k3 : n * e ≤ 1000000 * e := Int.mul_le_mul_of_nonneg_right n2 (by omega)
  have k4 : -1000000 * e ≤ n * e := Int.mul_le_mul_of_nonneg_right n1 (by omega)
  have i1 : b * (c * d - n * e) + e * (n * b - a * d) = d := by
    have : b * (c * d - n * e) + e * (n * b - a * d) = d * (c * b - a * e) := by grind
    rw [this, h1]; omega
  have p1 : 1 ≤ b * (c * d - n * e) := Int.mul_pos (by omega) h3
  have p2 : 1 ≤ e * (n * b - a * d) := Int.mul_pos (by omega) h2
  have q1 : c * d - n * e ≤ b * (c * d - n * e) := by
    have := Int.mul_le_mul_of_nonneg_right (show 1 ≤ b from h4) (show 0 ≤ c * d - n * e by omega)
    omega
  have q2 : n * b - a * d ≤ e * (n * b - a * d) := by
    have := Int.mul_le_mul_of_nonneg_right (show 1 ≤ e from h6) (show 0 ≤ n * b - a * d by omega)
    omega
  have a1 : a < 1000001 := Int.lt_of_mul_lt_mul_right (a := d) (by omega) (by omega)
  have a2 : -1000001 < a := Int.lt_of_mul_lt_mul_right (a := d) (by omega) (by omega)
  have c1 : c < 1000001 := Int.lt_of_mul_lt_mul_right (a := d) (by omega) (by omega)
  have c2 : -1000001 < c := Int.lt_of_mul_lt_mul_right (a := d) (by omega) (by omega)
  unfold big6
  omega

/-- How often one goes from the lower fraction, from the upper one. -/
def loK (n d most a b c e : Int) : Int := min ((n * b - a * d) / (c * d - n * e)) ((most - b) / e)
def hiK (n d most a b c e : Int) : Int := min ((c * d - n * e) / (n * b - a * d)) ((most - e) / b)
theorem div_mul_le {x y : Int} (h : 0 < y) : x / y * y ≤ x := Int.ediv_mul_le x (by omega)
theorem Nb.loStep {n d most a b c e : Int} (F : Fr n d most) (h : Nb n d most a b c e) : 0 ≤ loK n d most a b c e ∧ loK n d most a b c e ≤ 2000000000000 ∧ Nb n d most (a + loK n d most a b c e * c) (b + loK n d most a b c e * e) c e := by
  obtain ⟨ba, bb, bc, be⟩ := h.bd F
  obtain ⟨_, _, _, _, _, x2⟩ := errV_bd (n := n) (d := d) ⟨F.n1, F.n2⟩ ⟨by have := F.lt; have := F.most1; omega, F.d2⟩ ba bb
  obtain ⟨h1, h2, h3, h4, h5, h6, h7⟩ := h
  have g1 : 0 ≤ (n * b - a * d) / (c * d - n * e) := Int.ediv_nonneg (by omega) (by omega)
  have g2 : 0 ≤ (most - b) / e := Int.ediv_nonneg (by omega) (by omega)
  have l1 := div_mul_le (x := n * b - a * d) h3
  have l2 := div_mul_le (x := most - b) (show 0 < e by omega)
  have g3 : (n * b - a * d) / (c * d - n * e) ≤ n * b - a * d := Int.ediv_le_self _ (by omega)
  unfold errV at x2
  generalize hk : loK n d most a b c e = k
  have k0 : 0 ≤ k := by rw [← hk]; unfold loK; omega
  have k1 : k ≤ (n * b - a * d) / (c * d - n * e) := by rw [← hk]; unfold loK; omega
  have k2 : k ≤ (most - b) / e := by rw [← hk]; unfold loK; omega
  have m1 : k * (c * d - n * e) ≤ n * b - a * d := Int.le_trans (Int.mul_le_mul_of_nonneg_right k1 (by omega)) l1
  have m2 : k * e ≤ most - b := Int.le_trans (Int.mul_le_mul_of_nonneg_right k2 (by omega)) l2
  have m3 : 0 ≤ k * e := Int.mul_nonneg k0 (by omega)
  have i1 : n * (b + k * e) - (a + k * c) * d = (n * b - a * d) - k * (c * d - n * e) := by grind
  have hz := no_eq (a := a + k * c) (b := b + k * e) F (by omega) (by omega)
  refine ⟨k0, by omega, by grind, by omega, h3, by omega, by omega, h6, h7⟩
theorem Nb.hiStep {n d most a b c e : Int} (F : Fr n d most) (h : Nb n d most a b c e) : 0 ≤ hiK n d most a b c e ∧ hiK n d most a b c e ≤ 2000000000000 ∧ Nb n d most a b (c + hiK n d most a b c e * a) (e + hiK n d most a b c e * b) := by
  obtain ⟨ba, bb, bc, be⟩ := h.bd F
  obtain ⟨_, _, _, _, _, x2⟩ := errV_bd (n := n) (d := d) ⟨F.n1, F.n2⟩ ⟨by have := F.lt; have := F.most1; omega, F.d2⟩ bc be
  obtain ⟨h1, h2, h3, h4, h5, h6, h7⟩ := h
  have g1 : 0 ≤ (c * d - n * e) / (n * b - a * d) := Int.ediv_nonneg (by omega) (by omega)
  have g2 : 0 ≤ (most - e) / b := Int.ediv_nonneg (by omega) (by omega)
  have l1 := div_mul_le (x := c * d - n * e) h2
  have l2 := div_mul_le (x := most - e) (show 0 < b by omega)
  have g3 : (c * d - n * e) / (n * b - a * d) ≤ c * d - n * e := Int.ediv_le_self _ (by omega)
  unfold errV at x2
  generalize hk : hiK n d most a b c e = k
  have k0 : 0 ≤ k := by rw [← hk]; unfold hiK; omega
  have k1 : k ≤ (c * d - n * e) / (n * b - a * d) := by rw [← hk]; unfold hiK; omega
  have k2 : k ≤ (most - e) / b := by rw [← hk]; unfold hiK; omega
  have m1 : k * (n * b - a * d) ≤ c * d - n * e := Int.le_trans (Int.mul_le_mul_of_nonneg_right k1 (by omega)) l1
  have m2 : k * b ≤ most - e := Int.le_trans (Int.mul_le_mul_of_nonneg_right k2 (by omega)) l2
  have m3 : 0 ≤ k * b := Int.mul_nonneg k0 (by omega)
  have i1 : (c + k * a) * d - n * (e + k * b) = (c * d - n * e) - k * (n * b - a * d) := by grind
  have hz := no_eq (a := c + k * a) (b := e + k * b) F (by omega) (by omega)
  refine ⟨k0, by omega, by grind, h2, by omega, h4, h5, by omega, by omega⟩
/-- Both ways are ended together only where the mediant's denominator is too great. -/
theorem Nb.done {n d most a b c e : Int} (h : Nb n d most a b c e) (k0 : loK n d most a b c e = 0) (m0 : hiK n d most a b c e = 0) : most < b + e := by
  obtain ⟨h1, h2, h3, h4, h5, h6, h7⟩ := h
  refine Int.lt_of_not_ge fun hle => ?_
  have p1 : 1 ≤ (most - b) / e := Int.le_ediv_of_mul_le (by omega) (by omega)
  have p2 : 1 ≤ (most - e) / b := Int.le_ediv_of_mul_le (by omega) (by omega)
  unfold loK at k0
  unfold hiK at m0
  have q1 : (n * b - a * d) / (c * d - n * e) ≤ 0 := by omega
  have q2 : (c * d - n * e) / (n * b - a * d) ≤ 0 := by omega
  have r1 : n * b - a * d < c * d - n * e := by
    refine Int.lt_of_not_ge fun hle => ?_
    have : 1 ≤ (n * b - a * d) / (c * d - n * e) := Int.le_ediv_of_mul_le h3 (by omega)
    omega
  have : 1 ≤ (c * d - n * e) / (n * b - a * d) := Int.le_ediv_of_mul_le h2 (by omega)
  omega
/-- The side on which the mediant lies. -/
theorem Nb.side {n d most a b c e : Int} (F : Fr n d most) (h : Nb n d most a b c e) (hm : b + e ≤ most) : ((a + c) * d < n * (b + e) ∧ 1 ≤ loK n d most a b c e) ∨ (¬ (a + c) * d < n * (b + e) ∧ 1 ≤ hiK n d most a b c e) := by
  have hz := no_eq (a := a + c) (b := b + e) F (by have := h.b1; have := h.e1; omega) hm
  obtain ⟨h1, h2, h3, h4, h5, h6, h7⟩ := h
  have p1 : 1 ≤ (most - b) / e := Int.le_ediv_of_mul_le (by omega) (by omega)
  have p2 : 1 ≤ (most - e) / b := Int.le_ediv_of_mul_le (by omega) (by omega)
  have i1 : n * (b + e) - (a + c) * d = (n * b - a * d) - (c * d - n * e) := by grind
  by_cases hs : (a + c) * d < n * (b + e)
  · refine .inl ⟨hs, ?_⟩
    have : 1 ≤ (n * b - a * d) / (c * d - n * e) := Int.le_ediv_of_mul_le h3 (by omega)
    unfold loK; omega
  · refine .inr ⟨hs, ?_⟩
    have : 1 ≤ (c * d - n * e) / (n * b - a * d) := Int.le_ediv_of_mul_le h2 (by omega)
    unfold hiK; omega
/-- Where one begins. -/
theorem Nb.start {n d most : Int} (F : Fr n d most) : Nb n d most (n / d) 1 (n / d + 1) 1 := by
  have hd : 0 < d := by have := F.lt; have := F.most1; omega
  have h1 := Int.mul_ediv_add_emod n d
  have h2 := Int.emod_nonneg n (show d ≠ 0 by omega)
  have h3 := Int.emod_lt_of_pos n hd
  have hz := no_eq (a := n / d) (b := 1) F (by omega) F.most1
  have i1 : n / d * d = d * (n / d) := Int.mul_comm _ _
  have i2 : (n / d + 1) * d = d * (n / d) + d := by rw [Int.add_mul, i1]; omega
  exact ⟨by omega, by omega, by rw [i2]; omega, by omega, F.most1, by omega, F.most1⟩
/-- The pair on both sides, of which no fraction between has a denominator up to most. -/
def Sides (n d most a b c e : Int) : Prop := Nb n d most a b c e ∧ most < b + e
theorem Nb.between {n d most a b c e p q : Int} (h : Nb n d most a b c e) (hs : most < b + e) (h1 : 0 < p * b - a * q) (h2 : 0 < c * q - p * e) : most < q := by
  obtain ⟨det, _, _, b1, _, e1, _⟩ := h
  have i1 : b * (c * q - p * e) + e * (p * b - a * q) = q := by
    have : b * (c * q - p * e) + e * (p * b - a * q) = q * (c * b - a * e) := by grind
    rw [this, det]; omega
  have q1 : b ≤ b * (c * q - p * e) := by
    have := Int.mul_le_mul_of_nonneg_left (show 1 ≤ c * q - p * e from h2) (show 0 ≤ b by omega)
    omega
  have q2 : e ≤ e * (p * b - a * q) := by
    have := Int.mul_le_mul_of_nonneg_left (show 1 ≤ p * b - a * q from h1) (show 0 ≤ e by omega)
    omega
  omega
theorem pos_of_mul {x d : Int} (hd : 0 < d) (h : 0 < d * x) : 0 < x := by
  rcases Int.lt_or_le 0 x with h1 | h1
  · exact h1
  · have := Int.mul_le_mul_of_nonneg_left h1 (show 0 ≤ d by omega)
    omega
theorem unit_eq {t s : Int} (ht : 0 < t) (hs : 0 < s) (h : t * s = 1) : t = 1 := by
  have : t ≤ t * s := by
    have := Int.mul_le_mul_of_nonneg_left (show 1 ≤ s from hs) (show 0 ≤ t by omega)
    omega
  omega
theorem Sides.lo_le {n d most a b c e A B C E : Int} (F : Fr n d most) (h : Sides n d most a b c e) (g : Nb n d most A B C E) : A * b ≤ a * B := by
  refine Int.not_lt.1 fun hlt => ?_
  have hd : 0 < d := by have := F.lt; have := F.most1; omega
  have h2 : 0 < c * B - A * e := by
    refine pos_of_mul hd ?_
    have : d * (c * B - A * e) = B * (c * d - n * e) + e * (n * B - A * d) := by grind
    rw [this]
    have p1 := Int.mul_pos (show 0 < B by have := g.b1; omega) h.1.hi
    have p2 := Int.mul_pos (show 0 < e by have := h.1.e1; omega) g.lo
    omega
  have := h.1.between h.2 (p := A) (q := B) (by omega) h2
  have := g.b2
  omega
theorem Sides.hi_le {n d most a b c e A B C E : Int} (F : Fr n d most) (h : Sides n d most a b c e) (g : Nb n d most A B C E) : c * E ≤ C * e := by
  refine Int.not_lt.1 fun hlt => ?_
  have hd : 0 < d := by have := F.lt; have := F.most1; omega
  have h2 : 0 < C * b - a * E := by
    refine pos_of_mul hd ?_
    have : d * (C * b - a * E) = b * (C * d - n * E) + E * (n * b - a * d) := by grind
    rw [this]
    have p1 := Int.mul_pos (show 0 < b by have := h.1.b1; omega) g.hi
    have p2 := Int.mul_pos (show 0 < E by have := g.e1; omega) h.1.lo
    omega
  have := h.1.between h.2 (p := C) (q := E) h2 (by omega)
  have := g.e2
  omega
theorem same_frac {a b A B x y X Y : Int} (b0 : 0 < b) (B0 : 0 < B) (h : A * b = a * B) (u : x * b - a * y = 1) (v : X * B - A * Y = 1) : A = a ∧ B = b := by
  have e1 : B = b * (x * B - y * A) := by
    have : B * (x * b - a * y) = b * (x * B - y * A) := by
      have : B * (a * y) = y * (A * b) := by rw [h]; grind
      grind
    rw [u] at this; omega
  have e2 : b = B * (X * b - Y * a) := by
    have : b * (X * B - A * Y) = B * (X * b - Y * a) := by
      have : b * (A * Y) = Y * (a * B) := by rw [← h]; grind
      grind
    rw [v] at this; omega
  have t0 : 0 < x * B - y * A := pos_of_mul b0 (by omega)
  have s0 : 0 < X * b - Y * a := pos_of_mul B0 (by omega)
  have hts : (x * B - y * A) * (X * b - Y * a) = 1 := by
    have : b * ((x * B - y * A) * (X * b - Y * a)) = b * 1 := by
      rw [← Int.mul_assoc, ← e1, ← e2]; omega
    exact Int.eq_of_mul_eq_mul_left (by omega) this
  have t1 := unit_eq t0 s0 hts
  rw [t1] at e1
  have hB : B = b := by omega
  refine ⟨?_, hB⟩
  rw [hB] at h
  exact Int.eq_of_mul_eq_mul_right (by omega) h
theorem Sides.one {n d most a b c e A B C E : Int} (F : Fr n d most) (h : Sides n d most a b c e) (g : Sides n d most A B C E) : A = a ∧ B = b ∧ C = c ∧ E = e := by
  have l1 := h.lo_le F g.1
  have l2 := g.lo_le F h.1
  have r1 := h.hi_le F g.1
  have r2 := g.hi_le F h.1
  have d1 := h.1.det
  have d2 := g.1.det
  obtain ⟨x1, x2⟩ := same_frac (x := c) (y := e) (X := C) (Y := E) (by have := h.1.b1; omega) (by have := g.1.b1; omega) (show A * b = a * B by omega) d1 d2
  obtain ⟨y1, y2⟩ := same_frac (x := -a) (y := -b) (X := -A) (Y := -B) (by have := h.1.e1; omega) (by have := g.1.e1; omega) (show C * e = c * E by omega) (by grind) (by grind)
  exact ⟨x1, x2, y1, y2⟩
theorem sides_from {n d most : Int} (F : Fr n d most) : ∀ (k : Nat) (a b c e : Int), Nb n d most a b c e → 2 * most - b - e ≤ k → ∃ A B C E, Sides n d most A B C E
  | 0, a, b, c, e, h, hk => ⟨a, b, c, e, h, by have := h.b2; have := h.e2; have := h.b1; omega⟩
  | k + 1, a, b, c, e, h, hk => by
    by_cases hs : most < b + e
    · exact ⟨a, b, c, e, h, hs⟩
    · rcases h.side F (by omega) with ⟨_, h1⟩ | ⟨_, h1⟩
      · obtain ⟨_, _, h2⟩ := h.loStep F
        refine sides_from F k _ _ _ _ h2 ?_
        have := Int.mul_le_mul_of_nonneg_right h1 (show 0 ≤ e by have := h.e1; omega)
        have := h.e1
        omega
      · obtain ⟨_, _, h2⟩ := h.hiStep F
        refine sides_from F k _ _ _ _ h2 ?_
        have := Int.mul_le_mul_of_nonneg_right h1 (show 0 ≤ b by have := h.b1; omega)
        have := h.b1
        omega
theorem sides_ex {n d most : Int} (F : Fr n d most) : ∃ A B C E, Sides n d most A B C E :=
  sides_from F (2 * most - 1 - 1).toNat _ _ _ _ (Nb.start F) (by have := F.most1; omega)
theorem Nb.ne {n d most a b c e : Int} (h : Nb n d most a b c e) : ¬ (a = c ∧ b = e) := by
  rintro ⟨rfl, rfl⟩
  have := h.det
  omega
/-- The errors of the two sides. -/
theorem Nb.err {n d most a b c e : Int} (h : Nb n d most a b c e) : errV n d a b = n * b - a * d ∧ errV n d c e = c * d - n * e := by
  have := h.lo
  have := h.hi
  unfold errV
  omega
end Go.Proofs.Ytkimmahmbacjpaa

/- The nearest fractions on both sides: the walks. No condition but those that each theorem names. -/
namespace Go.Proofs.Ytkimmahmbacjpaa
open Go.RowKit Go.Sort

/-- Block g is two cells. -/
def B2 (g : Nat) (x y : Int) (W : World) : Prop := W.cell? ⟨g, 0, none⟩ = some (.int .i64 x) ∧ W.cell? ⟨g, 1, none⟩ = some (.int .i64 y) ∧ (∀ j, W.frozen? ⟨g, j, none⟩ = false) ∧ g < W.heap.size
theorem B2.next {g : Nat} {x y : Int} {W W' : World} (h : B2 g x y W) (hb : Below W.heap.size W W') : B2 g x y W' :=
  ⟨(hb.cell (p := ⟨g, 0, none⟩) h.2.2.2).trans h.1, (hb.cell (p := ⟨g, 1, none⟩) h.2.2.2).trans h.2.1, fun j => (hb.frozen (p := ⟨g, j, none⟩) h.2.2.2).trans (h.2.2.1 j), Nat.lt_of_lt_of_le h.2.2.2 hb.size⟩
theorem B2.new (W : World) (x y : Int) (T : TypeId) : B2 W.heap.size x y (W.alloc (.cells #[.int .i64 x, .int .i64 y] T)) :=
  ⟨by rw [cell_one]; rfl, by rw [cell_one]; rfl, fun j => World.frozen?_alloc_at _ _ _ _ rfl, by simp⟩
theorem B2.new_at {g : Nat} {W : World} (x y : Int) (T : TypeId) (h : g = W.heap.size) : B2 g x y (W.alloc (.cells #[.int .i64 x, .int .i64 y] T)) := h ▸ B2.new W x y T
theorem B2.far {g i j : Nat} {x y : Int} {W : World} (h : B2 g x y W) (hi : g ≠ i) (u : Value) : B2 g x y (W.setCell ⟨i, j, none⟩ u) := by
  have o : ∀ m, (W.setCell ⟨i, j, none⟩ u).cell? ⟨g, m, none⟩ = W.cell? ⟨g, m, none⟩ := fun m => World.cell?_setCell_other _ _ _ _ (by intro e; injection e; omega)
  exact ⟨(o 0).trans h.1, (o 1).trans h.2.1, fun m => (World.frozen?_setCell _ _ _ _).trans (h.2.2.1 m), by simpa using h.2.2.2⟩
theorem B2.set {g : Nat} {x y : Int} {W : World} (h : B2 g x y W) (a b : Int) : B2 g a b ((W.setCell ⟨g, 0, none⟩ (.int .i64 a)).setCell ⟨g, 1, none⟩ (.int .i64 b)) := by
  obtain ⟨h0, h1, hf, hl⟩ := h
  obtain ⟨s0, s1⟩ := set_two h0 h1
  exact ⟨(World.cell?_setCell_other _ ⟨g, 1, none⟩ ⟨g, 0, none⟩ _ (by simp)).trans (s0 _), s1 _ _, fun m => (World.frozen?_setCell _ _ _ _).trans ((World.frozen?_setCell _ _ _ _).trans (hf m)), by simpa using hl⟩
/-- The state while one goes towards the fraction: it, both results, the lower and the upper one. -/
def SW (w : World) (n d a b c e : Int) (W : World) : Prop :=
  Below w.heap.size w W ∧ B2 w.heap.size n d W ∧ B2 (w.heap.size + 1) 0 0 W ∧ B2 (w.heap.size + 1 + 1) 0 0 W ∧ B2 (w.heap.size + 1 + 1 + 1) a b W ∧ B2 (w.heap.size + 1 + 1 + 1 + 1) c e W
theorem SW.next {w : World} {n d a b c e : Int} {W W' : World} (h : SW w n d a b c e W) (hb : Below W.heap.size W W') : SW w n d a b c e W' :=
  ⟨ext_trans h.1 hb, h.2.1.next hb, h.2.2.1.next hb, h.2.2.2.1.next hb, h.2.2.2.2.1.next hb, h.2.2.2.2.2.next hb⟩
theorem SW.low {w : World} {n d a b c e : Int} {W : World} (h : SW w n d a b c e W) (x y : Int) : SW w n d x y c e ((W.setCell ⟨w.heap.size + 1 + 1 + 1, 0, none⟩ (.int .i64 x)).setCell ⟨w.heap.size + 1 + 1 + 1, 1, none⟩ (.int .i64 y)) :=
  ⟨ext_set (ext_set h.1 (by simp; omega) _) (by simp; omega) _, (h.2.1.far (by omega) _).far (by omega) _, (h.2.2.1.far (by omega) _).far (by omega) _, (h.2.2.2.1.far (by omega) _).far (by omega) _, h.2.2.2.2.1.set x y, (h.2.2.2.2.2.far (by omega) _).far (by omega) _⟩
theorem SW.high {w : World} {n d a b c e : Int} {W : World} (h : SW w n d a b c e W) (x y : Int) : SW w n d a b x y ((W.setCell ⟨w.heap.size + 1 + 1 + 1 + 1, 0, none⟩ (.int .i64 x)).setCell ⟨w.heap.size + 1 + 1 + 1 + 1, 1, none⟩ (.int .i64 y)) :=
  ⟨ext_set (ext_set h.1 (by simp; omega) _) (by simp; omega) _, (h.2.1.far (by omega) _).far (by omega) _, (h.2.2.1.far (by omega) _).far (by omega) _, (h.2.2.2.1.far (by omega) _).far (by omega) _, (h.2.2.2.2.1.far (by omega) _).far (by omega) _, h.2.2.2.2.2.set x y⟩
theorem SW.start (w : World) (n d a b c e : Int) (T : TypeId) : SW w n d a b c e (((((w.alloc (.cells #[.int .i64 n, .int .i64 d] T)).alloc (.cells #[.int .i64 0, .int .i64 0] T)).alloc (.cells #[.int .i64 0, .int .i64 0] T)).alloc (.cells #[.int .i64 a, .int .i64 b] T)).alloc (.cells #[.int .i64 c, .int .i64 e] T)) :=
  ⟨ext_alloc (ext_alloc (ext_alloc (ext_alloc (ext_alloc (Below.refl _ _) _) _) _) _) _,
   ((((B2.new w n d T).next (ext1 _ _)).next (ext1 _ _)).next (ext1 _ _)).next (ext1 _ _),
   (((B2.new_at 0 0 T (by simp)).next (ext1 _ _)).next (ext1 _ _)).next (ext1 _ _), ((B2.new_at 0 0 T (by simp)).next (ext1 _ _)).next (ext1 _ _), (B2.new_at a b T (by simp)).next (ext1 _ _), B2.new_at c e T (by simp)⟩

theorem ends {n d most A B C E a b c e a' b' c' e' : Int} (F : Fr n d most) (S : Sides n d most A B C E) (h : Nb n d most a b c e) (ha : a + 0 * c = a') (hb : b + 0 * e = b') (hc : c + 0 * a' = c') (he : e + 0 * b' = e') (hk : loK n d most a b c e = 0) (hm : hiK n d most a' b' c e = 0) :
    a' = A ∧ b' = B ∧ c' = C ∧ e' = E := by
  obtain rfl : a = a' := by omega
  obtain rfl : b = b' := by omega
  obtain rfl : c = c' := by omega
  obtain rfl : e = e' := by omega
  exact S.one F ⟨h, h.done hk hm⟩
theorem moves {b e b' e' k m : Int} (most : Int) (hb : b + k * e = b') (he : e + m * b' = e') (b1 : 1 ≤ b') (e1 : 1 ≤ e) (k0 : 0 ≤ k) (m0 : 0 ≤ m) (h : ¬ (k = 0 ∧ m = 0)) (hb2 : b' ≤ most) (he2 : e' ≤ most) : (2 * most - b' - e').toNat < (2 * most - b - e).toNat := by
  have p1 : k * 1 ≤ k * e := Int.mul_le_mul_of_nonneg_left e1 k0
  have p2 : m * 1 ≤ m * b' := Int.mul_le_mul_of_nonneg_left b1 m0
  omega
/-- The integer in a cell. -/
def ci (W : World) (g j : Nat) : Int := match W.cell? ⟨g, j, none⟩ with | some v => intOf v | none => 0
def mS (w : World) (most : Int) (W : World) : Nat := (2 * most - ci W (w.heap.size + 1 + 1 + 1) 1 - ci W (w.heap.size + 1 + 1 + 1 + 1) 1).toNat
theorem SW.ms {w : World} {n d a b c e : Int} {W : World} (h : SW w n d a b c e W) (most : Int) : mS w most W = (2 * most - b - e).toNat := by
  unfold mS ci
  rw [h.2.2.2.2.1.2.1, h.2.2.2.2.2.2.1]
  rfl
theorem errV_pos {n d most a b c e : Int} (F : Fr n d most) (h : Nb n d most a b c e) : 1 ≤ errV n d a b ∧ errV n d a b ≤ 2000000000000 ∧ 1 ≤ errV n d c e ∧ errV n d c e ≤ 2000000000000 := by
  obtain ⟨ba, bb, bc, be⟩ := h.bd F
  have hd : big6 d := ⟨by have := F.lt; have := F.most1; omega, F.d2⟩
  obtain ⟨_, _, _, _, _, x2⟩ := errV_bd (n := n) (d := d) ⟨F.n1, F.n2⟩ hd ba bb
  obtain ⟨_, _, _, _, _, y2⟩ := errV_bd (n := n) (d := d) ⟨F.n1, F.n2⟩ hd bc be
  obtain ⟨e1, e2⟩ := h.err
  have := h.lo
  have := h.hi
  omega
/-- One goes up from the lower side. -/
theorem Nb.goLow {n d most a b c e : Int} (F : Fr n d most) (h : Nb n d most a b c e) : ∃ k a' b' : Int, Hid (loK n d most a b c e = k) ∧ min (errV n d a b / errV n d c e) ((most - b) / e) = k ∧ a + k * c = a' ∧ b + k * e = b' ∧ errV n d a b - k * errV n d c e = errV n d a' b' ∧ 0 ≤ k ∧ k ≤ 2000000000000 ∧
    0 ≤ errV n d a b / errV n d c e ∧ 0 ≤ (most - b) / e ∧ k * errV n d c e ≤ errV n d a b ∧ 0 ≤ k * errV n d c e ∧ Hid (Nb n d most a' b' c e) ∧ big6 a' ∧ big6 b' := by
  obtain ⟨k0, k1, h2⟩ := h.loStep F
  obtain ⟨e1, e2⟩ := h.err
  obtain ⟨e3, _⟩ := h2.err
  obtain ⟨ba, bb, _, _⟩ := h2.bd F
  have p1 := h.lo
  have p2 := h.hi
  have p3 := h.b2
  have p4 := h.e1
  have g1 : 0 ≤ errV n d a b / errV n d c e := Int.ediv_nonneg (by omega) (by omega)
  have g2 : 0 ≤ (most - b) / e := Int.ediv_nonneg (by omega) (by omega)
  have i1 : errV n d a b - loK n d most a b c e * errV n d c e = errV n d (a + loK n d most a b c e * c) (b + loK n d most a b c e * e) := by rw [e3, e1, e2]; grind
  have p5 := h2.lo
  refine ⟨_, _, _, rfl, by unfold loK; rw [e1, e2], rfl, rfl, i1, k0, k1, g1, g2, ?_, Int.mul_nonneg k0 (by omega), h2, ba, bb⟩
  omega
theorem Nb.goHigh {n d most a b c e : Int} (F : Fr n d most) (h : Nb n d most a b c e) : ∃ k c' e' : Int, Hid (hiK n d most a b c e = k) ∧ min (errV n d c e / errV n d a b) ((most - e) / b) = k ∧ c + k * a = c' ∧ e + k * b = e' ∧ 0 ≤ k ∧ k ≤ 2000000000000 ∧
    0 ≤ errV n d c e / errV n d a b ∧ 0 ≤ (most - e) / b ∧ Hid (Nb n d most a b c' e') ∧ big6 c' ∧ big6 e' := by
  obtain ⟨k0, k1, h2⟩ := h.hiStep F
  obtain ⟨e1, e2⟩ := h.err
  obtain ⟨_, _, ba, bb⟩ := h2.bd F
  have p1 := h.lo
  have p2 := h.hi
  have p3 := h.e2
  have p4 := h.b1
  have g1 : 0 ≤ errV n d c e / errV n d a b := Int.ediv_nonneg (by omega) (by omega)
  have g2 : 0 ≤ (most - e) / b := Int.ediv_nonneg (by omega) (by omega)
  exact ⟨_, _, _, rfl, by unfold hiK; rw [e1, e2], rfl, rfl, k0, k1, g1, g2, h2, ba, bb⟩

end Go.Proofs.Ytkimmahmbacjpaa

/- The draws of fractions: the walks. No condition but those that each theorem names. -/
namespace Go.Proofs.Ytkimmahmbacjpaa
open Go.RowKit Go.Sort

theorem B2.keep {g h : Nat} {x y : Int} {W W' : World} (hb : B2 h x y W) (k : Keep g W W') (hg : h ≠ g) : B2 h x y W' :=
  ⟨(k.cell hg hb.2.2.2).trans hb.1, (k.cell hg hb.2.2.2).trans hb.2.1, fun j => (k.frozen hg hb.2.2.2).trans (hb.2.2.1 j), Nat.lt_of_lt_of_le hb.2.2.2 k.2.1⟩
theorem B2.set0 {g : Nat} {x y : Int} {W : World} (h : B2 g x y W) (a : Int) : B2 g a y (W.setCell ⟨g, 0, none⟩ (.int .i64 a)) := by
  obtain ⟨h0, h1, hf, hl⟩ := h
  exact ⟨World.cell?_setCell_same _ _ _ h0, (World.cell?_setCell_other _ ⟨g, 0, none⟩ ⟨g, 1, none⟩ _ (by simp)).trans h1, fun m => (World.frozen?_setCell _ _ _ _).trans (hf m), by simpa using hl⟩
theorem B2.set1 {g : Nat} {x y : Int} {W : World} (h : B2 g x y W) (a : Int) : B2 g x a (W.setCell ⟨g, 1, none⟩ (.int .i64 a)) := by
  obtain ⟨h0, h1, hf, hl⟩ := h
  exact ⟨(World.cell?_setCell_other _ ⟨g, 1, none⟩ ⟨g, 0, none⟩ _ (by simp)).trans h0, World.cell?_setCell_same _ _ _ h1, fun m => (World.frozen?_setCell _ _ _ _).trans (hf m), by simpa using hl⟩
/-- What a draw of a fraction returns. -/
def RetF (g B N : Nat) (w : World) (e : Ending) (w' : World) : Prop := ∃ a b : Int, e = .returned (fracV a b) ∧ Src g B N w' ∧ Keep g w w'
/-- The state of a draw: the source in g, the result in w's first new block. -/
def S0 (g B N : Nat) (w W : World) : Prop := Src g B N W ∧ Keep g w W ∧ B2 w.heap.size 0 0 W ∧ g < w.heap.size
section
variable {g B N : Nat} {w : World} {h : Nat} {a b : Int} {W : World}
theorem Src.lt {g B N : Nat} {W : World} (h : Src g B N W) : g < W.heap.size := by
  obtain ⟨A, n, c, bs, k, sd, h0, h1, h2, h3, h4, h5, h6, h7, h8, h9, h10, h11⟩ := h; exact h10
theorem S0.start (hs : Src g B N w) (T : TypeId) : S0 g B N w (w.alloc (.cells #[.int .i64 0, .int .i64 0] T)) :=
  ⟨hs.next (ext1 _ _), Keep.of (ext1 _ _) hs.lt, B2.new _ _ _ _, hs.lt⟩
theorem S0.keep {M : Nat} {W' : World} (t : S0 g B N w W) (hs : Src g B M W') (k : Keep g W W') : S0 g B M w W' := by
  obtain ⟨t1, t2, t3, t4⟩ := t
  exact ⟨hs, t2.trans k, t3.keep k (by omega), t4⟩
theorem S0.more {M : Nat} (t : S0 g B N w W) (h : N ≤ M) : S0 g B M w W := ⟨t.1.more h, t.2⟩
theorem S0.next {W' : World} (t : S0 g B N w W) (hb : Below W.heap.size W W') : S0 g B N w W' := t.keep (t.1.next hb) (Keep.of hb (Nat.lt_of_lt_of_le t.2.2.2 t.2.1.2.1))
theorem S0.alloc (t : S0 g B N w W) (o : Obj) : S0 g B N w (W.alloc o) := t.next (ext1 _ _)
theorem S0.drew (t : S0 g B N w W) : S0 g B N w W.drew := t.next (ext_drew (Below.refl _ _))
theorem S0.ret {M : Nat} (t : S0 g B N w W) (hM : N ≤ M) (x y : Value) (a b : Int) : RetF g B M w (.returned (fracV a b)) ((W.setCell ⟨w.heap.size, 0, none⟩ x).setCell ⟨w.heap.size, 1, none⟩ y) := by
  obtain ⟨t1, t2, t3, t4⟩ := t
  exact ⟨a, b, rfl, ((t1.setOther t4 _ _).setOther t4 _ _).more hM, (t2.setOther t4 (Nat.le_refl _) _ _).setOther t4 (Nat.le_refl _) _ _⟩
/-- .. and a fraction in block h. -/
def SF (g B N : Nat) (w : World) (h : Nat) (a b : Int) (W : World) : Prop := S0 g B N w W ∧ B2 h a b W ∧ w.heap.size < h
theorem SF.start (t : S0 g B N w W) (a b : Int) (T : TypeId) : SF g B N w W.heap.size a b (W.alloc (.cells #[.int .i64 a, .int .i64 b] T)) :=
  ⟨t.alloc _, B2.new _ _ _ _, t.2.2.1.2.2.2⟩
theorem SF.keep {M : Nat} {W' : World} (t : SF g B N w h a b W) (hs : Src g B M W') (k : Keep g W W') : SF g B M w h a b W' :=
  ⟨t.1.keep hs k, t.2.1.keep k (by have := t.1.2.2.2; have := t.2.2; omega), t.2.2⟩
theorem SF.next {W' : World} (t : SF g B N w h a b W) (hb : Below W.heap.size W W') : SF g B N w h a b W' := t.keep (t.1.1.next hb) (Keep.of hb (Nat.lt_of_lt_of_le t.1.2.2.2 t.1.2.1.2.1))
theorem SF.alloc (t : SF g B N w h a b W) (o : Obj) : SF g B N w h a b (W.alloc o) := t.next (ext1 _ _)
theorem SF.drew (t : SF g B N w h a b W) : SF g B N w h a b W.drew := t.next (ext_drew (Below.refl _ _))
theorem SF.put {a' b' : Int} {j : Nat} {u : Value} (t : SF g B N w h a b W) (r : B2 h a' b' (W.setCell ⟨h, j, none⟩ u)) : SF g B N w h a' b' (W.setCell ⟨h, j, none⟩ u) := by
  obtain ⟨⟨t1, t2, t3, t4⟩, t5, t6⟩ := t
  exact ⟨⟨t1.setOther (by omega) j u, t2.setOther t4 (by omega) j u, t3.far (by omega) u, t4⟩, r, t6⟩
theorem SF.set0 (t : SF g B N w h a b W) (x : Int) : SF g B N w h x b (W.setCell ⟨h, 0, none⟩ (.int .i64 x)) := t.put (t.2.1.set0 x)
theorem SF.set1 (t : SF g B N w h a b W) (x : Int) : SF g B N w h a x (W.setCell ⟨h, 1, none⟩ (.int .i64 x)) := t.put (t.2.1.set1 x)
end
theorem SF.ret {g B N M : Nat} {w : World} {h : Nat} {a b : Int} {W : World} (t : SF g B N w h a b W) (hM : N ≤ M) (x y : Value) : RetF g B M w (.returned (fracV a b)) ((W.setCell ⟨w.heap.size, 0, none⟩ x).setCell ⟨w.heap.size, 1, none⟩ y) := S0.ret t.1 hM x y a b
theorem l02Make_some (n d : Int) (w : World) (n1 : -9223372036854775807 ≤ n) (n2 : n ≤ 9223372036854775807) (d1 : 1 ≤ d) (d2 : d ≤ 9223372036854775807) :
    Calls Try.prog 96 #[.int .i64 n, .int .i64 d] w fun e w' => ∃ u v, e = .returned (fracV u v) ∧ Below w.heap.size w w' :=
  (l02Make_any n d w n1 n2 d1 d2).mono fun _ _ h => ⟨_, _, h⟩
set_option maxHeartbeats 1000000 in
theorem l02Draw_any (g B N : Nat) (w : World) (h : Src g B N w) (hN : N ≤ 900000) :
    Calls Try.prog 93 #[.pointer (some ⟨g, 0, none⟩), .int .i64 300] w (RetF g B (N + 8) w) := by
  have T := Lib.hid (S0.start h 31)
  clear h
  go_enter Try.func93, Try.ntmps93
  go_wp2_with fail
  refine (srcPick_any g B N 601 _ T.out.1 (by omega) (by omega)).mono ?_
  rintro e w1 ⟨x, x1, x2, rfl, S1, K1⟩
  have T := Lib.hid (T.out.keep S1 K1)
  go_wp2_with fail
  refine (srcOne_any g B _ 2 _ T.out.1 (by omega) (by omega)).mono ?_
  rintro e w2 ⟨b, rfl, S2, K2⟩
  have T := Lib.hid (T.out.keep S2 K2)
  clear S1 K1 S2 K2
  cases b
  · go_wp2_with fail
    refine (srcPick_any g B _ 300 _ T.out.1 (by omega) (by omega)).mono ?_
    rintro e w4 ⟨y, y1, y2, rfl, S4, K4⟩
    have T := Lib.hid (T.out.keep S4 K4)
    go_wp2_with fail
    refine (l02Make_some _ _ _ (by omega) (by omega) (by omega) (by omega)).mono ?_
    rintro e w5 ⟨u, v, rfl, hb5⟩
    have T := Lib.hid (T.out.next hb5)
    clear hb5 S4 K4
    obtain ⟨r0, r1, rf, rl⟩ := T.out.2.2.1
    have rf0 := rf 0
    have rf1 := rf 1
    clear rf
    obtain ⟨s0, s1⟩ := set_two r0 r1
    go_wp2
    refine bodyPost_ret ?_ rfl (S0.ret T.out (by omega) _ _ u v)
    simp [results, Try.results93, go_sem, s0, s1]
  · go_wp2_with fail
    refine (srcPick_any g B _ 301 _ T.out.1 (by omega) (by omega)).mono ?_
    rintro e w3 ⟨z, z1, z2, rfl, S3, K3⟩
    have T := Lib.hid ((T.out.keep S3 K3))
    clear S3 K3
    go_wp2_with fail
    refine (srcPick_any g B _ 300 _ T.out.1 (by omega) (by omega)).mono ?_
    rintro e w4 ⟨y, y1, y2, rfl, S4, K4⟩
    have T := Lib.hid (T.out.keep S4 K4)
    go_wp2_with fail
    refine (l02Make_some _ _ _ (by omega) (by omega) (by omega) (by omega)).mono ?_
    rintro e w5 ⟨u, v, rfl, hb5⟩
    have T := Lib.hid (T.out.next hb5)
    clear hb5 S4 K4
    obtain ⟨r0, r1, rf, rl⟩ := T.out.2.2.1
    have rf0 := rf 0
    have rf1 := rf 1
    clear rf
    obtain ⟨s0, s1⟩ := set_two r0 r1
    go_wp2
    refine bodyPost_ret ?_ rfl (S0.ret T.out (by omega) _ _ u v)
    simp [results, Try.results93, go_sem, s0, s1]
set_option maxHeartbeats 4000000 in
theorem l02Bent_any (g B N : Nat) (w : World) (h : Src g B N w) (hN : N ≤ 900000) :
    Calls Try.prog 63 #[.pointer (some ⟨g, 0, none⟩)] w (RetF g B (N + 14) w) := by
  have T := Lib.hid (S0.start h 31)
  clear h
  go_enter Try.func63, Try.ntmps63
  go_wp2_with fail
  refine (l02Draw_any g B N _ T.out.1 (by omega)).mono ?_
  rintro e w1 ⟨a, b, rfl, S1, K1⟩
  have T := Lib.hid (SF.start (T.out.keep S1 K1) a b 31)
  clear S1 K1
  go_wp2_with fail
  refine (srcPick_any g B _ 20 _ T.out.1.1 (by omega) (by omega)).mono ?_
  rintro e w2 ⟨k, k1, k2, rfl, S2, K2⟩
  have T := Lib.hid (T.out.keep S2 K2)
  clear S2 K2
  by_cases e0 : k = 0
  · skip
    obtain ⟨c0, c1, cf, cl⟩ := T.out.2.1
    have cf0 := cf 0
    have cf1 := cf 1
    clear cf
    have hz := Nat.lt_of_lt_of_le T.out.1.2.2.2 T.out.1.2.1.2.1
    go_wp2_with fail
    refine (srcAmong_any g B _ _ _ [-1000000001, -1000000000, 1000000000, 1000000001, -9223372036854775808] _ (T.out.alloc _).1.1 (by omega) (rd_lit _ _ _ _ rfl) (fun b o e => by injection e with e; injection e; omega) (by simp) (by simp)).mono ?_
    rintro e w3 ⟨x, hx, rfl, S3, K3⟩
    have T := Lib.hid ((T.out.alloc _).keep S3 K3)
    clear c0 c1 cf0 cf1 cl hz
    obtain ⟨c0, c1, cf, cl⟩ := T.out.2.1
    have cf0 := cf 0
    have cf1 := cf 1
    clear cf
    have hz := Nat.lt_of_lt_of_le T.out.1.2.2.2 T.out.1.2.1.2.1
    have T := Lib.hid (T.out.set0 x)
    clear S3 K3 hx
    have T0 := Lib.hid T.out.1
    obtain ⟨d0, d1, df, dl⟩ := T.out.2.1
    obtain ⟨r0, r1, rf, rl⟩ := T0.out.2.2.1
    have rf0 := rf 0
    have rf1 := rf 1
    clear rf df
    obtain ⟨s0, s1⟩ := set_two r0 r1
    go_wp2
    refine bodyPost_ret ?_ rfl (SF.ret T.out (by omega) _ _)
    simp [results, Try.results63, go_sem, s0, s1]
  · by_cases e1 : k = 1
    · skip
      obtain ⟨c0, c1, cf, cl⟩ := T.out.2.1
      have cf0 := cf 0
      have cf1 := cf 1
      clear cf
      have hz := Nat.lt_of_lt_of_le T.out.1.2.2.2 T.out.1.2.1.2.1
      go_wp2_with fail
      refine (srcAmong_any g B _ _ _ [-1, 0, 1, 1000000000, 1000000001, 9223372036854775807] _ (T.out.alloc _).1.1 (by omega) (rd_lit _ _ _ _ rfl) (fun b o e => by injection e with e; injection e; omega) (by simp) (by simp)).mono ?_
      rintro e w3 ⟨x, hx, rfl, S3, K3⟩
      have T := Lib.hid ((T.out.alloc _).keep S3 K3)
      clear c0 c1 cf0 cf1 cl hz
      obtain ⟨c0, c1, cf, cl⟩ := T.out.2.1
      have cf0 := cf 0
      have cf1 := cf 1
      clear cf
      have hz := Nat.lt_of_lt_of_le T.out.1.2.2.2 T.out.1.2.1.2.1
      have T := Lib.hid (T.out.set1 x)
      clear S3 K3 hx
      have T0 := Lib.hid T.out.1
      obtain ⟨d0, d1, df, dl⟩ := T.out.2.1
      obtain ⟨r0, r1, rf, rl⟩ := T0.out.2.2.1
      have rf0 := rf 0
      have rf1 := rf 1
      clear rf df
      obtain ⟨s0, s1⟩ := set_two r0 r1
      go_wp2
      refine bodyPost_ret ?_ rfl (SF.ret T.out (by omega) _ _)
      simp [results, Try.results63, go_sem, s0, s1]
    · by_cases e2 : k = 2
      · have T0 := Lib.hid T.out.1
        obtain ⟨r0, r1, rf, rl⟩ := T0.out.2.2.1
        have rf0 := rf 0
        have rf1 := rf 1
        clear rf
        obtain ⟨s0, s1⟩ := set_two r0 r1
        go_wp2
        refine bodyPost_ret ?_ rfl (S0.ret T0.out (by omega) _ _ 2 4)
        simp [results, Try.results63, go_sem, s0, s1]
      · by_cases e3 : k = 3
        · go_wp2_with fail
          refine (srcPick_any g B _ 5 _ T.out.1.1 (by omega) (by omega)).mono ?_
          rintro e w3 ⟨x, x1, x2, rfl, S3, K3⟩
          have T := Lib.hid (T.out.keep S3 K3)
          go_wp2_with fail
          refine (srcPick_any g B _ 5 _ T.out.1.1 (by omega) (by omega)).mono ?_
          rintro e w4 ⟨y, y1, y2, rfl, S4, K4⟩
          have T := Lib.hid (T.out.keep S4 K4)
          go_wp2_with fail
          refine (l02Make_some _ _ _ (by omega) (by omega) (by omega) (by omega)).mono ?_
          rintro e w5 ⟨u, v, rfl, hb5⟩
          have T := Lib.hid (T.out.next hb5)
          clear hb5 S3 K3 S4 K4
          obtain ⟨c0, c1, cf, cl⟩ := T.out.2.1
          have cf0 := cf 0
          have cf1 := cf 1
          clear cf
          have hz := Nat.lt_of_lt_of_le T.out.1.2.2.2 T.out.1.2.1.2.1
          have T := Lib.hid ((T.out.set0 u).set1 v)
          have T0 := Lib.hid T.out.1
          obtain ⟨d0, d1, df, dl⟩ := T.out.2.1
          obtain ⟨r0, r1, rf, rl⟩ := T0.out.2.2.1
          have rf0 := rf 0
          have rf1 := rf 1
          clear rf df
          obtain ⟨s0, s1⟩ := set_two r0 r1
          go_wp2
          refine bodyPost_ret ?_ rfl (SF.ret T.out (by omega) _ _)
          simp [results, Try.results63, go_sem, s0, s1]
        · skip
          obtain ⟨c0, c1, cf, cl⟩ := T.out.2.1
          have cf0 := cf 0
          have cf1 := cf 1
          clear cf
          have hz := Nat.lt_of_lt_of_le T.out.1.2.2.2 T.out.1.2.1.2.1
          have T0 := Lib.hid T.out.1
          obtain ⟨d0, d1, df, dl⟩ := T.out.2.1
          obtain ⟨r0, r1, rf, rl⟩ := T0.out.2.2.1
          have rf0 := rf 0
          have rf1 := rf 1
          clear rf df
          obtain ⟨s0, s1⟩ := set_two r0 r1
          go_wp2
          refine bodyPost_ret ?_ rfl (SF.ret T.out (by omega) _ _)
          simp [results, Try.results63, go_sem, s0, s1]
end Go.Proofs.Ytkimmahmbacjpaa

/- What the gears' statements draw from a code of bytes: the walks. No condition but those that each theorem names. -/
namespace Go.Proofs.Ytkimmahmbacjpaa
open Go.RowKit Go.Sort

theorem S0.fin {g B N M : Nat} {w W : World} (t : S0 g B N w W) (hM : N ≤ M) (x y : Value) : Src g B M ((W.setCell ⟨w.heap.size, 0, none⟩ x).setCell ⟨w.heap.size, 1, none⟩ y) ∧ Keep g w ((W.setCell ⟨w.heap.size, 0, none⟩ x).setCell ⟨w.heap.size, 1, none⟩ y) := by
  obtain ⟨t1, t2, t3, t4⟩ := t
  exact ⟨((t1.setOther t4 _ _).setOther t4 _ _).more hM, (t2.setOther t4 (Nat.le_refl _) _ _).setOther t4 (Nat.le_refl _) _ _⟩
/-- The state of a statement's draw: the source behind the result. -/
def SG (N : Nat) (w W : World) : Prop := Src (w.heap.size + 1) (w.heap.size + 1) N W ∧ B2 w.heap.size 0 0 W ∧ Below w.heap.size w W
section
variable {N M : Nat} {w W W' : World} {h : Nat} {a b : Int}
theorem SG.keep (t : SG N w W) (hs : Src (w.heap.size + 1) (w.heap.size + 1) M W') (k : Keep (w.heap.size + 1) W W') : SG M w W' := ⟨hs, t.2.1.keep k (by omega), t.2.2.trans (k.1.mono (by omega))⟩
theorem SG.next (t : SG N w W) (hb : Below W.heap.size W W') : SG N w W' := t.keep (t.1.next hb) (Keep.of hb t.1.lt)
theorem SG.start {T : TypeId} (hs : Src (w.alloc (.cells #[.int .i64 0, .int .i64 0] T)).heap.size (w.alloc (.cells #[.int .i64 0, .int .i64 0] T)).heap.size N W) (hb : Below (w.alloc (.cells #[.int .i64 0, .int .i64 0] T)).heap.size (w.alloc (.cells #[.int .i64 0, .int .i64 0] T)) W) : SG N w W :=
  ⟨by simpa using hs, (B2.new _ _ _ T).next hb, ext_trans (ext1 _ _) hb⟩
theorem SG.end_ (t : SG N w W) (x y : Value) : Below w.heap.size w ((W.setCell ⟨w.heap.size, 0, none⟩ x).setCell ⟨w.heap.size, 1, none⟩ y) := ext_set (ext_set t.2.2 (Nat.le_refl _) _) (Nat.le_refl _) _
def SH (N : Nat) (w : World) (h : Nat) (a b : Int) (W : World) : Prop := SG N w W ∧ B2 h a b W ∧ w.heap.size + 1 < h
theorem SH.start (t : SG N w W) (a b : Int) (T : TypeId) : SH N w W.heap.size a b (W.alloc (.cells #[.int .i64 a, .int .i64 b] T)) := ⟨t.next (ext1 _ _), B2.new _ _ _ _, t.1.lt⟩
theorem SH.keep (t : SH N w h a b W) (hs : Src (w.heap.size + 1) (w.heap.size + 1) M W') (k : Keep (w.heap.size + 1) W W') : SH M w h a b W' := ⟨t.1.keep hs k, t.2.1.keep k (by have := t.2.2; omega), t.2.2⟩
theorem SH.next (t : SH N w h a b W) (hb : Below W.heap.size W W') : SH N w h a b W' := t.keep (t.1.1.next hb) (Keep.of hb t.1.1.lt)
theorem SH.put {a' b' : Int} {j : Nat} {u : Value} (t : SH N w h a b W) (r : B2 h a' b' (W.setCell ⟨h, j, none⟩ u)) : SH N w h a' b' (W.setCell ⟨h, j, none⟩ u) :=
  ⟨⟨t.1.1.setOther t.2.2 j u, t.1.2.1.far (by have := t.2.2; omega) u, ext_set t.1.2.2 (by have := t.2.2; show w.heap.size ≤ h; omega) u⟩, r, t.2.2⟩
theorem SH.set0 (t : SH N w h a b W) (x : Int) : SH N w h x b (W.setCell ⟨h, 0, none⟩ (.int .i64 x)) := t.put (t.2.1.set0 x)
theorem SH.set1 (t : SH N w h a b W) (x : Int) : SH N w h a x (W.setCell ⟨h, 1, none⟩ (.int .i64 x)) := t.put (t.2.1.set1 x)
end
/-- What the statement's draw returns. -/
def RetGear (w : World) (e : Ending) (w' : World) : Prop := ∃ a b lo hi : Int, e = .returned (.tuple #[fracV a b, .int .i64 lo, .int .i64 hi]) ∧ Below w.heap.size w w'
theorem SH.ret {N : Nat} {w W : World} {h : Nat} {a b : Int} (t : SH N w h a b W) (lo hi : Int) (x y : Value) : RetGear w (.returned (.tuple #[fracV a b, .int .i64 lo, .int .i64 hi])) ((W.setCell ⟨w.heap.size, 0, none⟩ x).setCell ⟨w.heap.size, 1, none⟩ y) := ⟨a, b, lo, hi, rfl, t.1.end_ x y⟩
/-- A fraction's cells in block h. -/
def RF (h : Nat) (a b : Int) (W : World) : Prop := W.cell? ⟨h, 0, none⟩ = some (.int .i64 a) ∧ W.cell? ⟨h, 1, none⟩ = some (.int .i64 b)
theorem RF.set {h i j : Nat} {u : Value} {a b : Int} {W : World} (t : RF h a b W) (hi : h ≠ i) : RF h a b (W.setCell ⟨i, j, none⟩ u) := by
  have o : ∀ m, (W.setCell ⟨i, j, none⟩ u).cell? ⟨h, m, none⟩ = W.cell? ⟨h, m, none⟩ := fun m => World.cell?_setCell_other _ _ _ _ (by intro e; injection e; omega)
  exact ⟨(o 0).trans t.1, (o 1).trans t.2⟩
end Go.Proofs.Ytkimmahmbacjpaa

/- The lesser and the greater of two numbers: the walks. No condition. -/
namespace Go.Proofs.Ytkimmahmbacjpaa
open Go.RowKit Go.Sort

end Go.Proofs.Ytkimmahmbacjpaa
