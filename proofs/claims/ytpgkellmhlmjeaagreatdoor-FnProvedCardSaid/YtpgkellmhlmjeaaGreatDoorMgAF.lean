/- The nearest fractions with bounded denominators on both sides of a fraction: they are one pair. No condition. -/
import Derived.Test.YtpgkellmhlmjeaaGreatDoorMgAE
namespace Go.Proofs.YtpgkellmhlmjeaaGreatDoor
open Go.RowKit Go.Sort
/-- a / b and c / e are neighbours, with denominators up to most, on both sides of n / d. -/
structure Nb (n d most a b c e : Int) : Prop where
  det : c * b - a * e = 1
  lo : 0 < n * b - a * d
  hi : 0 < c * d - n * e
  b1 : 1 ≤ b
  b2 : b ≤ most
  e1 : 1 ≤ e
  e2 : e ≤ most
/-- What is asked of the fraction. -/
structure Fr (n d most : Int) : Prop where
  n1 : -1000000 ≤ n
  n2 : n ≤ 1000000
  d2 : d ≤ 1000000
  most1 : 1 ≤ most
  lt : most < d
  cop : Int.gcd n d = 1
theorem dvd_of_eq {n d a b : Int} (hc : Int.gcd n d = 1) (h : n * b = a * d) : d ∣ b := by
  have h1 : d ∣ n * b := ⟨a, by rw [h, Int.mul_comm]⟩
  have hg : Nat.Coprime d.natAbs n.natAbs := by
    have : Int.gcd d n = 1 := by rw [Int.gcd_comm]; exact hc
    exact this
  have h2 := Int.natAbs_dvd_natAbs.2 h1
  rw [Int.natAbs_mul] at h2
  exact Int.natAbs_dvd_natAbs.1 (hg.dvd_of_dvd_mul_left h2)
theorem no_eq {n d most a b : Int} (F : Fr n d most) (b1 : 1 ≤ b) (b2 : b ≤ most) : n * b - a * d ≠ 0 := by
  intro h
  have h1 := dvd_of_eq F.cop (show n * b = a * d by omega)
  have h2 := Int.le_of_dvd (by omega) h1
  have := F.lt
  omega
theorem Nb.bd {n d most a b c e : Int} (F : Fr n d most) (h : Nb n d most a b c e) : big6 a ∧ big6 b ∧ big6 c ∧ big6 e := by
  obtain ⟨h1, h2, h3, h4, h5, h6, h7⟩ := h
  obtain ⟨n1, n2, d2, m1, lt, _⟩ := F
  have k1 : n * b ≤ 1000000 * b := Int.mul_le_mul_of_nonneg_right n2 (by omega)
  have k2 : -1000000 * b ≤ n * b := Int.mul_le_mul_of_nonneg_right n1 (by omega)
  have k3 : n * e ≤ 1000000 * e := Int.mul_le_mul_of_nonneg_right n2 (by omega)
  have k4 : -1000000 * e ≤ n * e := Int.mul_le_mul_of_nonneg_right n1 (by omega)
  have i1 : b * (c * d - n * e) + e * (n * b - a * d) = d := by
    have : b * (c * d - n * e) + e * (n * b - a * d) = d * (c * b - a * e) := by grind
    rw [this, h1]; omega
  have p1 : 1 ≤ b * (c * d - n * e) := Int.mul_pos (by omega) h3
  have p2 : 1 ≤ e * (n * b - a * d) := Int.mul_pos (by omega) h2
  have q1 : c * d - n * e ≤ b * (c * d - n * e) := by
    have := Int.mul_le_mul_of_nonneg_right (show 1 ≤ b from h4) (show 0 ≤ c * d - n * e by omega)
    omega
  have q2 : n * b - a * d ≤ e * (n * b - a * d) := by
    have := Int.mul_le_mul_of_nonneg_right (show 1 ≤ e from h6) (show 0 ≤ n * b - a * d by omega)
    omega
  have a1 : a < 1000001 := Int.lt_of_mul_lt_mul_right (a := d) (by omega) (by omega)
  have a2 : -1000001 < a := Int.lt_of_mul_lt_mul_right (a := d) (by omega) (by omega)
  have c1 : c < 1000001 := Int.lt_of_mul_lt_mul_right (a := d) (by omega) (by omega)
  have c2 : -1000001 < c := Int.lt_of_mul_lt_mul_right (a := d) (by omega) (by omega)
  unfold big6
  omega
/-- How often one goes from the lower fraction, from the upper one. -/
def loK (n d most a b c e : Int) : Int := min ((n * b - a * d) / (c * d - n * e)) ((most - b) / e)
def hiK (n d most a b c e : Int) : Int := min ((c * d - n * e) / (n * b - a * d)) ((most - e) / b)
theorem div_mul_le {x y : Int} (h : 0 < y) : x / y * y ≤ x := Int.ediv_mul_le x (by omega)
theorem Nb.loStep {n d most a b c e : Int} (F : Fr n d most) (h : Nb n d most a b c e) : 0 ≤ loK n d most a b c e ∧ loK n d most a b c e ≤ 2000000000000 ∧ Nb n d most (a + loK n d most a b c e * c) (b + loK n d most a b c e * e) c e := by
  obtain ⟨ba, bb, bc, be⟩ := h.bd F
  obtain ⟨_, _, _, _, _, x2⟩ := errV_bd (n := n) (d := d) ⟨F.n1, F.n2⟩ ⟨by have := F.lt; have := F.most1; omega, F.d2⟩ ba bb
  obtain ⟨h1, h2, h3, h4, h5, h6, h7⟩ := h
  have g1 : 0 ≤ (n * b - a * d) / (c * d - n * e) := Int.ediv_nonneg (by omega) (by omega)
  have g2 : 0 ≤ (most - b) / e := Int.ediv_nonneg (by omega) (by omega)
  have l1 := div_mul_le (x := n * b - a * d) h3
  have l2 := div_mul_le (x := most - b) (show 0 < e by omega)
  have g3 : (n * b - a * d) / (c * d - n * e) ≤ n * b - a * d := Int.ediv_le_self _ (by omega)
  unfold errV at x2
  generalize hk : loK n d most a b c e = k
  have k0 : 0 ≤ k := by rw [← hk]; unfold loK; omega
  have k1 : k ≤ (n * b - a * d) / (c * d - n * e) := by rw [← hk]; unfold loK; omega
  have k2 : k ≤ (most - b) / e := by rw [← hk]; unfold loK; omega
  have m1 : k * (c * d - n * e) ≤ n * b - a * d := Int.le_trans (Int.mul_le_mul_of_nonneg_right k1 (by omega)) l1
  have m2 : k * e ≤ most - b := Int.le_trans (Int.mul_le_mul_of_nonneg_right k2 (by omega)) l2
  have m3 : 0 ≤ k * e := Int.mul_nonneg k0 (by omega)
  have i1 : n * (b + k * e) - (a + k * c) * d = (n * b - a * d) - k * (c * d - n * e) := by grind
  have hz := no_eq (a := a + k * c) (b := b + k * e) F (by omega) (by omega)
  refine ⟨k0, by omega, by grind, by omega, h3, by omega, by omega, h6, h7⟩
theorem Nb.hiStep {n d most a b c e : Int} (F : Fr n d most) (h : Nb n d most a b c e) : 0 ≤ hiK n d most a b c e ∧ hiK n d most a b c e ≤ 2000000000000 ∧ Nb n d most a b (c + hiK n d most a b c e * a) (e + hiK n d most a b c e * b) := by
  obtain ⟨ba, bb, bc, be⟩ := h.bd F
  obtain ⟨_, _, _, _, _, x2⟩ := errV_bd (n := n) (d := d) ⟨F.n1, F.n2⟩ ⟨by have := F.lt; have := F.most1; omega, F.d2⟩ bc be
  obtain ⟨h1, h2, h3, h4, h5, h6, h7⟩ := h
  have g1 : 0 ≤ (c * d - n * e) / (n * b - a * d) := Int.ediv_nonneg (by omega) (by omega)
  have g2 : 0 ≤ (most - e) / b := Int.ediv_nonneg (by omega) (by omega)
  have l1 := div_mul_le (x := c * d - n * e) h2
  have l2 := div_mul_le (x := most - e) (show 0 < b by omega)
  have g3 : (c * d - n * e) / (n * b - a * d) ≤ c * d - n * e := Int.ediv_le_self _ (by omega)
  unfold errV at x2
  generalize hk : hiK n d most a b c e = k
  have k0 : 0 ≤ k := by rw [← hk]; unfold hiK; omega
  have k1 : k ≤ (c * d - n * e) / (n * b - a * d) := by rw [← hk]; unfold hiK; omega
  have k2 : k ≤ (most - e) / b := by rw [← hk]; unfold hiK; omega
  have m1 : k * (n * b - a * d) ≤ c * d - n * e := Int.le_trans (Int.mul_le_mul_of_nonneg_right k1 (by omega)) l1
  have m2 : k * b ≤ most - e := Int.le_trans (Int.mul_le_mul_of_nonneg_right k2 (by omega)) l2
  have m3 : 0 ≤ k * b := Int.mul_nonneg k0 (by omega)
  have i1 : (c + k * a) * d - n * (e + k * b) = (c * d - n * e) - k * (n * b - a * d) := by grind
  have hz := no_eq (a := c + k * a) (b := e + k * b) F (by omega) (by omega)
  refine ⟨k0, by omega, by grind, h2, by omega, h4, h5, by omega, by omega⟩
/-- Both ways are ended together only where the mediant's denominator is too great. -/
theorem Nb.done {n d most a b c e : Int} (h : Nb n d most a b c e) (k0 : loK n d most a b c e = 0) (m0 : hiK n d most a b c e = 0) : most < b + e := by
  obtain ⟨h1, h2, h3, h4, h5, h6, h7⟩ := h
  refine Int.lt_of_not_ge fun hle => ?_
  have p1 : 1 ≤ (most - b) / e := Int.le_ediv_of_mul_le (by omega) (by omega)
  have p2 : 1 ≤ (most - e) / b := Int.le_ediv_of_mul_le (by omega) (by omega)
  unfold loK at k0
  unfold hiK at m0
  have q1 : (n * b - a * d) / (c * d - n * e) ≤ 0 := by omega
  have q2 : (c * d - n * e) / (n * b - a * d) ≤ 0 := by omega
  have r1 : n * b - a * d < c * d - n * e := by
    refine Int.lt_of_not_ge fun hle => ?_
    have : 1 ≤ (n * b - a * d) / (c * d - n * e) := Int.le_ediv_of_mul_le h3 (by omega)
    omega
  have : 1 ≤ (c * d - n * e) / (n * b - a * d) := Int.le_ediv_of_mul_le h2 (by omega)
  omega
/-- The side on which the mediant lies. -/
theorem Nb.side {n d most a b c e : Int} (F : Fr n d most) (h : Nb n d most a b c e) (hm : b + e ≤ most) : ((a + c) * d < n * (b + e) ∧ 1 ≤ loK n d most a b c e) ∨ (¬ (a + c) * d < n * (b + e) ∧ 1 ≤ hiK n d most a b c e) := by
  have hz := no_eq (a := a + c) (b := b + e) F (by have := h.b1; have := h.e1; omega) hm
  obtain ⟨h1, h2, h3, h4, h5, h6, h7⟩ := h
  have p1 : 1 ≤ (most - b) / e := Int.le_ediv_of_mul_le (by omega) (by omega)
  have p2 : 1 ≤ (most - e) / b := Int.le_ediv_of_mul_le (by omega) (by omega)
  have i1 : n * (b + e) - (a + c) * d = (n * b - a * d) - (c * d - n * e) := by grind
  by_cases hs : (a + c) * d < n * (b + e)
  · refine .inl ⟨hs, ?_⟩
    have : 1 ≤ (n * b - a * d) / (c * d - n * e) := Int.le_ediv_of_mul_le h3 (by omega)
    unfold loK; omega
  · refine .inr ⟨hs, ?_⟩
    have : 1 ≤ (c * d - n * e) / (n * b - a * d) := Int.le_ediv_of_mul_le h2 (by omega)
    unfold hiK; omega
/-- Where one begins. -/
theorem Nb.start {n d most : Int} (F : Fr n d most) : Nb n d most (n / d) 1 (n / d + 1) 1 := by
  have hd : 0 < d := by have := F.lt; have := F.most1; omega
  have h1 := Int.mul_ediv_add_emod n d
  have h2 := Int.emod_nonneg n (show d ≠ 0 by omega)
  have h3 := Int.emod_lt_of_pos n hd
  have hz := no_eq (a := n / d) (b := 1) F (by omega) F.most1
  have i1 : n / d * d = d * (n / d) := Int.mul_comm _ _
  have i2 : (n / d + 1) * d = d * (n / d) + d := by rw [Int.add_mul, i1]; omega
  exact ⟨by omega, by omega, by rw [i2]; omega, by omega, F.most1, by omega, F.most1⟩
/-- The pair on both sides, of which no fraction between has a denominator up to most. -/
def Sides (n d most a b c e : Int) : Prop := Nb n d most a b c e ∧ most < b + e
theorem Nb.between {n d most a b c e p q : Int} (h : Nb n d most a b c e) (hs : most < b + e) (h1 : 0 < p * b - a * q) (h2 : 0 < c * q - p * e) : most < q := by
  obtain ⟨det, _, _, b1, _, e1, _⟩ := h
  have i1 : b * (c * q - p * e) + e * (p * b - a * q) = q := by
    have : b * (c * q - p * e) + e * (p * b - a * q) = q * (c * b - a * e) := by grind
    rw [this, det]; omega
  have q1 : b ≤ b * (c * q - p * e) := by
    have := Int.mul_le_mul_of_nonneg_left (show 1 ≤ c * q - p * e from h2) (show 0 ≤ b by omega)
    omega
  have q2 : e ≤ e * (p * b - a * q) := by
    have := Int.mul_le_mul_of_nonneg_left (show 1 ≤ p * b - a * q from h1) (show 0 ≤ e by omega)
    omega
  omega
theorem pos_of_mul {x d : Int} (hd : 0 < d) (h : 0 < d * x) : 0 < x := by
  rcases Int.lt_or_le 0 x with h1 | h1
  · exact h1
  · have := Int.mul_le_mul_of_nonneg_left h1 (show 0 ≤ d by omega)
    omega
theorem unit_eq {t s : Int} (ht : 0 < t) (hs : 0 < s) (h : t * s = 1) : t = 1 := by
  have : t ≤ t * s := by
    have := Int.mul_le_mul_of_nonneg_left (show 1 ≤ s from hs) (show 0 ≤ t by omega)
    omega
  omega
theorem Sides.lo_le {n d most a b c e A B C E : Int} (F : Fr n d most) (h : Sides n d most a b c e) (g : Nb n d most A B C E) : A * b ≤ a * B := by
  refine Int.not_lt.1 fun hlt => ?_
  have hd : 0 < d := by have := F.lt; have := F.most1; omega
  have h2 : 0 < c * B - A * e := by
    refine pos_of_mul hd ?_
    have : d * (c * B - A * e) = B * (c * d - n * e) + e * (n * B - A * d) := by grind
    rw [this]
    have p1 := Int.mul_pos (show 0 < B by have := g.b1; omega) h.1.hi
    have p2 := Int.mul_pos (show 0 < e by have := h.1.e1; omega) g.lo
    omega
  have := h.1.between h.2 (p := A) (q := B) (by omega) h2
  have := g.b2
  omega
theorem Sides.hi_le {n d most a b c e A B C E : Int} (F : Fr n d most) (h : Sides n d most a b c e) (g : Nb n d most A B C E) : c * E ≤ C * e := by
  refine Int.not_lt.1 fun hlt => ?_
  have hd : 0 < d := by have := F.lt; have := F.most1; omega
  have h2 : 0 < C * b - a * E := by
    refine pos_of_mul hd ?_
    have : d * (C * b - a * E) = b * (C * d - n * E) + E * (n * b - a * d) := by grind
    rw [this]
    have p1 := Int.mul_pos (show 0 < b by have := h.1.b1; omega) g.hi
    have p2 := Int.mul_pos (show 0 < E by have := g.e1; omega) h.1.lo
    omega
  have := h.1.between h.2 (p := C) (q := E) h2 (by omega)
  have := g.e2
  omega
theorem same_frac {a b A B x y X Y : Int} (b0 : 0 < b) (B0 : 0 < B) (h : A * b = a * B) (u : x * b - a * y = 1) (v : X * B - A * Y = 1) : A = a ∧ B = b := by
  have e1 : B = b * (x * B - y * A) := by
    have : B * (x * b - a * y) = b * (x * B - y * A) := by
      have : B * (a * y) = y * (A * b) := by rw [h]; grind
      grind
    rw [u] at this; omega
  have e2 : b = B * (X * b - Y * a) := by
    have : b * (X * B - A * Y) = B * (X * b - Y * a) := by
      have : b * (A * Y) = Y * (a * B) := by rw [← h]; grind
      grind
    rw [v] at this; omega
  have t0 : 0 < x * B - y * A := pos_of_mul b0 (by omega)
  have s0 : 0 < X * b - Y * a := pos_of_mul B0 (by omega)
  have hts : (x * B - y * A) * (X * b - Y * a) = 1 := by
    have : b * ((x * B - y * A) * (X * b - Y * a)) = b * 1 := by
      rw [← Int.mul_assoc, ← e1, ← e2]; omega
    exact Int.eq_of_mul_eq_mul_left (by omega) this
  have t1 := unit_eq t0 s0 hts
  rw [t1] at e1
  have hB : B = b := by omega
  refine ⟨?_, hB⟩
  rw [hB] at h
  exact Int.eq_of_mul_eq_mul_right (by omega) h
theorem Sides.one {n d most a b c e A B C E : Int} (F : Fr n d most) (h : Sides n d most a b c e) (g : Sides n d most A B C E) : A = a ∧ B = b ∧ C = c ∧ E = e := by
  have l1 := h.lo_le F g.1
  have l2 := g.lo_le F h.1
  have r1 := h.hi_le F g.1
  have r2 := g.hi_le F h.1
  have d1 := h.1.det
  have d2 := g.1.det
  obtain ⟨x1, x2⟩ := same_frac (x := c) (y := e) (X := C) (Y := E) (by have := h.1.b1; omega) (by have := g.1.b1; omega) (show A * b = a * B by omega) d1 d2
  obtain ⟨y1, y2⟩ := same_frac (x := -a) (y := -b) (X := -A) (Y := -B) (by have := h.1.e1; omega) (by have := g.1.e1; omega) (show C * e = c * E by omega) (by grind) (by grind)
  exact ⟨x1, x2, y1, y2⟩
theorem sides_from {n d most : Int} (F : Fr n d most) : ∀ (k : Nat) (a b c e : Int), Nb n d most a b c e → 2 * most - b - e ≤ k → ∃ A B C E, Sides n d most A B C E
  | 0, a, b, c, e, h, hk => ⟨a, b, c, e, h, by have := h.b2; have := h.e2; have := h.b1; omega⟩
  | k + 1, a, b, c, e, h, hk => by
    by_cases hs : most < b + e
    · exact ⟨a, b, c, e, h, hs⟩
    · rcases h.side F (by omega) with ⟨_, h1⟩ | ⟨_, h1⟩
      · obtain ⟨_, _, h2⟩ := h.loStep F
        refine sides_from F k _ _ _ _ h2 ?_
        have := Int.mul_le_mul_of_nonneg_right h1 (show 0 ≤ e by have := h.e1; omega)
        have := h.e1
        omega
      · obtain ⟨_, _, h2⟩ := h.hiStep F
        refine sides_from F k _ _ _ _ h2 ?_
        have := Int.mul_le_mul_of_nonneg_right h1 (show 0 ≤ b by have := h.b1; omega)
        have := h.b1
        omega
theorem sides_ex {n d most : Int} (F : Fr n d most) : ∃ A B C E, Sides n d most A B C E :=
  sides_from F (2 * most - 1 - 1).toNat _ _ _ _ (Nb.start F) (by have := F.most1; omega)
theorem Nb.ne {n d most a b c e : Int} (h : Nb n d most a b c e) : ¬ (a = c ∧ b = e) := by
  rintro ⟨rfl, rfl⟩
  have := h.det
  omega
/-- The errors of the two sides. -/
theorem Nb.err {n d most a b c e : Int} (h : Nb n d most a b c e) : errV n d a b = n * b - a * d ∧ errV n d c e = c * d - n * e := by
  have := h.lo
  have := h.hi
  unfold errV
  omega
end Go.Proofs.YtpgkellmhlmjeaaGreatDoor
