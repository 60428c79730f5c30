/- Parts of the proof, merged: PerP SideP SideW MinW. No condition but those that each theorem names. -/
import Derived.Test.YtpgkellmhlmjeaaGreatDoorMgAD
import Derived.Test.YtpgkellmhlmjeaaGreatDoorMgAC
import Derived.Deep.RegionHeld3
import Derived.Test.YtpgkellmhlmjeaaGreatDoorMgAB
namespace Go.Proofs.YtpgkellmhlmjeaaGreatDoor
open Go.RowKit Go.Sort
/-- A surd: P, D, Q. -/
abbrev Sd := Int × Int × Int
def sdOk (s : Sd) : Bool := surdB s.1 s.2.1 s.2.2
def flS (s : Sd) : Int := if 0 < s.2.2 then (s.1 + rtI s.2.1) / s.2.2 else -((s.1 + rtI s.2.1) / (-s.2.2)) - 1
def npS (s : Sd) : Int := flS s * s.2.2 - s.1
def nqS (s : Sd) : Int := (s.2.1 - npS s * npS s).tdiv s.2.2
def nxS (s : Sd) : Sd := (npS s, s.2.1, nqS s)
theorem rt_small {d : Int} (h1 : 2 ≤ d) (h2 : d ≤ 1000000) (h3 : sqB d = false) : 1 ≤ rtI d ∧ rtI d ≤ 999 ∧ rtI d * rtI d < d ∧ d < (rtI d + 1) * (rtI d + 1) := by
  obtain ⟨a, b, c⟩ := rtI_is (n := d) (by omega)
  have hne : rtI d * rtI d ≠ d := by simpa [sqB] using h3
  have hlo : 1 ≤ rtI d := by
    rcases Int.lt_or_le (rtI d) 1 with g | g
    · have e : rtI d = 0 := by omega
      rw [e] at c
      omega
    · exact g
  have hhi : rtI d ≤ 999 := by
    rcases Int.lt_or_le 999 (rtI d) with g | g
    · have := sq_mono (a := 1000) (b := rtI d) (by omega) (by omega)
      omega
    · exact g
  exact ⟨hlo, hhi, by omega, c⟩
theorem neg_floor (x m : Int) (hm : 0 < m) : -(x / m) - 1 = (-x - 1) / m := by
  have h1 := Int.mul_ediv_add_emod x m
  have h2 := Int.emod_nonneg x (show m ≠ 0 by omega)
  have h3 := Int.emod_lt_of_pos x hm
  have key : -x - 1 = (-(x / m) - 1) * m + (m - 1 - x % m) := by
    have : (-(x / m) - 1) * m = -(m * (x / m)) - m := by rw [Int.sub_mul, Int.neg_mul, Int.mul_comm (x / m) m, Int.one_mul]
    omega
  have z : (m - 1 - x % m) / m = 0 := Int.ediv_eq_zero_of_lt (by omega) (by omega)
  rw [key, Int.add_comm, Int.add_mul_ediv_right _ _ (show m ≠ 0 by omega), z]
  omega
/-- Where the next P lies. -/
theorem npS_rng {s : Sd} (h : sdOk s = true) : (0 < s.2.2 → rtI s.2.1 - s.2.2 < npS s ∧ npS s ≤ rtI s.2.1) ∧ (s.2.2 < 0 → rtI s.2.1 < npS s ∧ npS s ≤ rtI s.2.1 - s.2.2) := by
  obtain ⟨p, d, q⟩ := s
  refine ⟨fun hq => ?_, fun hq => ?_⟩
  · have hq' : 0 < q := hq
    have h1 := Int.mul_ediv_add_emod (p + rtI d) q
    have h2 := Int.emod_nonneg (p + rtI d) (show q ≠ 0 by omega)
    have h3 := Int.emod_lt_of_pos (p + rtI d) hq'
    have e : flS (p, d, q) = (p + rtI d) / q := by simp [flS, hq']
    simp only [npS, e]
    rw [Int.mul_comm]
    generalize q * ((p + rtI d) / q) = X at *
    omega
  · have hq' : q < 0 := hq
    have h1 := Int.mul_ediv_add_emod (p + rtI d) (-q)
    have h2 := Int.emod_nonneg (p + rtI d) (show -q ≠ 0 by omega)
    have h3 := Int.emod_lt_of_pos (p + rtI d) (show 0 < -q by omega)
    have e : flS (p, d, q) = -((p + rtI d) / (-q)) - 1 := by
      have : ¬ 0 < q := by omega
      simp [flS, this]
    simp only [npS, e]
    have k : (-((p + rtI d) / -q) - 1) * q = -q * ((p + rtI d) / -q) - q := by
      rw [Int.sub_mul, Int.neg_mul, Int.neg_mul, Int.mul_comm q]; omega
    rw [k]
    generalize -q * ((p + rtI d) / -q) = X at *
    omega
/-- All that the walks must know of the numbers on the way to the next surd. -/
theorem step_bds {p d q : Int} (h : surdB p d q = true) : (2 ≤ d ∧ d ≤ 1000000) ∧ (1 ≤ rtI d ∧ rtI d ≤ 999) ∧ (-1000000 ≤ p ∧ p ≤ 1000000) ∧ (-1000000 ≤ q ∧ q ≤ 1000000 ∧ q ≠ 0) ∧
    (-1001001 ≤ flS (p, d, q) ∧ flS (p, d, q) ≤ 1001001) ∧ (-1001000 ≤ npS (p, d, q) ∧ npS (p, d, q) ≤ 1001000) ∧ (0 ≤ npS (p, d, q) * npS (p, d, q) ∧ npS (p, d, q) * npS (p, d, q) ≤ 1002001000000) ∧
    (-2002001 ≤ flS (p, d, q) * q ∧ flS (p, d, q) * q ≤ 2002001) ∧ (-1002001000000 ≤ nqS (p, d, q) ∧ nqS (p, d, q) ≤ 1002001000000) := by
  obtain ⟨⟨d1, d2⟩, hs, ⟨p1, p2⟩, ⟨q1, q2⟩, q0, hm⟩ := surdB_true.1 h
  obtain ⟨r1, r2, r3, r4⟩ := rt_small d1 d2 hs
  have hrng := npS_rng (s := (p, d, q)) h
  have hnp : -1001000 ≤ npS (p, d, q) ∧ npS (p, d, q) ≤ 1001000 := by
    rcases Int.lt_or_lt_of_ne q0 with g | g
    · have := hrng.2 g; simp only at this; omega
    · have := hrng.1 g; simp only at this; omega
  have hfl : -1001001 ≤ flS (p, d, q) ∧ flS (p, d, q) ≤ 1001001 := by
    unfold flS
    simp only
    split
    · rename_i g
      have := ediv_bd (n := p + rtI d) (M := 1001000) g (by omega) (by omega)
      omega
    · rename_i g
      have := ediv_bd (n := p + rtI d) (M := 1001000) (show 0 < -q by omega) (by omega) (by omega)
      omega
  have hsq : 0 ≤ npS (p, d, q) * npS (p, d, q) ∧ npS (p, d, q) * npS (p, d, q) ≤ 1002001000000 := by
    obtain ⟨m1, m2⟩ := hnp
    have := mul_bd (x := npS (p, d, q)) (y := npS (p, d, q)) (M := 1001000) (N := 1001000) (by omega) m2 (by omega) m2 m1 m1
    have h0 : 0 ≤ npS (p, d, q) * npS (p, d, q) := by
      rcases Int.le_total 0 (npS (p, d, q)) with g | g
      · exact Int.mul_nonneg g g
      · exact Int.mul_nonneg_of_nonpos_of_nonpos g g
    omega
  have hnq : -1002001000000 ≤ nqS (p, d, q) ∧ nqS (p, d, q) ≤ 1002001000000 := by
    unfold nqS
    simp only
    generalize npS (p, d, q) * npS (p, d, q) = X at *
    have : ((d - X).tdiv q).natAbs ≤ (d - X).natAbs := by
      rw [Int.natAbs_tdiv]
      exact Nat.div_le_self _ _
    omega
  have hmul : flS (p, d, q) * q = npS (p, d, q) + p := by simp only [npS]; omega
  exact ⟨⟨d1, d2⟩, ⟨r1, r2⟩, ⟨p1, p2⟩, ⟨q1, q2, q0⟩, hfl, hnp, hsq, by omega, hnq⟩
/-- The surds up to the last one before one comes again, and the place of this one; k: how many may still come. -/
def per : Nat → List Sd → Sd → Option (List Sd × Nat)
  | 0, L, s => if s ∈ L then some (L, L.idxOf s) else none
  | k + 1, L, s => if s ∈ L then some (L, L.idxOf s) else if sdOk (nxS s) = true then per k (L ++ [s]) (nxS s) else none
def perOf (s : Sd) : Option (List Sd × Nat) := per 400 [] s
def headOf (R : List Sd × Nat) : List Int := (R.1.take R.2).map flS
def cycOf (R : List Sd × Nat) : List Int := (R.1.drop R.2).map flS
theorem per_facts : ∀ (k : Nat) (L : List Sd) (s : Sd) (R : List Sd × Nat), per k L s = some R → R.2 < R.1.length ∧ R.1.length ≤ L.length + k
  | 0, L, s, R, h => by
    unfold per at h
    split at h
    · rename_i g
      injection h with h; subst h
      exact ⟨List.idxOf_lt_length_of_mem g, by simp⟩
    · cases h
  | k + 1, L, s, R, h => by
    unfold per at h
    split at h
    · rename_i g
      injection h with h; subst h
      exact ⟨List.idxOf_lt_length_of_mem g, by simp⟩
    · split at h
      · have := per_facts k _ _ R h
        simp at this
        omega
      · cases h
end Go.Proofs.YtpgkellmhlmjeaaGreatDoor
namespace Go.Proofs.YtpgkellmhlmjeaaGreatDoor
open Go.RowKit Go.Sort
/-- a / b and c / e are neighbours, with denominators up to most, on both sides of n / d. -/
structure Nb (n d most a b c e : Int) : Prop where
  det : c * b - a * e = 1
  lo : 0 < n * b - a * d
  hi : 0 < c * d - n * e
  b1 : 1 ≤ b
  b2 : b ≤ most
  e1 : 1 ≤ e
  e2 : e ≤ most
/-- What is asked of the fraction. -/
structure Fr (n d most : Int) : Prop where
  n1 : -1000000 ≤ n
  n2 : n ≤ 1000000
  d2 : d ≤ 1000000
  most1 : 1 ≤ most
  lt : most < d
  cop : Int.gcd n d = 1
theorem dvd_of_eq {n d a b : Int} (hc : Int.gcd n d = 1) (h : n * b = a * d) : d ∣ b := by
  have h1 : d ∣ n * b := ⟨a, by rw [h, Int.mul_comm]⟩
  have hg : Nat.Coprime d.natAbs n.natAbs := by
    have : Int.gcd d n = 1 := by rw [Int.gcd_comm]; exact hc
    exact this
  have h2 := Int.natAbs_dvd_natAbs.2 h1
  rw [Int.natAbs_mul] at h2
  exact Int.natAbs_dvd_natAbs.1 (hg.dvd_of_dvd_mul_left h2)
theorem no_eq {n d most a b : Int} (F : Fr n d most) (b1 : 1 ≤ b) (b2 : b ≤ most) : n * b - a * d ≠ 0 := by
  intro h
  have h1 := dvd_of_eq F.cop (show n * b = a * d by omega)
  have h2 := Int.le_of_dvd (by omega) h1
  have := F.lt
  omega
theorem Nb.bd {n d most a b c e : Int} (F : Fr n d most) (h : Nb n d most a b c e) : big6 a ∧ big6 b ∧ big6 c ∧ big6 e := by
  obtain ⟨h1, h2, h3, h4, h5, h6, h7⟩ := h
  obtain ⟨n1, n2, d2, m1, lt, _⟩ := F
  have k1 : n * b ≤ 1000000 * b := Int.mul_le_mul_of_nonneg_right n2 (by omega)
  have k2 : -1000000 * b ≤ n * b := Int.mul_le_mul_of_nonneg_right n1 (by omega)
  have k3 : n * e ≤ 1000000 * e := Int.mul_le_mul_of_nonneg_right n2 (by omega)
  have k4 : -1000000 * e ≤ n * e := Int.mul_le_mul_of_nonneg_right n1 (by omega)
  have i1 : b * (c * d - n * e) + e * (n * b - a * d) = d := by
    have : b * (c * d - n * e) + e * (n * b - a * d) = d * (c * b - a * e) := by grind
    rw [this, h1]; omega
  have p1 : 1 ≤ b * (c * d - n * e) := Int.mul_pos (by omega) h3
  have p2 : 1 ≤ e * (n * b - a * d) := Int.mul_pos (by omega) h2
  have q1 : c * d - n * e ≤ b * (c * d - n * e) := by
    have := Int.mul_le_mul_of_nonneg_right (show 1 ≤ b from h4) (show 0 ≤ c * d - n * e by omega)
    omega
  have q2 : n * b - a * d ≤ e * (n * b - a * d) := by
    have := Int.mul_le_mul_of_nonneg_right (show 1 ≤ e from h6) (show 0 ≤ n * b - a * d by omega)
    omega
  have a1 : a < 1000001 := Int.lt_of_mul_lt_mul_right (a := d) (by omega) (by omega)
  have a2 : -1000001 < a := Int.lt_of_mul_lt_mul_right (a := d) (by omega) (by omega)
  have c1 : c < 1000001 := Int.lt_of_mul_lt_mul_right (a := d) (by omega) (by omega)
  have c2 : -1000001 < c := Int.lt_of_mul_lt_mul_right (a := d) (by omega) (by omega)
  unfold big6
  omega
/-- How often one goes from the lower fraction, from the upper one. -/
def loK (n d most a b c e : Int) : Int := min ((n * b - a * d) / (c * d - n * e)) ((most - b) / e)
def hiK (n d most a b c e : Int) : Int := min ((c * d - n * e) / (n * b - a * d)) ((most - e) / b)
theorem div_mul_le {x y : Int} (h : 0 < y) : x / y * y ≤ x := Int.ediv_mul_le x (by omega)
theorem Nb.loStep {n d most a b c e : Int} (F : Fr n d most) (h : Nb n d most a b c e) : 0 ≤ loK n d most a b c e ∧ loK n d most a b c e ≤ 2000000000000 ∧ Nb n d most (a + loK n d most a b c e * c) (b + loK n d most a b c e * e) c e := by
  obtain ⟨ba, bb, bc, be⟩ := h.bd F
  obtain ⟨_, _, _, _, _, x2⟩ := errV_bd (n := n) (d := d) ⟨F.n1, F.n2⟩ ⟨by have := F.lt; have := F.most1; omega, F.d2⟩ ba bb
  obtain ⟨h1, h2, h3, h4, h5, h6, h7⟩ := h
  have g1 : 0 ≤ (n * b - a * d) / (c * d - n * e) := Int.ediv_nonneg (by omega) (by omega)
  have g2 : 0 ≤ (most - b) / e := Int.ediv_nonneg (by omega) (by omega)
  have l1 := div_mul_le (x := n * b - a * d) h3
  have l2 := div_mul_le (x := most - b) (show 0 < e by omega)
  have g3 : (n * b - a * d) / (c * d - n * e) ≤ n * b - a * d := Int.ediv_le_self _ (by omega)
  unfold errV at x2
  generalize hk : loK n d most a b c e = k
  have k0 : 0 ≤ k := by rw [← hk]; unfold loK; omega
  have k1 : k ≤ (n * b - a * d) / (c * d - n * e) := by rw [← hk]; unfold loK; omega
  have k2 : k ≤ (most - b) / e := by rw [← hk]; unfold loK; omega
  have m1 : k * (c * d - n * e) ≤ n * b - a * d := Int.le_trans (Int.mul_le_mul_of_nonneg_right k1 (by omega)) l1
  have m2 : k * e ≤ most - b := Int.le_trans (Int.mul_le_mul_of_nonneg_right k2 (by omega)) l2
  have m3 : 0 ≤ k * e := Int.mul_nonneg k0 (by omega)
  have i1 : n * (b + k * e) - (a + k * c) * d = (n * b - a * d) - k * (c * d - n * e) := by grind
  have hz := no_eq (a := a + k * c) (b := b + k * e) F (by omega) (by omega)
  refine ⟨k0, by omega, by grind, by omega, h3, by omega, by omega, h6, h7⟩
theorem Nb.hiStep {n d most a b c e : Int} (F : Fr n d most) (h : Nb n d most a b c e) : 0 ≤ hiK n d most a b c e ∧ hiK n d most a b c e ≤ 2000000000000 ∧ Nb n d most a b (c + hiK n d most a b c e * a) (e + hiK n d most a b c e * b) := by
  obtain ⟨ba, bb, bc, be⟩ := h.bd F
  obtain ⟨_, _, _, _, _, x2⟩ := errV_bd (n := n) (d := d) ⟨F.n1, F.n2⟩ ⟨by have := F.lt; have := F.most1; omega, F.d2⟩ bc be
  obtain ⟨h1, h2, h3, h4, h5, h6, h7⟩ := h
  have g1 : 0 ≤ (c * d - n * e) / (n * b - a * d) := Int.ediv_nonneg (by omega) (by omega)
  have g2 : 0 ≤ (most - e) / b := Int.ediv_nonneg (by omega) (by omega)
  have l1 := div_mul_le (x := c * d - n * e) h2
  have l2 := div_mul_le (x := most - e) (show 0 < b by omega)
  have g3 : (c * d - n * e) / (n * b - a * d) ≤ c * d - n * e := Int.ediv_le_self _ (by omega)
  unfold errV at x2
  generalize hk : hiK n d most a b c e = k
  have k0 : 0 ≤ k := by rw [← hk]; unfold hiK; omega
  have k1 : k ≤ (c * d - n * e) / (n * b - a * d) := by rw [← hk]; unfold hiK; omega
  have k2 : k ≤ (most - e) / b := by rw [← hk]; unfold hiK; omega
  have m1 : k * (n * b - a * d) ≤ c * d - n * e := Int.le_trans (Int.mul_le_mul_of_nonneg_right k1 (by omega)) l1
  have m2 : k * b ≤ most - e := Int.le_trans (Int.mul_le_mul_of_nonneg_right k2 (by omega)) l2
  have m3 : 0 ≤ k * b := Int.mul_nonneg k0 (by omega)
  have i1 : (c + k * a) * d - n * (e + k * b) = (c * d - n * e) - k * (n * b - a * d) := by grind
  have hz := no_eq (a := c + k * a) (b := e + k * b) F (by omega) (by omega)
  refine ⟨k0, by omega, by grind, h2, by omega, h4, h5, by omega, by omega⟩
/-- The side on which the mediant lies. -/
theorem Nb.side {n d most a b c e : Int} (F : Fr n d most) (h : Nb n d most a b c e) (hm : b + e ≤ most) : ((a + c) * d < n * (b + e) ∧ 1 ≤ loK n d most a b c e) ∨ (¬ (a + c) * d < n * (b + e) ∧ 1 ≤ hiK n d most a b c e) := by
  have hz := no_eq (a := a + c) (b := b + e) F (by have := h.b1; have := h.e1; omega) hm
  obtain ⟨h1, h2, h3, h4, h5, h6, h7⟩ := h
  have p1 : 1 ≤ (most - b) / e := Int.le_ediv_of_mul_le (by omega) (by omega)
  have p2 : 1 ≤ (most - e) / b := Int.le_ediv_of_mul_le (by omega) (by omega)
  have i1 : n * (b + e) - (a + c) * d = (n * b - a * d) - (c * d - n * e) := by grind
  by_cases hs : (a + c) * d < n * (b + e)
  · refine .inl ⟨hs, ?_⟩
    have : 1 ≤ (n * b - a * d) / (c * d - n * e) := Int.le_ediv_of_mul_le h3 (by omega)
    unfold loK; omega
  · refine .inr ⟨hs, ?_⟩
    have : 1 ≤ (c * d - n * e) / (n * b - a * d) := Int.le_ediv_of_mul_le h2 (by omega)
    unfold hiK; omega
/-- Where one begins. -/
theorem Nb.start {n d most : Int} (F : Fr n d most) : Nb n d most (n / d) 1 (n / d + 1) 1 := by
  have hd : 0 < d := by have := F.lt; have := F.most1; omega
  have h1 := Int.mul_ediv_add_emod n d
  have h2 := Int.emod_nonneg n (show d ≠ 0 by omega)
  have h3 := Int.emod_lt_of_pos n hd
  have hz := no_eq (a := n / d) (b := 1) F (by omega) F.most1
  have i1 : n / d * d = d * (n / d) := Int.mul_comm _ _
  have i2 : (n / d + 1) * d = d * (n / d) + d := by rw [Int.add_mul, i1]; omega
  exact ⟨by omega, by omega, by rw [i2]; omega, by omega, F.most1, by omega, F.most1⟩
/-- The pair on both sides, of which no fraction between has a denominator up to most. -/
def Sides (n d most a b c e : Int) : Prop := Nb n d most a b c e ∧ most < b + e
theorem Nb.between {n d most a b c e p q : Int} (h : Nb n d most a b c e) (hs : most < b + e) (h1 : 0 < p * b - a * q) (h2 : 0 < c * q - p * e) : most < q := by
  obtain ⟨det, _, _, b1, _, e1, _⟩ := h
  have i1 : b * (c * q - p * e) + e * (p * b - a * q) = q := by
    have : b * (c * q - p * e) + e * (p * b - a * q) = q * (c * b - a * e) := by grind
    rw [this, det]; omega
  have q1 : b ≤ b * (c * q - p * e) := by
    have := Int.mul_le_mul_of_nonneg_left (show 1 ≤ c * q - p * e from h2) (show 0 ≤ b by omega)
    omega
  have q2 : e ≤ e * (p * b - a * q) := by
    have := Int.mul_le_mul_of_nonneg_left (show 1 ≤ p * b - a * q from h1) (show 0 ≤ e by omega)
    omega
  omega
theorem pos_of_mul {x d : Int} (hd : 0 < d) (h : 0 < d * x) : 0 < x := by
  rcases Int.lt_or_le 0 x with h1 | h1
  · exact h1
  · have := Int.mul_le_mul_of_nonneg_left h1 (show 0 ≤ d by omega)
    omega
theorem unit_eq {t s : Int} (ht : 0 < t) (hs : 0 < s) (h : t * s = 1) : t = 1 := by
  have : t ≤ t * s := by
    have := Int.mul_le_mul_of_nonneg_left (show 1 ≤ s from hs) (show 0 ≤ t by omega)
    omega
  omega
theorem Sides.lo_le {n d most a b c e A B C E : Int} (F : Fr n d most) (h : Sides n d most a b c e) (g : Nb n d most A B C E) : A * b ≤ a * B := by
  refine Int.not_lt.1 fun hlt => ?_
  have hd : 0 < d := by have := F.lt; have := F.most1; omega
  have h2 : 0 < c * B - A * e := by
    refine pos_of_mul hd ?_
    have : d * (c * B - A * e) = B * (c * d - n * e) + e * (n * B - A * d) := by grind
    rw [this]
    have p1 := Int.mul_pos (show 0 < B by have := g.b1; omega) h.1.hi
    have p2 := Int.mul_pos (show 0 < e by have := h.1.e1; omega) g.lo
    omega
  have := h.1.between h.2 (p := A) (q := B) (by omega) h2
  have := g.b2
  omega
theorem Sides.hi_le {n d most a b c e A B C E : Int} (F : Fr n d most) (h : Sides n d most a b c e) (g : Nb n d most A B C E) : c * E ≤ C * e := by
  refine Int.not_lt.1 fun hlt => ?_
  have hd : 0 < d := by have := F.lt; have := F.most1; omega
  have h2 : 0 < C * b - a * E := by
    refine pos_of_mul hd ?_
    have : d * (C * b - a * E) = b * (C * d - n * E) + E * (n * b - a * d) := by grind
    rw [this]
    have p1 := Int.mul_pos (show 0 < b by have := h.1.b1; omega) g.hi
    have p2 := Int.mul_pos (show 0 < E by have := g.e1; omega) h.1.lo
    omega
  have := h.1.between h.2 (p := C) (q := E) h2 (by omega)
  have := g.e2
  omega
theorem same_frac {a b A B x y X Y : Int} (b0 : 0 < b) (B0 : 0 < B) (h : A * b = a * B) (u : x * b - a * y = 1) (v : X * B - A * Y = 1) : A = a ∧ B = b := by
  have e1 : B = b * (x * B - y * A) := by
    have : B * (x * b - a * y) = b * (x * B - y * A) := by
      have : B * (a * y) = y * (A * b) := by rw [h]; grind
      grind
    rw [u] at this; omega
  have e2 : b = B * (X * b - Y * a) := by
    have : b * (X * B - A * Y) = B * (X * b - Y * a) := by
      have : b * (A * Y) = Y * (a * B) := by rw [← h]; grind
      grind
    rw [v] at this; omega
  have t0 : 0 < x * B - y * A := pos_of_mul b0 (by omega)
  have s0 : 0 < X * b - Y * a := pos_of_mul B0 (by omega)
  have hts : (x * B - y * A) * (X * b - Y * a) = 1 := by
    have : b * ((x * B - y * A) * (X * b - Y * a)) = b * 1 := by
      rw [← Int.mul_assoc, ← e1, ← e2]; omega
    exact Int.eq_of_mul_eq_mul_left (by omega) this
  have t1 := unit_eq t0 s0 hts
  rw [t1] at e1
  have hB : B = b := by omega
  refine ⟨?_, hB⟩
  rw [hB] at h
  exact Int.eq_of_mul_eq_mul_right (by omega) h
theorem Sides.one {n d most a b c e A B C E : Int} (F : Fr n d most) (h : Sides n d most a b c e) (g : Sides n d most A B C E) : A = a ∧ B = b ∧ C = c ∧ E = e := by
  have l1 := h.lo_le F g.1
  have l2 := g.lo_le F h.1
  have r1 := h.hi_le F g.1
  have r2 := g.hi_le F h.1
  have d1 := h.1.det
  have d2 := g.1.det
  obtain ⟨x1, x2⟩ := same_frac (x := c) (y := e) (X := C) (Y := E) (by have := h.1.b1; omega) (by have := g.1.b1; omega) (show A * b = a * B by omega) d1 d2
  obtain ⟨y1, y2⟩ := same_frac (x := -a) (y := -b) (X := -A) (Y := -B) (by have := h.1.e1; omega) (by have := g.1.e1; omega) (show C * e = c * E by omega) (by grind) (by grind)
  exact ⟨x1, x2, y1, y2⟩
theorem sides_from {n d most : Int} (F : Fr n d most) : ∀ (k : Nat) (a b c e : Int), Nb n d most a b c e → 2 * most - b - e ≤ k → ∃ A B C E, Sides n d most A B C E
  | 0, a, b, c, e, h, hk => ⟨a, b, c, e, h, by have := h.b2; have := h.e2; have := h.b1; omega⟩
  | k + 1, a, b, c, e, h, hk => by
    by_cases hs : most < b + e
    · exact ⟨a, b, c, e, h, hs⟩
    · rcases h.side F (by omega) with ⟨_, h1⟩ | ⟨_, h1⟩
      · obtain ⟨_, _, h2⟩ := h.loStep F
        refine sides_from F k _ _ _ _ h2 ?_
        have := Int.mul_le_mul_of_nonneg_right h1 (show 0 ≤ e by have := h.e1; omega)
        have := h.e1
        omega
      · obtain ⟨_, _, h2⟩ := h.hiStep F
        refine sides_from F k _ _ _ _ h2 ?_
        have := Int.mul_le_mul_of_nonneg_right h1 (show 0 ≤ b by have := h.b1; omega)
        have := h.b1
        omega
theorem sides_ex {n d most : Int} (F : Fr n d most) : ∃ A B C E, Sides n d most A B C E :=
  sides_from F (2 * most - 1 - 1).toNat _ _ _ _ (Nb.start F) (by have := F.most1; omega)
theorem Nb.ne {n d most a b c e : Int} (h : Nb n d most a b c e) : ¬ (a = c ∧ b = e) := by
  rintro ⟨rfl, rfl⟩
  have := h.det
  omega
/-- The errors of the two sides. -/
theorem Nb.err {n d most a b c e : Int} (h : Nb n d most a b c e) : errV n d a b = n * b - a * d ∧ errV n d c e = c * d - n * e := by
  have := h.lo
  have := h.hi
  unfold errV
  omega
end Go.Proofs.YtpgkellmhlmjeaaGreatDoor
namespace Go.Proofs.YtpgkellmhlmjeaaGreatDoor
open Go.RowKit Go.Sort
/-- Block g is two cells. -/
def B2 (g : Nat) (x y : Int) (W : World) : Prop := W.cell? ⟨g, 0, none⟩ = some (.int .i64 x) ∧ W.cell? ⟨g, 1, none⟩ = some (.int .i64 y) ∧ (∀ j, W.frozen? ⟨g, j, none⟩ = false) ∧ g < W.heap.size
theorem B2.next {g : Nat} {x y : Int} {W W' : World} (h : B2 g x y W) (hb : Below W.heap.size W W') : B2 g x y W' :=
  ⟨(hb.cell (p := ⟨g, 0, none⟩) h.2.2.2).trans h.1, (hb.cell (p := ⟨g, 1, none⟩) h.2.2.2).trans h.2.1, fun j => (hb.frozen (p := ⟨g, j, none⟩) h.2.2.2).trans (h.2.2.1 j), Nat.lt_of_lt_of_le h.2.2.2 hb.size⟩
theorem B2.new (W : World) (x y : Int) (T : TypeId) : B2 W.heap.size x y (W.alloc (.cells #[.int .i64 x, .int .i64 y] T)) :=
  ⟨by rw [cell_one]; rfl, by rw [cell_one]; rfl, fun j => World.frozen?_alloc_at _ _ _ _ rfl, by simp⟩
theorem B2.new_at {g : Nat} {W : World} (x y : Int) (T : TypeId) (h : g = W.heap.size) : B2 g x y (W.alloc (.cells #[.int .i64 x, .int .i64 y] T)) := h ▸ B2.new W x y T
theorem B2.far {g i j : Nat} {x y : Int} {W : World} (h : B2 g x y W) (hi : g ≠ i) (u : Value) : B2 g x y (W.setCell ⟨i, j, none⟩ u) := by
  have o : ∀ m, (W.setCell ⟨i, j, none⟩ u).cell? ⟨g, m, none⟩ = W.cell? ⟨g, m, none⟩ := fun m => World.cell?_setCell_other _ _ _ _ (by intro e; injection e; omega)
  exact ⟨(o 0).trans h.1, (o 1).trans h.2.1, fun m => (World.frozen?_setCell _ _ _ _).trans (h.2.2.1 m), by simpa using h.2.2.2⟩
theorem B2.set {g : Nat} {x y : Int} {W : World} (h : B2 g x y W) (a b : Int) : B2 g a b ((W.setCell ⟨g, 0, none⟩ (.int .i64 a)).setCell ⟨g, 1, none⟩ (.int .i64 b)) := by
  obtain ⟨h0, h1, hf, hl⟩ := h
  obtain ⟨s0, s1⟩ := set_two h0 h1
  exact ⟨(World.cell?_setCell_other _ ⟨g, 1, none⟩ ⟨g, 0, none⟩ _ (by simp)).trans (s0 _), s1 _ _, fun m => (World.frozen?_setCell _ _ _ _).trans ((World.frozen?_setCell _ _ _ _).trans (hf m)), by simpa using hl⟩
/-- The state while one goes towards the fraction: it, both results, the lower and the upper one. -/
def SW (w : World) (n d a b c e : Int) (W : World) : Prop :=
  Below w.heap.size w W ∧ B2 w.heap.size n d W ∧ B2 (w.heap.size + 1) 0 0 W ∧ B2 (w.heap.size + 1 + 1) 0 0 W ∧ B2 (w.heap.size + 1 + 1 + 1) a b W ∧ B2 (w.heap.size + 1 + 1 + 1 + 1) c e W
theorem SW.next {w : World} {n d a b c e : Int} {W W' : World} (h : SW w n d a b c e W) (hb : Below W.heap.size W W') : SW w n d a b c e W' :=
  ⟨ext_trans h.1 hb, h.2.1.next hb, h.2.2.1.next hb, h.2.2.2.1.next hb, h.2.2.2.2.1.next hb, h.2.2.2.2.2.next hb⟩
theorem SW.low {w : World} {n d a b c e : Int} {W : World} (h : SW w n d a b c e W) (x y : Int) : SW w n d x y c e ((W.setCell ⟨w.heap.size + 1 + 1 + 1, 0, none⟩ (.int .i64 x)).setCell ⟨w.heap.size + 1 + 1 + 1, 1, none⟩ (.int .i64 y)) :=
  ⟨ext_set (ext_set h.1 (by simp; omega) _) (by simp; omega) _, (h.2.1.far (by omega) _).far (by omega) _, (h.2.2.1.far (by omega) _).far (by omega) _, (h.2.2.2.1.far (by omega) _).far (by omega) _, h.2.2.2.2.1.set x y, (h.2.2.2.2.2.far (by omega) _).far (by omega) _⟩
theorem SW.high {w : World} {n d a b c e : Int} {W : World} (h : SW w n d a b c e W) (x y : Int) : SW w n d a b x y ((W.setCell ⟨w.heap.size + 1 + 1 + 1 + 1, 0, none⟩ (.int .i64 x)).setCell ⟨w.heap.size + 1 + 1 + 1 + 1, 1, none⟩ (.int .i64 y)) :=
  ⟨ext_set (ext_set h.1 (by simp; omega) _) (by simp; omega) _, (h.2.1.far (by omega) _).far (by omega) _, (h.2.2.1.far (by omega) _).far (by omega) _, (h.2.2.2.1.far (by omega) _).far (by omega) _, (h.2.2.2.2.1.far (by omega) _).far (by omega) _, h.2.2.2.2.2.set x y⟩
theorem SW.start (w : World) (n d a b c e : Int) (T : TypeId) : SW w n d a b c e (((((w.alloc (.cells #[.int .i64 n, .int .i64 d] T)).alloc (.cells #[.int .i64 0, .int .i64 0] T)).alloc (.cells #[.int .i64 0, .int .i64 0] T)).alloc (.cells #[.int .i64 a, .int .i64 b] T)).alloc (.cells #[.int .i64 c, .int .i64 e] T)) :=
  ⟨ext_alloc (ext_alloc (ext_alloc (ext_alloc (ext_alloc (Below.refl _ _) _) _) _) _) _,
   ((((B2.new w n d T).next (ext1 _ _)).next (ext1 _ _)).next (ext1 _ _)).next (ext1 _ _),
   (((B2.new_at 0 0 T (by simp)).next (ext1 _ _)).next (ext1 _ _)).next (ext1 _ _), ((B2.new_at 0 0 T (by simp)).next (ext1 _ _)).next (ext1 _ _), (B2.new_at a b T (by simp)).next (ext1 _ _), B2.new_at c e T (by simp)⟩
theorem moves {b e b' e' k m : Int} (most : Int) (hb : b + k * e = b') (he : e + m * b' = e') (b1 : 1 ≤ b') (e1 : 1 ≤ e) (k0 : 0 ≤ k) (m0 : 0 ≤ m) (h : ¬ (k = 0 ∧ m = 0)) (hb2 : b' ≤ most) (he2 : e' ≤ most) : (2 * most - b' - e').toNat < (2 * most - b - e).toNat := by
  have p1 : k * 1 ≤ k * e := Int.mul_le_mul_of_nonneg_left e1 k0
  have p2 : m * 1 ≤ m * b' := Int.mul_le_mul_of_nonneg_left b1 m0
  omega
/-- The integer in a cell. -/
def ci (W : World) (g j : Nat) : Int := match W.cell? ⟨g, j, none⟩ with | some v => intOf v | none => 0
def mS (w : World) (most : Int) (W : World) : Nat := (2 * most - ci W (w.heap.size + 1 + 1 + 1) 1 - ci W (w.heap.size + 1 + 1 + 1 + 1) 1).toNat
theorem SW.ms {w : World} {n d a b c e : Int} {W : World} (h : SW w n d a b c e W) (most : Int) : mS w most W = (2 * most - b - e).toNat := by
  unfold mS ci
  rw [h.2.2.2.2.1.2.1, h.2.2.2.2.2.2.1]
  rfl
theorem errV_pos {n d most a b c e : Int} (F : Fr n d most) (h : Nb n d most a b c e) : 1 ≤ errV n d a b ∧ errV n d a b ≤ 2000000000000 ∧ 1 ≤ errV n d c e ∧ errV n d c e ≤ 2000000000000 := by
  obtain ⟨ba, bb, bc, be⟩ := h.bd F
  have hd : big6 d := ⟨by have := F.lt; have := F.most1; omega, F.d2⟩
  obtain ⟨_, _, _, _, _, x2⟩ := errV_bd (n := n) (d := d) ⟨F.n1, F.n2⟩ hd ba bb
  obtain ⟨_, _, _, _, _, y2⟩ := errV_bd (n := n) (d := d) ⟨F.n1, F.n2⟩ hd bc be
  obtain ⟨e1, e2⟩ := h.err
  have := h.lo
  have := h.hi
  omega
/-- One goes up from the lower side. -/
theorem Nb.goLow {n d most a b c e : Int} (F : Fr n d most) (h : Nb n d most a b c e) : ∃ k a' b' : Int, Hid (loK n d most a b c e = k) ∧ min (errV n d a b / errV n d c e) ((most - b) / e) = k ∧ a + k * c = a' ∧ b + k * e = b' ∧ errV n d a b - k * errV n d c e = errV n d a' b' ∧ 0 ≤ k ∧ k ≤ 2000000000000 ∧
    0 ≤ errV n d a b / errV n d c e ∧ 0 ≤ (most - b) / e ∧ k * errV n d c e ≤ errV n d a b ∧ 0 ≤ k * errV n d c e ∧ Hid (Nb n d most a' b' c e) ∧ big6 a' ∧ big6 b' := by
  obtain ⟨k0, k1, h2⟩ := h.loStep F
  obtain ⟨e1, e2⟩ := h.err
  obtain ⟨e3, _⟩ := h2.err
  obtain ⟨ba, bb, _, _⟩ := h2.bd F
  have p1 := h.lo
  have p2 := h.hi
  have p3 := h.b2
  have p4 := h.e1
  have g1 : 0 ≤ errV n d a b / errV n d c e := Int.ediv_nonneg (by omega) (by omega)
  have g2 : 0 ≤ (most - b) / e := Int.ediv_nonneg (by omega) (by omega)
  have i1 : errV n d a b - loK n d most a b c e * errV n d c e = errV n d (a + loK n d most a b c e * c) (b + loK n d most a b c e * e) := by rw [e3, e1, e2]; grind
  have p5 := h2.lo
  refine ⟨_, _, _, rfl, by unfold loK; rw [e1, e2], rfl, rfl, i1, k0, k1, g1, g2, ?_, Int.mul_nonneg k0 (by omega), h2, ba, bb⟩
  omega
theorem Nb.goHigh {n d most a b c e : Int} (F : Fr n d most) (h : Nb n d most a b c e) : ∃ k c' e' : Int, Hid (hiK n d most a b c e = k) ∧ min (errV n d c e / errV n d a b) ((most - e) / b) = k ∧ c + k * a = c' ∧ e + k * b = e' ∧ 0 ≤ k ∧ k ≤ 2000000000000 ∧
    0 ≤ errV n d c e / errV n d a b ∧ 0 ≤ (most - e) / b ∧ Hid (Nb n d most a b c' e') ∧ big6 c' ∧ big6 e' := by
  obtain ⟨k0, k1, h2⟩ := h.hiStep F
  obtain ⟨e1, e2⟩ := h.err
  obtain ⟨_, _, ba, bb⟩ := h2.bd F
  have p1 := h.lo
  have p2 := h.hi
  have p3 := h.e2
  have p4 := h.b1
  have g1 : 0 ≤ errV n d c e / errV n d a b := Int.ediv_nonneg (by omega) (by omega)
  have g2 : 0 ≤ (most - e) / b := Int.ediv_nonneg (by omega) (by omega)
  exact ⟨_, _, _, rfl, by unfold hiK; rw [e1, e2], rfl, rfl, k0, k1, g1, g2, h2, ba, bb⟩
end Go.Proofs.YtpgkellmhlmjeaaGreatDoor
namespace Go.Proofs.YtpgkellmhlmjeaaGreatDoor
open Go.RowKit Go.Sort
theorem l00Min_any (a b m : Int) (h : min a b = m) (w : World) : Calls Tryz.prog 138 #[.int .i64 a, .int .i64 b] w fun e w' => e = .returned (.int .i64 m) ∧ w = w' := by
  have H := Lib.hid h
  clear h
  by_cases h1 : a < b
  all_goals
    by_cases h2 : b < a
    all_goals
      first
      | omega
      | (go_enter Tryz.func138, Tryz.ntmps138
         go_wp2
         go_ret
         exact ⟨ret_int (by have := H.out; omega), rfl⟩)
theorem l00Max_any (a b m : Int) (h : max a b = m) (w : World) : Calls Tryz.prog 163 #[.int .i64 a, .int .i64 b] w fun e w' => e = .returned (.int .i64 m) ∧ w = w' := by
  have H := Lib.hid h
  clear h
  by_cases h1 : a < b
  all_goals
    by_cases h2 : b < a
    all_goals
      first
      | omega
      | (go_enter Tryz.func163, Tryz.ntmps163
         go_wp2
         go_ret
         exact ⟨ret_int (by have := H.out; omega), rfl⟩)
end Go.Proofs.YtpgkellmhlmjeaaGreatDoor
