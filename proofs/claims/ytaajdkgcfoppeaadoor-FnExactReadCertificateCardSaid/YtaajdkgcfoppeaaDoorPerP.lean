/- Surds one after the other: floors, next ones, periods: the plain law. No condition but those that each theorem names. -/
import Derived.Test.YtaajdkgcfoppeaaDoorSurdW
namespace Go.Proofs.YtaajdkgcfoppeaaDoor
open Go.RowKit Go.Sort

/-- A surd: P, D, Q. -/
abbrev Sd := Int × Int × Int
def sdOk (s : Sd) : Bool := surdB s.1 s.2.1 s.2.2
def flS (s : Sd) : Int := if 0 < s.2.2 then (s.1 + rtI s.2.1) / s.2.2 else -((s.1 + rtI s.2.1) / (-s.2.2)) - 1
def npS (s : Sd) : Int := flS s * s.2.2 - s.1
def nqS (s : Sd) : Int := (s.2.1 - npS s * npS s).tdiv s.2.2
def nxS (s : Sd) : Sd := (npS s, s.2.1, nqS s)

theorem rt_small {d : Int} (h1 : 2 ≤ d) (h2 : d ≤ 1000000) (h3 : sqB d = false) : 1 ≤ rtI d ∧ rtI d ≤ 999 ∧ rtI d * rtI d < d ∧ d < (rtI d + 1) * (rtI d + 1) := by
  obtain ⟨a, b, c⟩ := rtI_is (n := d) (by omega)
  have hne : rtI d * rtI d ≠ d := by simpa [sqB] using h3
  have hlo : 1 ≤ rtI d := by
    rcases Int.lt_or_le (rtI d) 1 with g | g
    · have e : rtI d = 0 := by omega
      rw [e] at c
      omega
    · exact g
  have hhi : rtI d ≤ 999 := by
    rcases Int.lt_or_le 999 (rtI d) with g | g
    · have := sq_mono (a := 1000) (b := rtI d) (by omega) (by omega)
      omega
    · exact g
  exact ⟨hlo, hhi, by omega, c⟩

theorem neg_floor (x m : Int) (hm : 0 < m) : -(x / m) - 1 = (-x - 1) / m := by
  have h1 := Int.mul_ediv_add_emod x m
  have h2 := Int.emod_nonneg x (show m ≠ 0 by omega)
  have h3 := Int.emod_lt_of_pos x hm
  have key : -x - 1 = (-(x / m) - 1) * m + (m - 1 - x % m) := by
    have : (-(x / m) - 1) * m = -(m * (x / m)) - m := by rw [Int.sub_mul, Int.neg_mul, Int.mul_comm (x / m) m, Int.one_mul]
    omega
  have z : (m - 1 - x % m) / m = 0 := Int.ediv_eq_zero_of_lt (by omega) (by omega)
  rw [key, Int.add_comm, Int.add_mul_ediv_right _ _ (show m ≠ 0 by omega), z]
  omega

/-- Where the next P lies. -/
theorem npS_rng {s : Sd} (h : sdOk s = true) : (0 < s.2.2 → rtI s.2.1 - s.2.2 < npS s ∧ npS s ≤ rtI s.2.1) ∧ (s.2.2 < 0 → rtI s.2.1 < npS s ∧ npS s ≤ rtI s.2.1 - s.2.2) := by
  obtain ⟨p, d, q⟩ := s
  refine ⟨fun hq => ?_, fun hq => ?_⟩
  · have hq' : 0 < q := hq
    have h1 := Int.mul_ediv_add_emod (p + rtI d) q
    have h2 := Int.emod_nonneg (p + rtI d) (show q ≠ 0 by omega)
    have h3 := Int.emod_lt_of_pos (p + rtI d) hq'
    have e : flS (p, d, q) = (p + rtI d) / q := by simp [flS, hq']
    simp only [npS, e]
    rw [Int.mul_comm]
    generalize q * ((p + rtI d) / q) = X at *
    omega
  · have hq' : q < 0 := hq
    have h1 := Int.mul_ediv_add_emod (p + rtI d) (-q)
    have h2 := Int.emod_nonneg (p + rtI d) (show -q ≠ 0 by omega)
    have h3 := Int.emod_lt_of_pos (p + rtI d) (show 0 < -q by omega)
    have e : flS (p, d, q) = -((p + rtI d) / (-q)) - 1 := by
      have : ¬ 0 < q := by omega
      simp [flS, this]
    simp only [npS, e]
    have k : (-((p + rtI d) / -q) - 1) * q = -q * ((p + rtI d) / -q) - q := by
      rw [Int.sub_mul, Int.neg_mul, Int.neg_mul, Int.mul_comm q]; omega
    rw [k]
    generalize -q * ((p + rtI d) / -q) = X at *
    omega
/-- All that the walks must know of the numbers on the way to the next surd. -/
theorem step_bds {p d q : Int} (h : surdB p d q = true) : (2 ≤ d ∧ d ≤ 1000000) ∧ (1 ≤ rtI d ∧ rtI d ≤ 999) ∧ (-1000000 ≤ p ∧ p ≤ 1000000) ∧ (-1000000 ≤ q ∧ q ≤ 1000000 ∧ q ≠ 0) ∧
    (-1001001 ≤ flS (p, d, q) ∧ flS (p, d, q) ≤ 1001001) ∧ (-1001000 ≤ npS (p, d, q) ∧ npS (p, d, q) ≤ 1001000) ∧ (0 ≤ npS (p, d, q) * npS (p, d, q) ∧ npS (p, d, q) * npS (p, d, q) ≤ 1002001000000) ∧
    (-2002001 ≤ flS (p, d, q) * q ∧ flS (p, d, q) * q ≤ 2002001) ∧ (-1002001000000 ≤ nqS (p, d, q) ∧ nqS (p, d, q) ≤ 1002001000000) := by
  obtain ⟨⟨d1, d2⟩, hs, ⟨p1, p2⟩, ⟨q1, q2⟩, q0, hm⟩ := surdB_true.1 h
  obtain ⟨r1, r2, r3, r4⟩ := rt_small d1 d2 hs
  have hrng := npS_rng (s := (p, d, q)) h
  have hnp : -1001000 ≤ npS (p, d, q) ∧ npS (p, d, q) ≤ 1001000 := by
    rcases Int.lt_or_lt_of_ne q0 with g | g
    · have := hrng.2 g; simp only at this; omega
    · have := hrng.1 g; simp only at this; omega
  have hfl : -1001001 ≤ flS (p, d, q) ∧ flS (p, d, q) ≤ 1001001 := by
    unfold flS
    simp only
    split
    · rename_i g
      have := ediv_bd (n := p + rtI d) (M := 1001000) g (by omega) (by omega)
      omega
    · rename_i g
      have := ediv_bd (n := p + rtI d) (M := 1001000) (show 0 < -q by omega) (by omega) (by omega)
      omega
  have hsq : 0 ≤ npS (p, d, q) * npS (p, d, q) ∧ npS (p, d, q) * npS (p, d, q) ≤ 1002001000000 := by
    obtain ⟨m1, m2⟩ := hnp
    have := mul_bd (x := npS (p, d, q)) (y := npS (p, d, q)) (M := 1001000) (N := 1001000) (by omega) m2 (by omega) m2 m1 m1
    have h0 : 0 ≤ npS (p, d, q) * npS (p, d, q) := by
      rcases Int.le_total 0 (npS (p, d, q)) with g | g
      · exact Int.mul_nonneg g g
      · exact Int.mul_nonneg_of_nonpos_of_nonpos g g
    omega
  have hnq : -1002001000000 ≤ nqS (p, d, q) ∧ nqS (p, d, q) ≤ 1002001000000 := by
    unfold nqS
    simp only
    generalize npS (p, d, q) * npS (p, d, q) = X at *
    have : ((d - X).tdiv q).natAbs ≤ (d - X).natAbs := by
      rw [Int.natAbs_tdiv]
      exact Nat.div_le_self _ _
    omega
  have hmul : flS (p, d, q) * q = npS (p, d, q) + p := by simp only [npS]; omega
  exact ⟨⟨d1, d2⟩, ⟨r1, r2⟩, ⟨p1, p2⟩, ⟨q1, q2, q0⟩, hfl, hnp, hsq, by omega, hnq⟩

/-- The surds up to the last one before one comes again, and the place of this one; k: how many may still come. -/
def per : Nat → List Sd → Sd → Option (List Sd × Nat)
  | 0, L, s => if s ∈ L then some (L, L.idxOf s) else none
  | k + 1, L, s => if s ∈ L then some (L, L.idxOf s) else if sdOk (nxS s) = true then per k (L ++ [s]) (nxS s) else none
def perOf (s : Sd) : Option (List Sd × Nat) := per 400 [] s

def headOf (R : List Sd × Nat) : List Int := (R.1.take R.2).map flS
def cycOf (R : List Sd × Nat) : List Int := (R.1.drop R.2).map flS
theorem per_facts : ∀ (k : Nat) (L : List Sd) (s : Sd) (R : List Sd × Nat), per k L s = some R → R.2 < R.1.length ∧ R.1.length ≤ L.length + k
  | 0, L, s, R, h => by
    unfold per at h
    split at h
    · rename_i g
      injection h with h; subst h
      exact ⟨List.idxOf_lt_length_of_mem g, by simp⟩
    · cases h
  | k + 1, L, s, R, h => by
    unfold per at h
    split at h
    · rename_i g
      injection h with h; subst h
      exact ⟨List.idxOf_lt_length_of_mem g, by simp⟩
    · split at h
      · have := per_facts k _ _ R h
        simp at this
        omega
      · cases h
end Go.Proofs.YtaajdkgcfoppeaaDoor
