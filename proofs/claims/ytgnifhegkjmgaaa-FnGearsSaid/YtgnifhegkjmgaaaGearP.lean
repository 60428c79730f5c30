/- Gears: nothing is nearer than what GearFor holds; two gears have just the ratio: plain laws. No condition but those that each theorem names. -/
import Derived.Test.YtgnifhegkjmgaaaGearForW
import Derived.Test.YtgnifhegkjmgaaaTwoW
namespace Go.Proofs.Ytgnifhegkjmgaaa
open Go.RowKit Go.Sort

theorem cross_le {a b c d e f : Int} (hb : 0 ≤ b) (hd : 0 < d) (hf : 0 ≤ f) (h1 : a * d ≤ c * b) (h2 : c * f ≤ e * d) : a * f ≤ e * b := by
  have m1 := Int.mul_le_mul_of_nonneg_right h1 hf
  have m2 := Int.mul_le_mul_of_nonneg_right h2 hb
  have e1 : a * d * f = a * f * d := by rw [Int.mul_assoc, Int.mul_comm d f, ← Int.mul_assoc]
  have e2 : c * b * f = c * f * b := by rw [Int.mul_assoc, Int.mul_comm b f, ← Int.mul_assoc]
  have e3 : e * d * b = e * b * d := by rw [Int.mul_assoc, Int.mul_comm d b, ← Int.mul_assoc]
  rw [e1, e2] at m1
  rw [e3] at m2
  exact Int.le_of_mul_le_mul_right (Int.le_trans m1 m2) hd
section
variable {N D lo hi : Int}
theorem sStep_keep {s x : Int × Int} : errV N D (sStep N D s x).1 (sStep N D s x).2 * s.2 ≤ errV N D s.1 s.2 * (sStep N D s x).2 := by
  unfold sStep
  split
  · rename_i h
    have h : errV N D x.1 x.2 * s.2 < errV N D s.1 s.2 * x.2 := by simpa [nearB] using h
    exact Int.le_of_lt h
  · exact Int.le_refl _
/-- Nothing that was a candidate is nearer. -/
theorem gS_best (hlo : 1 ≤ lo) : ∀ (k j : Nat), j < k → errV N D (gS N D lo hi k).1 (gS N D lo hi k).2 * (lo + j) ≤ errV N D (gL N D lo hi (lo + j)) (lo + j) * (gS N D lo hi k).2
  | 0, j, h => by omega
  | k + 1, j, h => by
    have d0 := gS_den (N := N) (D := D) (hi := hi) hlo k
    have db : 0 < lo + (k : Int) := by omega
    have d1 := sStep_den (N := N) (D := D) (x := (gL N D lo hi (lo + k), lo + k)) d0 db
    have dj : 0 ≤ lo + (j : Int) := by omega
    -- behind the first step
    have A : errV N D (gS1 N D lo hi (lo + k) (gS N D lo hi k)).1 (gS1 N D lo hi (lo + k) (gS N D lo hi k)).2 * (lo + j) ≤ errV N D (gL N D lo hi (lo + j)) (lo + j) * (gS1 N D lo hi (lo + k) (gS N D lo hi k)).2 := by
      rcases Nat.lt_or_ge j k with hj | hj
      · exact cross_le (Int.le_of_lt d1) d0 dj (sStep_keep (x := (gL N D lo hi (lo + k), lo + k))) (gS_best hlo k j hj)
      · obtain rfl : j = k := by omega
        exact sStep_le (s := gS N D lo hi j) (x := (gL N D lo hi (lo + j), lo + j))
    rw [gS_succ]
    unfold gS2
    split
    · have d2 := sStep_den (N := N) (D := D) (x := (gL N D lo hi (lo + k) + 1, lo + k)) d1 db
      exact cross_le (Int.le_of_lt d2) d1 dj (sStep_keep (x := (gL N D lo hi (lo + k) + 1, lo + k))) A
    · exact A
/-- The reference's choice: no candidate is nearer. -/
theorem gear_best (h0 : gfC N D lo hi = 0) {y : Int} (h1 : lo ≤ y) (h2 : y ≤ hi) : 1 ≤ gfQ N D lo hi ∧ errV N D (gfP N D lo hi) (gfQ N D lo hi) * y ≤ errV N D (gL N D lo hi y) y * gfQ N D lo hi := by
  obtain ⟨hf, hr, ht⟩ := gearC_zero.1 h0
  obtain ⟨ha, hb⟩ : inR lo 1 1000 = true ∧ inR hi lo 1000 = true := by unfold gfF at ht; simpa using ht
  obtain ⟨lo1, lo2⟩ := inR_true.1 ha
  unfold gfP gfQ
  rw [if_pos h0, if_pos h0]
  obtain ⟨j, rfl⟩ : ∃ j : Nat, y = lo + j := ⟨(y - lo).toNat, by omega⟩
  exact ⟨gS_den lo1 _, gS_best lo1 _ j (by omega)⟩
theorem gL_bd (h : lo ≤ hi) (y : Int) : lo ≤ gL N D lo hi y ∧ gL N D lo hi y ≤ hi := by unfold gL; omega
/-- What GearFor holds has few teeth. -/
theorem gS_sm (hlo : 1 ≤ lo) (hh : lo ≤ hi) : ∀ k : Nat, lo + k ≤ hi + 1 → lo ≤ (gS N D lo hi k).1 ∧ (gS N D lo hi k).1 ≤ hi ∧ lo ≤ (gS N D lo hi k).2 ∧ (gS N D lo hi k).2 ≤ hi
  | 0, _ => by show lo ≤ lo ∧ lo ≤ hi ∧ lo ≤ lo ∧ lo ≤ hi; omega
  | k + 1, hk => by
    have ih := gS_sm hlo hh k (by omega)
    have hl := gL_bd (N := N) (D := D) hh (lo + k)
    rw [gS_succ]
    unfold gS2 gS1
    have s1 : ∀ s x : Int × Int, (lo ≤ s.1 ∧ s.1 ≤ hi ∧ lo ≤ s.2 ∧ s.2 ≤ hi) → (lo ≤ x.1 ∧ x.1 ≤ hi ∧ lo ≤ x.2 ∧ x.2 ≤ hi) → (lo ≤ (sStep N D s x).1 ∧ (sStep N D s x).1 ≤ hi ∧ lo ≤ (sStep N D s x).2 ∧ (sStep N D s x).2 ≤ hi) := fun s x a b => by
      unfold sStep; split <;> assumption
    have e1 := s1 (gS N D lo hi k) (gL N D lo hi (lo + k), lo + k) ih ⟨hl.1, hl.2, by simp only; omega, by simp only; omega⟩
    split
    · exact s1 _ _ e1 ⟨by simp only; omega, by simp only; omega, by simp only; omega, by simp only; omega⟩
    · exact e1
theorem gf_sm (h0 : gfC N D lo hi = 0) : (1 ≤ lo ∧ lo ≤ hi ∧ hi ≤ 1000) ∧ (1 ≤ N ∧ N ≤ 1000000 ∧ 1 ≤ D ∧ D ≤ 1000000) ∧ (lo ≤ gfP N D lo hi ∧ gfP N D lo hi ≤ hi ∧ lo ≤ gfQ N D lo hi ∧ gfQ N D lo hi ≤ hi) := by
  obtain ⟨hf, hr, ht⟩ := gearC_zero.1 h0
  obtain ⟨D1, _, _, _, _⟩ := fracOk_true.1 hf
  obtain ⟨N1, N2, D2⟩ := ratioB_true.1 hr
  obtain ⟨ha, hb⟩ : inR lo 1 1000 = true ∧ inR hi lo 1000 = true := by unfold gfF at ht; simpa using ht
  obtain ⟨lo1, lo2⟩ := inR_true.1 ha
  obtain ⟨hi1, hi2⟩ := inR_true.1 hb
  unfold gfP gfQ
  rw [if_pos h0, if_pos h0]
  exact ⟨by omega, by omega, gS_sm lo1 hi1 _ (by omega)⟩
end

/-- Four wheels that have just the ratio. -/
def fourB (N D : Int) (xs : List Int) : Prop := ∃ a b c d : Int, xs = [a, b, c, d] ∧ a * c * D = b * d * N ∧ (0 ≤ a ∧ a ≤ 1000) ∧ (0 ≤ b ∧ b ≤ 1000) ∧ (0 ≤ c ∧ c ≤ 1000) ∧ (0 ≤ d ∧ d ≤ 1000)
theorem tgA_is {n hi a : Int} : ∀ k : Nat, tgA n hi k = some a → ∃ j : Nat, j < k ∧ a = hi - j ∧ n % a = 0 ∧ n / a ≤ hi ∧ a * a ≤ n
  | 0, h => by cases h
  | k + 1, h => by
    unfold tgA at h
    split at h
    · rename_i h1
      split at h
      · rename_i h2
        injection h with h
        subst h
        exact ⟨k, by omega, rfl, h2.1, h2.2, h1⟩
      · obtain ⟨j, h3, h4⟩ := tgA_is k h
        exact ⟨j, by omega, h4⟩
    · cases h
theorem tgD1_is {N D lo hi b d : Int} {xs : List Int} (hl : 1 ≤ lo) (hh : hi ≤ 1000) (hb : 1 ≤ b ∧ b ≤ hi) (hd : 1 ≤ d ∧ d ≤ hi) (h : tgD1 N D lo hi b d = some xs) : fourB N D xs := by
  unfold tgD1 at h
  split at h
  · rename_i h0
    cases ha : tgA (tgN N D b d) hi (hi + 1 - lo).toNat with
    | none => rw [ha] at h; cases h
    | some a =>
      rw [ha] at h
      injection h with h
      subst h
      obtain ⟨j, h1, h2, h3, h4, h5⟩ := tgA_is _ ha
      have a1 : lo ≤ a ∧ a ≤ hi := by omega
      refine ⟨a, b, _, d, rfl, ?_, by omega, by omega, ⟨?_, by omega⟩, by omega⟩
      · have e1 : a * (tgN N D b d / a) = tgN N D b d := Int.mul_ediv_cancel' (Int.dvd_of_emod_eq_zero h3)
        rw [e1]
        unfold tgN
        have e2 : b * d / D * D = b * d := Int.ediv_mul_cancel (Int.dvd_of_emod_eq_zero h0)
        rw [Int.mul_assoc, Int.mul_comm N D, ← Int.mul_assoc, e2]
      · have : 0 ≤ tgN N D b d := by
          have := Int.mul_nonneg (show 0 ≤ a by omega) (show 0 ≤ a by omega)
          omega
        exact Int.ediv_nonneg this (by omega)
  · cases h
theorem tgD_is {N D lo hi b : Int} {xs : List Int} (hl : 1 ≤ lo) (hh : hi ≤ 1000) (hb : lo ≤ b ∧ b ≤ hi) : ∀ k : Nat, lo + k ≤ hi + 1 → tgD N D lo hi b k = some xs → fourB N D xs
  | 0, _, h => by cases h
  | k + 1, hk, h => by
    unfold tgD at h
    cases h1 : tgD1 N D lo hi b (hi - k) with
    | some ys =>
      rw [h1] at h
      have : ys = xs := by simpa using h
      subst this
      exact tgD1_is hl hh (by omega) (by omega) h1
    | none =>
      rw [h1] at h
      exact tgD_is hl hh hb k (by omega) (by simpa using h)
theorem tgB_is {N D lo hi : Int} {xs : List Int} (hl : 1 ≤ lo) (hh : hi ≤ 1000) : ∀ k : Nat, lo + k ≤ hi + 1 → tgB N D lo hi k = some xs → fourB N D xs
  | 0, _, h => by cases h
  | k + 1, hk, h => by
    unfold tgB at h
    cases h1 : tgD N D lo hi (hi - k) (k + 1) with
    | some ys =>
      rw [h1] at h
      have : ys = xs := by simpa using h
      subst this
      exact tgD_is hl hh (by omega) (k + 1) (by omega) h1
    | none =>
      rw [h1] at h
      exact tgB_is hl hh k (by omega) (by simpa using h)
theorem two_four {N D lo hi : Int} (h : twoC N D lo hi = 0) : fourB N D (twoX N D lo hi) ∧ (1 ≤ N ∧ N ≤ 1000000 ∧ 1 ≤ D ∧ D ≤ 1000000) := by
  unfold twoC at h
  split at h
  · rename_i h0
    obtain ⟨hf, hr, ht⟩ := gearC_zero.1 h0
    obtain ⟨D1, _, _, _, _⟩ := fracOk_true.1 hf
    obtain ⟨N1, N2, D2⟩ := ratioB_true.1 hr
    have ht' : (inR lo 1 1000 = true ∧ inR hi lo 1000 = true) ∧ hi ≤ 120 := by unfold twoF at ht; simpa using ht
    obtain ⟨⟨ha, hb⟩, t1⟩ := ht'
    obtain ⟨lo1, lo2⟩ := inR_true.1 ha
    obtain ⟨hi1, hi2⟩ := inR_true.1 hb
    unfold twoX
    rw [if_pos h0]
    cases hR : tgB N D lo hi (hi + 1 - lo).toNat with
    | none => rw [hR] at h; cases h
    | some xs => exact ⟨tgB_is lo1 (by omega) _ (by omega) hR, by omega⟩
  · rename_i h0
    exact absurd h h0
end Go.Proofs.Ytgnifhegkjmgaaa
