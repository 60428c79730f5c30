/- Digits taken out of a state of four numbers: the plain law. No condition but those that each theorem names. -/
import Derived.Test.YtgnifhegkjmgaaaFracW
namespace Go.Proofs.Ytgnifhegkjmgaaa
open Go.RowKit Go.Sort

/-- The state (a x + b) / (c x + d). -/
structure S4 where
  a : Int
  b : Int
  c : Int
  d : Int
def S4.g (s : S4) : Nat := Nat.gcd (Int.gcd s.a s.b) (Int.gcd s.c s.d)
def S4.nrm (s : S4) : S4 := ⟨s.a.tdiv s.g, s.b.tdiv s.g, s.c.tdiv s.g, s.d.tdiv s.g⟩
/-- Not above 10^17 in absolute value. -/
def lowI (n : Int) : Bool := decide (-100000000000000000 ≤ n) && decide (n ≤ 100000000000000000)
theorem lowI_true {n : Int} : lowI n = true ↔ -100000000000000000 ≤ n ∧ n ≤ 100000000000000000 := by simp [lowI]
def S4.low (s : S4) : Bool := lowI s.a && lowI s.b && lowI s.c && lowI s.d
theorem S4.low_true {s : S4} : s.low = true ↔ (-100000000000000000 ≤ s.a ∧ s.a ≤ 100000000000000000) ∧ (-100000000000000000 ≤ s.b ∧ s.b ≤ 100000000000000000) ∧ (-100000000000000000 ≤ s.c ∧ s.c ≤ 100000000000000000) ∧ (-100000000000000000 ≤ s.d ∧ s.d ≤ 100000000000000000) := by
  unfold S4.low
  simp only [Bool.and_eq_true, lowI_true, and_assoc]
/-- The floor that is known. -/
def S4.q (s : S4) : Int := s.a / s.c
def S4.kn (s : S4) : Bool := decide (0 < s.c) && decide (s.a / s.c = (s.a + s.b) / (s.c + s.d))
/-- x * y stays small. -/
def fitI (x y : Int) : Bool := lowI (x * y)
/-- A floor taken out, the rest times the base. -/
def S4.tkS (s : S4) (base : Int) : S4 := ⟨base * (s.a - s.q * s.c), base * (s.b - s.q * s.d), s.c, s.d⟩
def S4.tkF (s : S4) (base : Int) : Bool := fitI s.q s.c && fitI s.q s.d && fitI base (s.a - s.q * s.c) && fitI base (s.b - s.q * s.d)
def S4.tk (s : S4) (base : Int) : Option S4 := if (s.tkF base && (s.tkS base).nrm.low) = true then some (s.tkS base).nrm else none
/-- A term fed. -/
def S4.fdS (s : S4) (t : Int) : S4 := ⟨s.a * t + s.b, s.a, s.c * t + s.d, s.c⟩
def S4.fdF (s : S4) (t : Int) : Bool := fitI s.a t && fitI s.c t
def S4.fd (s : S4) (t : Int) : Option S4 := if (s.fdF t && (s.fdS t).nrm.low) = true then some (s.fdS t).nrm else none
/-- No term left. -/
def S4.enS (s : S4) : S4 := ⟨s.a, s.a, s.c, s.c⟩

/-- Digits, so many rounds at most: the numbers, the terms that were fed, the code. -/
def dg (T : Nat → Option Int) (base : Int) (count : Nat) : Nat → S4 → Nat → List Int → Option (List Int × Nat × Int)
  | 0, _, _, _ => none
  | n + 1, s, k, out =>
    if (decide (0 < k) && s.kn) = true then
      if count < out.length + 1 then some (out ++ [s.q], k, 0)
      else match s.tk base with
        | none => some ([], 0, 5)
        | some s' => dg T base count n s' k (out ++ [s.q])
    else match T k with
      | none => dg T base count n s.enS.nrm k out
      | some t => if 1000 ≤ k then some ([], 0, 10) else match s.fd t with
        | none => some ([], 0, 5)
        | some s' => dg T base count n s' (k + 1) out

/-- What holds of the state at every round's head. -/
structure SInv (s : S4) (k : Nat) : Prop where
  low : s.low = true
  pos : (k = 0 ∧ s = ⟨1, 0, 0, 1⟩) ∨ (0 < k ∧ 1 ≤ s.c ∧ 0 ≤ s.d)
  kle : k ≤ 1000

theorem tdiv_dvd {x : Int} {g : Nat} (h : (g : Int) ∣ x) : x.tdiv g * g = x := Int.tdiv_mul_cancel h
theorem S4.g_dvd (s : S4) : (s.g : Int) ∣ s.a ∧ (s.g : Int) ∣ s.b ∧ (s.g : Int) ∣ s.c ∧ (s.g : Int) ∣ s.d := by
  have h1 : s.g ∣ Int.gcd s.a s.b := Nat.gcd_dvd_left _ _
  have h2 : s.g ∣ Int.gcd s.c s.d := Nat.gcd_dvd_right _ _
  have k1 : (s.g : Int) ∣ (Int.gcd s.a s.b : Int) := Int.natCast_dvd_natCast.2 h1
  have k2 : (s.g : Int) ∣ (Int.gcd s.c s.d : Int) := Int.natCast_dvd_natCast.2 h2
  exact ⟨Int.dvd_trans k1 (Int.gcd_dvd_left ..), Int.dvd_trans k1 (Int.gcd_dvd_right ..), Int.dvd_trans k2 (Int.gcd_dvd_left ..), Int.dvd_trans k2 (Int.gcd_dvd_right ..)⟩
theorem S4.g_pos {s : S4} (h : 1 ≤ s.c) : 0 < s.g := by
  rcases Nat.eq_zero_or_pos s.g with e | e
  · have := (s.g_dvd).2.2.1
    rw [e] at this
    have := Int.zero_dvd.1 this
    omega
  · exact e
theorem tdiv_le {x : Int} {g : Nat} : (x.tdiv g).natAbs ≤ x.natAbs := by
  rw [Int.natAbs_tdiv]
  exact Nat.div_le_self _ _
theorem tdiv_pos {x : Int} {g : Nat} (h : (g : Int) ∣ x) (hx : 1 ≤ x) : 1 ≤ x.tdiv g := by
  have := tdiv_dvd h
  rcases Int.lt_or_le 0 (x.tdiv g) with e | e
  · omega
  · have := Int.mul_nonpos_of_nonpos_of_nonneg e (Int.natCast_nonneg g)
    omega
theorem tdiv_nn {x : Int} {g : Nat} (hx : 0 ≤ x) : 0 ≤ x.tdiv g := Int.tdiv_nonneg hx (Int.natCast_nonneg g)
theorem lowI_of_abs {x y : Int} (h : x.natAbs ≤ y.natAbs) (hy : lowI y = true) : lowI x = true := by
  rw [lowI_true] at *
  omega
theorem S4.nrm_at {s : S4} (h1 : 1 ≤ s.c) (h2 : 0 ≤ s.d) : 1 ≤ s.nrm.c ∧ 0 ≤ s.nrm.d :=
  ⟨tdiv_pos (s.g_dvd).2.2.1 h1, tdiv_nn h2⟩
theorem S4.nrm_low {s : S4} (h : s.low = true) : s.nrm.low = true := by
  unfold S4.low at *
  simp only [Bool.and_eq_true] at *
  obtain ⟨⟨⟨a, b⟩, c⟩, d⟩ := h
  exact ⟨⟨⟨lowI_of_abs (tdiv_le) a, lowI_of_abs (tdiv_le) b⟩, lowI_of_abs (tdiv_le) c⟩, lowI_of_abs (tdiv_le) d⟩

/-- The state is the same for all x. -/
def S4.flat (s : S4) : Prop := s.a = s.b ∧ s.c = s.d
theorem S4.flat_nrm {s : S4} (h : s.flat) : s.nrm.flat := by
  obtain ⟨h1, h2⟩ := h
  unfold S4.flat S4.nrm
  simp only
  rw [h1, h2]
  exact ⟨rfl, rfl⟩
theorem S4.flat_tk {s : S4} {base : Int} (h : s.flat) : (s.tkS base).flat := by
  obtain ⟨h1, h2⟩ := h
  unfold S4.flat S4.tkS
  simp only
  rw [h1, h2]
  exact ⟨rfl, rfl⟩
theorem S4.flat_kn {s : S4} (h : s.flat) (hc : 1 ≤ s.c) : s.kn = true := by
  obtain ⟨h1, h2⟩ := h
  unfold S4.kn
  rw [← h1, ← h2]
  have e : (s.a + s.a) / (s.c + s.c) = s.a / s.c := by
    rw [show s.a + s.a = 2 * s.a by omega, show s.c + s.c = 2 * s.c by omega]
    exact Int.mul_ediv_mul_of_pos _ _ (by omega)
  rw [e]
  simp
  omega

section
variable {T : Nat → Option Int} {base : Int} {count : Nat}
theorem SInv.tk {s s' : S4} {k : Nat} (h : SInv s k) (hk : 0 < k) (ht : s.tk base = some s') : SInv s' k ∧ (s.flat → s'.flat) := by
  unfold S4.tk at ht
  split at ht
  · rename_i hh
    injection ht with ht
    rw [Bool.and_eq_true] at hh
    subst ht
    rcases h.pos with ⟨h1, _⟩ | ⟨_, h2, h3⟩
    · omega
    · exact ⟨⟨hh.2, .inr ⟨hk, S4.nrm_at (s := s.tkS base) h2 h3⟩, h.kle⟩, fun hf => S4.flat_nrm (S4.flat_tk hf)⟩
  · cases ht
theorem SInv.fd {s s' : S4} {k : Nat} {t : Int} (h : SInv s k) (hk : k < 1000) (hT : 0 < k → 1 ≤ t) (ht : s.fd t = some s') : SInv s' (k + 1) := by
  unfold S4.fd at ht
  split at ht
  · rename_i hh
    injection ht with ht
    rw [Bool.and_eq_true] at hh
    subst ht
    have hc : 1 ≤ (s.fdS t).c ∧ 0 ≤ (s.fdS t).d := by
      rcases h.pos with ⟨h1, rfl⟩ | ⟨h0, h2, h3⟩
      · unfold S4.fdS; simp
      · unfold S4.fdS
        simp only
        have := hT h0
        have := Int.mul_le_mul h2 this (by omega) (by omega)
        exact ⟨by omega, by omega⟩
    exact ⟨hh.2, .inr ⟨by omega, S4.nrm_at hc.1 hc.2⟩, by omega⟩
  · cases ht
theorem S4.en_low {s : S4} (h : s.low = true) : s.enS.low = true := by
  unfold S4.low S4.enS at *
  simp only [Bool.and_eq_true] at *
  exact ⟨⟨⟨h.1.1.1, h.1.1.1⟩, h.1.2⟩, h.1.2⟩
theorem SInv.en {s : S4} {k : Nat} (h : SInv s k) (hk : 0 < k) : SInv s.enS.nrm k ∧ s.enS.nrm.flat := by
  rcases h.pos with ⟨h1, _⟩ | ⟨_, h2, h3⟩
  · omega
  · exact ⟨⟨S4.nrm_low (s := s.enS) (S4.en_low h.low), .inr ⟨hk, S4.nrm_at (s := s.enS) h2 (show (0 : Int) ≤ s.c by omega)⟩, h.kle⟩, S4.flat_nrm (s := s.enS) ⟨rfl, rfl⟩⟩

/-- How many rounds are left at most. -/
noncomputable def muS (count : Nat) (s : S4) (k : Nat) (out : List Int) : Nat := by
  classical exact 2 * (count + 1 - out.length) + (1000 - k) + (if s.flat then 0 else 1)
theorem dg_some (hT0 : T 0 ≠ none) (hT : ∀ k t, T k = some t → 0 < k → 1 ≤ t) : ∀ (n : Nat) (s : S4) (k : Nat) (out : List Int), SInv s k → out.length ≤ count → muS count s k out < n → ∃ R, dg T base count n s k out = some R
  | 0, s, k, out, _, _, hm => by omega
  | n + 1, s, k, out, hi, ho, hm => by
    rw [dg]
    by_cases h1 : (decide (0 < k) && s.kn) = true
    · rw [if_pos h1]
      by_cases h2 : count < out.length + 1
      · rw [if_pos h2]; exact ⟨_, rfl⟩
      · rw [if_neg h2]
        cases ht : s.tk base with
        | none => exact ⟨_, rfl⟩
        | some s' =>
          have hk : 0 < k := by simp at h1; exact h1.1
          obtain ⟨i1, i2⟩ := hi.tk hk ht
          refine dg_some hT0 hT n s' k _ i1 (by simp; omega) ?_
          unfold muS at *
          simp only [List.length_append, List.length_cons, List.length_nil]
          by_cases hf : s.flat
          · rw [if_pos (i2 hf)]; rw [if_pos hf] at hm; omega
          · rw [if_neg hf] at hm
            split <;> omega
    · rw [if_neg h1]
      cases hTk : T k with
      | none =>
        have hk : 0 < k := by
          rcases Nat.eq_zero_or_pos k with e | e
          · subst e; exact absurd hTk hT0
          · exact e
        obtain ⟨i1, i2⟩ := hi.en hk
        refine dg_some hT0 hT n _ k out i1 ho ?_
        have hnf : ¬ s.flat := fun hf => by
          rcases hi.pos with ⟨e, _⟩ | ⟨_, h2, _⟩
          · omega
          · have := S4.flat_kn hf h2
            rw [this] at h1
            simp at h1
            omega
        unfold muS at *
        rw [if_pos i2]
        rw [if_neg hnf] at hm
        omega
      | some t =>
        by_cases h2 : 1000 ≤ k
        · simp only [if_pos h2]; exact ⟨_, rfl⟩
        · simp only [if_neg h2]
          cases ht : s.fd t with
          | none => exact ⟨_, rfl⟩
          | some s' =>
            have i1 := hi.fd (by omega) (fun h0 => hT k t hTk h0) ht
            refine dg_some hT0 hT n s' (k + 1) out i1 ho ?_
            unfold muS at *
            have hnf : 0 < k → ¬ s.flat := fun hk hf => by
              rcases hi.pos with ⟨e, _⟩ | ⟨_, h2, _⟩
              · omega
              · have := S4.flat_kn hf h2
                rw [this] at h1
                simp at h1
                omega
            have hnf0 : ¬ s.flat := by
              rcases Nat.eq_zero_or_pos k with e | e
              · rcases hi.pos with ⟨_, rfl⟩ | ⟨e', _⟩
                · unfold S4.flat; simp
                · omega
              · exact hnf e
            rw [if_neg hnf0] at hm
            split <;> omega
/-- The run from the start: it always ends. -/
theorem dg_run (hT0 : T 0 ≠ none) (hT : ∀ k t, T k = some t → 0 < k → 1 ≤ t) (hc : count ≤ 30) : ∃ R, dg T base count 1100 ⟨1, 0, 0, 1⟩ 0 [] = some R := by
  refine dg_some hT0 hT 1100 _ 0 [] ⟨rfl, .inl ⟨rfl, rfl⟩, by omega⟩ (by simp) ?_
  unfold muS
  simp only [List.length_nil]
  split <;> omega
end
end Go.Proofs.Ytgnifhegkjmgaaa
