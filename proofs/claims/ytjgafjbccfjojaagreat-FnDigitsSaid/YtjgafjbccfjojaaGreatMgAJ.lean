/- Parts of the proof, merged: DigLP CmpP ShortW ErrW ShAtW FloW. No condition but those that each theorem names. -/
import Derived.Test.YtjgafjbccfjojaaGreatMgAD
import Derived.Test.YtjgafjbccfjojaaGreatMgAB
import Derived.Test.YtjgafjbccfjojaaGreatMgAI
import Derived.Test.YtjgafjbccfjojaaGreatMgAA
import Derived.Test.YtjgafjbccfjojaaGreatMgAE
namespace Go.Proofs.YtjgafjbccfjojaaGreat
open Go.RowKit Go.Sort
/-- The ends of a state lie between 0 and the base. -/
structure RI (base : Int) (s : S4) : Prop where
  a0 : 0 ≤ s.a
  a1 : s.a < base * s.c
  b0 : 0 ≤ s.a + s.b
  b1 : s.a + s.b < base * (s.c + s.d)
theorem mul_cancelR {x y : Int} {g : Nat} (h : x * g < y * g) : x < y := Int.lt_of_mul_lt_mul_right h (Int.natCast_nonneg g)
theorem mul_nonR {x : Int} {g : Nat} (hg : 0 < g) (h : 0 ≤ x * g) : 0 ≤ x := by
  rcases Int.lt_or_le x 0 with h1 | h1
  · have := Int.mul_neg_of_neg_of_pos h1 (show (0 : Int) < (g : Int) by omega)
    omega
  · exact h1
theorem RI.nrm {base : Int} {s : S4} (h : RI base s) (hc : 1 ≤ s.c) : RI base s.nrm := by
  have hg := S4.g_pos hc
  obtain ⟨d1, d2, d3, d4⟩ := s.g_dvd
  obtain ⟨h1, h2, h3, h4⟩ := h
  have e1 := tdiv_dvd d1
  have e2 := tdiv_dvd d2
  have e3 := tdiv_dvd d3
  have e4 := tdiv_dvd d4
  refine ⟨mul_nonR hg ?_, mul_cancelR (g := s.g) ?_, mul_nonR hg ?_, mul_cancelR (g := s.g) ?_⟩
  · show 0 ≤ s.a.tdiv s.g * s.g
    rw [e1]; exact h1
  · show s.a.tdiv s.g * s.g < base * s.c.tdiv s.g * s.g
    rw [e1, Int.mul_assoc, e3]; exact h2
  · show 0 ≤ (s.a.tdiv s.g + s.b.tdiv s.g) * s.g
    rw [Int.add_mul, e1, e2]; exact h3
  · show (s.a.tdiv s.g + s.b.tdiv s.g) * s.g < base * (s.c.tdiv s.g + s.d.tdiv s.g) * s.g
    rw [Int.add_mul, e1, e2, Int.mul_assoc, Int.add_mul, e3, e4]; exact h4
theorem RI.fdS {base t : Int} {s : S4} (h : RI base s) (ht : 1 ≤ t) : RI base (s.fdS t) := by
  obtain ⟨h1, h2, h3, h4⟩ := h
  have k1 : 0 ≤ s.a * (t - 1) := Int.mul_nonneg h1 (by omega)
  have k2 : s.a * (t - 1) ≤ base * s.c * (t - 1) := Int.mul_le_mul_of_nonneg_right (Int.le_of_lt h2) (by omega)
  have e1 : s.a * t = s.a * (t - 1) + s.a := by rw [Int.mul_sub]; omega
  have e2 : base * s.c * t = base * s.c * (t - 1) + base * s.c := by rw [Int.mul_sub]; omega
  have e3 : base * (s.c * t + s.d) = base * s.c * t + base * s.d := by rw [Int.mul_add, Int.mul_assoc]
  have e4 : base * (s.c + s.d) = base * s.c + base * s.d := Int.mul_add _ _ _
  have e5 : base * (s.c * t + s.d + s.c) = base * s.c * t + base * s.d + base * s.c := by rw [Int.mul_add, e3]
  refine ⟨?_, ?_, ?_, ?_⟩
  · show 0 ≤ s.a * t + s.b
    omega
  · show s.a * t + s.b < base * (s.c * t + s.d)
    omega
  · show 0 ≤ s.a * t + s.b + s.a
    omega
  · show s.a * t + s.b + s.a < base * (s.c * t + s.d + s.c)
    omega
theorem RI.enS {base : Int} {s : S4} (h : RI base s) : RI base s.enS := by
  obtain ⟨h1, h2, _, _⟩ := h
  have e4 : base * (s.c + s.c) = base * s.c + base * s.c := Int.mul_add _ _ _
  refine ⟨h1, h2, ?_, ?_⟩
  · show 0 ≤ s.a + s.a
    omega
  · show s.a + s.a < base * (s.c + s.c)
    omega
theorem RI.tkS {base : Int} {s : S4} (hb : 1 ≤ base) (hd : 0 ≤ s.d) (hk : s.kn = true) : RI base (s.tkS base) := by
  unfold S4.kn at hk
  rw [Bool.and_eq_true, decide_eq_true_iff, decide_eq_true_iff] at hk
  obtain ⟨hc, hq⟩ := hk
  have q1 := Int.emod_nonneg s.a (show s.c ≠ 0 by omega)
  have q2 := Int.emod_lt_of_pos s.a hc
  have q3 := Int.emod_nonneg (s.a + s.b) (show s.c + s.d ≠ 0 by omega)
  have q4 := Int.emod_lt_of_pos (s.a + s.b) (show 0 < s.c + s.d by omega)
  have e1 : s.a - s.q * s.c = s.a % s.c := by
    have := Int.mul_ediv_add_emod s.a s.c
    rw [S4.q, Int.mul_comm]; omega
  have e2 : s.a + s.b - s.q * (s.c + s.d) = (s.a + s.b) % (s.c + s.d) := by
    have := Int.mul_ediv_add_emod (s.a + s.b) (s.c + s.d)
    rw [S4.q, hq, Int.mul_comm]; omega
  have e3 : base * (s.a - s.q * s.c) + base * (s.b - s.q * s.d) = base * ((s.a + s.b) % (s.c + s.d)) := by
    have e5 : s.q * (s.c + s.d) = s.q * s.c + s.q * s.d := Int.mul_add _ _ _
    have e6 : s.a - s.q * s.c + (s.b - s.q * s.d) = s.a + s.b - s.q * (s.c + s.d) := by omega
    rw [← Int.mul_add, e6, e2]
  have hb0 : 0 < base := by omega
  refine ⟨?_, ?_, ?_, ?_⟩
  · show 0 ≤ base * (s.a - s.q * s.c)
    rw [e1]; exact Int.mul_nonneg (by omega) q1
  · show base * (s.a - s.q * s.c) < base * s.c
    rw [e1]; exact Int.mul_lt_mul_of_pos_left q2 hb0
  · show 0 ≤ base * (s.a - s.q * s.c) + base * (s.b - s.q * s.d)
    rw [e3]; exact Int.mul_nonneg (by omega) q3
  · show base * (s.a - s.q * s.c) + base * (s.b - s.q * s.d) < base * (s.c + s.d)
    rw [e3]; exact Int.mul_lt_mul_of_pos_left q4 hb0
theorem RI.q {base : Int} {s : S4} (h : RI base s) (hc : 1 ≤ s.c) : 0 ≤ s.q ∧ s.q < base := by
  obtain ⟨h1, h2, _, _⟩ := h
  exact ⟨Int.ediv_nonneg h1 (by omega), Int.ediv_lt_of_lt_mul (by omega) h2⟩
section
variable {T : Nat → Option Int} {base : Int} {count : Nat} {R : List Int × Nat × Int}
/-- All digits behind the first lie below the base. -/
theorem dg_range (hT00 : T 0 ≠ none) (hT : ∀ k t, T k = some t → 0 < k → 1 ≤ t) (hb : 2 ≤ base) : ∀ (n : Nat) (s : S4) (k : Nat) (out : List Int), SInv s k → (out = [] ∨ 0 < k ∧ RI base s) → (∀ x ∈ out.drop 1, 0 ≤ x ∧ x < base) → dg T base count n s k out = some R → ∀ x ∈ R.1.drop 1, 0 ≤ x ∧ x < base
  | 0, _, _, _, _, _, _, h => by cases h
  | n + 1, s, k, out, hi, hr, ho, h => by
    have grow : 0 < k → s.kn = true → ∀ x ∈ (out ++ [s.q]).drop 1, 0 ≤ x ∧ x < base := fun hk _ x hx => by
      have hc : 1 ≤ s.c := by
        rcases hi.pos with ⟨h0, _⟩ | ⟨_, h1, _⟩
        · omega
        · exact h1
      cases out with
      | nil => simp at hx
      | cons y ys =>
        simp only [List.cons_append, List.drop_succ_cons, List.drop_zero] at hx ho
        rcases List.mem_append.1 hx with hx | hx
        · exact ho x hx
        · simp only [List.mem_cons, List.not_mem_nil, or_false] at hx
          subst hx
          rcases hr with hr | ⟨_, hr⟩
          · cases hr
          · exact hr.q hc
    rw [dg] at h
    split at h
    · rename_i hkn
      rw [Bool.and_eq_true, decide_eq_true_iff] at hkn
      obtain ⟨hk, hkn⟩ := hkn
      have hpos : 1 ≤ s.c ∧ 0 ≤ s.d := by
        rcases hi.pos with ⟨h0, _⟩ | ⟨_, h1⟩
        · omega
        · exact h1
      split at h
      · injection h with h
        subst h
        exact grow hk hkn
      · split at h
        · injection h with h
          subst h
          intro x hx
          simp at hx
        · rename_i s' hs'
          obtain ⟨hi', _⟩ := hi.tk hk hs'
          refine dg_range hT00 hT hb n s' k _ hi' (.inr ⟨hk, ?_⟩) (grow hk hkn) h
          unfold S4.tk at hs'
          split at hs'
          · injection hs' with hs'
            subst hs'
            exact (RI.tkS (by omega) hpos.2 hkn).nrm hpos.1
          · cases hs'
    · split at h
      · rename_i hkn hT0
        by_cases hk : 0 < k
        · have hpos : 1 ≤ s.c := by
            rcases hi.pos with ⟨h0, _⟩ | ⟨_, h1, _⟩
            · omega
            · exact h1
          exact dg_range hT00 hT hb n _ k out (hi.en hk).1 (hr.imp id fun hr => ⟨hk, hr.2.enS.nrm hpos⟩) ho h
        · have h0 : k = 0 := by omega
          subst h0
          exact absurd hT0 hT00
      · rename_i t hTk
        split at h
        · injection h with h
          subst h
          intro x hx
          simp at hx
        · split at h
          · injection h with h
            subst h
            intro x hx
            simp at hx
          · rename_i hk1 s' hs'
            have hi' := hi.fd (by omega) (hT k t hTk) hs'
            refine dg_range hT00 hT hb n s' (k + 1) out hi' (hr.imp id fun hr => ⟨by omega, ?_⟩) ho h
            have hpos : 1 ≤ s.c ∧ 0 ≤ s.d := by
              rcases hi.pos with ⟨h0, _⟩ | ⟨_, h1⟩
              · omega
              · exact h1
            have ht := hT k t hTk hr.1
            unfold S4.fd at hs'
            split at hs'
            · injection hs' with hs'
              subst hs'
              refine (hr.2.fdS ht).nrm ?_
              show 1 ≤ s.c * t + s.d
              have : s.c * 1 ≤ s.c * t := Int.mul_le_mul_of_nonneg_left ht (by omega)
              omega
            · cases hs'
/-- What is there already stays. -/
theorem dg_keep : ∀ (n : Nat) (s : S4) (k : Nat) (out : List Int), dg T base count n s k out = some R → R.2.2 = 0 → ∃ ys, R.1 = out ++ ys
  | 0, _, _, _, h, _ => by cases h
  | n + 1, s, k, out, h, h0 => by
    rw [dg] at h
    split at h
    · split at h
      · injection h with h
        subst h
        exact ⟨_, rfl⟩
      · split at h
        · injection h with h
          subst h
          cases h0
        · obtain ⟨ys, e⟩ := dg_keep n _ k _ h h0
          exact ⟨s.q :: ys, by rw [e]; simp⟩
    · split at h
      · exact dg_keep n _ k out h h0
      · split at h
        · injection h with h
          subst h
          cases h0
        · split at h
          · injection h with h
            subst h
            cases h0
          · exact dg_keep n _ _ out h h0
/-- A known state tells the first number. -/
theorem DgR.first {s : S4} {k : Nat} (h : DgR T base count s k [] R) (h0 : R.2.2 = 0) (hk : 0 < k) (hkn : s.kn = true) : R.1.head? = some s.q := by
  obtain ⟨n, h⟩ := h
  cases n with
  | zero => cases h
  | succ n =>
    rw [dg, if_pos (by simp [hk, hkn])] at h
    split at h
    · injection h with h
      subst h
      rfl
    · split at h
      · injection h with h
        subst h
        cases h0
      · obtain ⟨ys, e⟩ := dg_keep n _ k _ h h0
        rw [e]
        rfl
/-- A state that is not known takes the next term. -/
theorem DgR.go {s : S4} {k : Nat} {t : Int} (h : DgR T base count s k [] R) (h0 : R.2.2 = 0) (hn : (decide (0 < k) && s.kn) = false) (ht : T k = some t) : DgR T base count (s.fdS t).nrm (k + 1) [] R := by
  by_cases h4 : 1000 ≤ k
  · have := h.op hn ht h4
    subst this
    cases h0
  · cases hf : s.fd t with
    | none =>
      have := h.fd0 hn ht h4 hf
      subst this
      cases h0
    | some s' =>
      have h' := h.fd1 hn ht h4 hf
      unfold S4.fd at hf
      split at hf
      · injection hf with hf
        rw [hf]
        exact h'
      · cases hf
theorem nrm_one {s : S4} (h : s.g = 1) : s.nrm = s := by
  unfold S4.nrm
  rw [h]
  simp
theorem g_one {s : S4} (h : Int.gcd s.a s.b = 1 ∨ Int.gcd s.c s.d = 1) : s.g = 1 := by
  unfold S4.g
  rcases h with h | h <;> rw [h] <;> simp
/-- The floor of a source: its first term, but for the terms [t, 1]. -/
def floT (T : Nat → Option Int) : Int := if T 1 = some 1 ∧ T 2 = none then (T 0).getD 0 + 1 else (T 0).getD 0
theorem div_in {a c q : Int} (hc : 0 < c) (h1 : q * c ≤ a) (h2 : a < (q + 1) * c) : a / c = q := by
  have k1 := (Int.le_ediv_iff_mul_le hc).2 h1
  have k2 := Int.ediv_lt_of_lt_mul hc h2
  omega
theorem dg_floor {t0 : Int} (hT : ∀ k t, T k = some t → 0 < k → 1 ≤ t) (ht0 : T 0 = some t0) (h : DgR T base count ⟨1, 0, 0, 1⟩ 0 [] R) (h0 : R.2.2 = 0) : R.1.head? = some (floT T) := by
  have h1 := h.go h0 rfl ht0
  have e1 : (S4.fdS ⟨1, 0, 0, 1⟩ t0) = ⟨t0, 1, 1, 0⟩ := by simp [S4.fdS]
  rw [e1, nrm_one (g_one (.inr (by show Int.gcd 1 0 = 1; decide)))] at h1
  have n1 : ((decide (0 < 0 + 1)) && S4.kn ⟨t0, 1, 1, 0⟩) = false := by
    simp [S4.kn]
    omega
  cases ht1 : T 1 with
  | none =>
    have h2 := h1.en n1 ht1
    have e2 : (S4.enS ⟨t0, 1, 1, 0⟩).nrm = ⟨t0, t0, 1, 1⟩ := nrm_one (g_one (.inr (by show Int.gcd 1 1 = 1; decide)))
    rw [e2] at h2
    have k2 : S4.kn ⟨t0, t0, 1, 1⟩ = true := by
      unfold S4.kn
      rw [Bool.and_eq_true, decide_eq_true_iff, decide_eq_true_iff]
      refine ⟨by show (0 : Int) < 1; decide, ?_⟩
      show t0 / 1 = (t0 + t0) / (1 + 1)
      omega
    rw [h2.first h0 (by omega) k2]
    unfold floT
    rw [ht1, ht0]
    simp [S4.q]
  | some t1 =>
    have q1 := hT 1 t1 ht1 (by omega)
    have h2 := h1.go h0 n1 ht1
    have e2 : (S4.fdS ⟨t0, 1, 1, 0⟩ t1) = ⟨t0 * t1 + 1, t0, t1, 1⟩ := by simp [S4.fdS]
    have g2 : Int.gcd t1 1 = 1 := by simp
    rw [e2, nrm_one (g_one (.inr g2))] at h2
    by_cases c1 : t1 = 1
    · subst c1
      have n2 : ((decide (0 < 0 + 1 + 1)) && S4.kn ⟨t0 * 1 + 1, t0, 1, 1⟩) = false := by
        simp [S4.kn]
        omega
      cases ht2 : T 2 with
      | none =>
        have h3 := h2.en n2 ht2
        have e3 : (S4.enS ⟨t0 * 1 + 1, t0, 1, 1⟩).nrm = ⟨t0 * 1 + 1, t0 * 1 + 1, 1, 1⟩ := nrm_one (g_one (.inr (by show Int.gcd 1 1 = 1; decide)))
        rw [e3] at h3
        have k3 : S4.kn ⟨t0 * 1 + 1, t0 * 1 + 1, 1, 1⟩ = true := by
          unfold S4.kn
          rw [Bool.and_eq_true, decide_eq_true_iff, decide_eq_true_iff]
          refine ⟨by show (0 : Int) < 1; decide, ?_⟩
          show (t0 * 1 + 1) / 1 = (t0 * 1 + 1 + (t0 * 1 + 1)) / (1 + 1)
          omega
        rw [h3.first h0 (by omega) k3]
        unfold floT
        rw [if_pos ⟨ht1, ht2⟩, ht0]
        simp [S4.q]
      | some t2 =>
        have q2 := hT 2 t2 ht2 (by omega)
        have h3 := h2.go h0 n2 ht2
        have e3 : (S4.fdS ⟨t0 * 1 + 1, t0, 1, 1⟩ t2) = ⟨(t0 * 1 + 1) * t2 + t0, t0 * 1 + 1, 1 * t2 + 1, 1⟩ := rfl
        have g3 : Int.gcd (1 * t2 + 1) 1 = 1 := by simp
        rw [e3, nrm_one (g_one (.inr g3))] at h3
        have d1 : ((t0 * 1 + 1) * t2 + t0) / (1 * t2 + 1) = t0 := by
          have m1 : (t0 * 1 + 1) * t2 = t0 * t2 + t2 := by rw [Int.mul_one, Int.add_mul, Int.one_mul]
          have m2 : t0 * (1 * t2 + 1) = t0 * t2 + t0 := by rw [Int.one_mul, Int.mul_add, Int.mul_one]
          have m3 : (t0 + 1) * (1 * t2 + 1) = t0 * t2 + t0 + (t2 + 1) := by rw [Int.add_mul, m2]; omega
          exact div_in (by omega) (by omega) (by omega)
        have d2 : ((t0 * 1 + 1) * t2 + t0 + (t0 * 1 + 1)) / (1 * t2 + 1 + 1) = t0 := by
          have m1 : (t0 * 1 + 1) * t2 = t0 * t2 + t2 := by rw [Int.mul_one, Int.add_mul, Int.one_mul]
          have m2 : t0 * (1 * t2 + 1 + 1) = t0 * t2 + t0 + t0 := by rw [Int.one_mul, Int.mul_add, Int.mul_add, Int.mul_one]
          have m3 : (t0 + 1) * (1 * t2 + 1 + 1) = t0 * t2 + t0 + t0 + (t2 + 2) := by rw [Int.add_mul, m2]; omega
          exact div_in (by omega) (by omega) (by omega)
        have k3 : S4.kn ⟨(t0 * 1 + 1) * t2 + t0, t0 * 1 + 1, 1 * t2 + 1, 1⟩ = true := by
          unfold S4.kn
          rw [Bool.and_eq_true, decide_eq_true_iff, decide_eq_true_iff]
          exact ⟨by show 0 < 1 * t2 + 1; omega, d1.trans d2.symm⟩
        rw [h3.first h0 (by omega) k3]
        unfold floT
        rw [if_neg (fun e => by rw [ht2] at e; cases e.2), ht0]
        exact congrArg some d1
    · have d1 : (t0 * t1 + 1) / t1 = t0 := by
        have m3 : (t0 + 1) * t1 = t0 * t1 + t1 := by rw [Int.add_mul, Int.one_mul]
        exact div_in (by omega) (by omega) (by omega)
      have d2 : (t0 * t1 + 1 + t0) / (t1 + 1) = t0 := by
        have m2 : t0 * (t1 + 1) = t0 * t1 + t0 := by rw [Int.mul_add, Int.mul_one]
        have m3 : (t0 + 1) * (t1 + 1) = t0 * t1 + t0 + (t1 + 1) := by rw [Int.add_mul, m2]; omega
        exact div_in (by omega) (by omega) (by omega)
      have k2 : S4.kn ⟨t0 * t1 + 1, t0, t1, 1⟩ = true := by
        unfold S4.kn
        rw [Bool.and_eq_true, decide_eq_true_iff, decide_eq_true_iff]
        exact ⟨by show 0 < t1; omega, d1.trans d2.symm⟩
      rw [h2.first h0 (by omega) k2]
      unfold floT
      rw [if_neg (fun e => by rw [ht1] at e; injection e.1 with e; exact c1 e), ht0]
      exact congrArg some d1
end
end Go.Proofs.YtjgafjbccfjojaaGreat
namespace Go.Proofs.YtjgafjbccfjojaaGreat
open Go.RowKit Go.Sort
/-- Terms in short form. -/
def shT (xs : List Int) : List Int := if 1 < xs.length ∧ xs.getD (xs.length - 1) 0 = 1 then (xs.take (xs.length - 1)).set (xs.length - 2) (xs.getD (xs.length - 2) 0 + 1) else xs
theorem shT_yes {xs : List Int} (h1 : 1 < xs.length) (h2 : xs.getD (xs.length - 1) 0 = 1) : shT xs = (xs.take (xs.length - 1)).set (xs.length - 2) (xs.getD (xs.length - 2) 0 + 1) := if_pos ⟨h1, h2⟩
theorem shT_no {xs : List Int} (h : ¬ (1 < xs.length ∧ xs.getD (xs.length - 1) 0 = 1)) : shT xs = xs := if_neg h
theorem shT_le (xs : List Int) : (shT xs).length ≤ xs.length := by
  unfold shT
  split
  · simp only [List.length_set, List.length_take]; omega
  · exact Nat.le_refl _
section
variable {f g : Nat → Option Int}
end
end Go.Proofs.YtjgafjbccfjojaaGreat
namespace Go.Proofs.YtjgafjbccfjojaaGreat
open Go.RowKit Go.Sort
theorem Rd.take {α : Type} {enc : α → Value} {w : World} {B : Nat} {A : Option Addr} {xs : List α} (h : Rd enc w B A xs) (k : Nat) : Rd enc w B A (xs.take k) := fun hn => by
  obtain ⟨b, off, e, hb, hc⟩ := h (by rw [List.length_take] at hn; omega)
  exact ⟨b, off, e, hb, fun j x hx => hc j x (by rw [List.getElem?_take] at hx; split at hx; exact hx; cases hx)⟩
theorem Wr.setAt {w : World} {B b off j : Nat} {xs : List Int} {x : Int} (h : Wr (Value.int .i64) w B (some ⟨b, off, none⟩) xs) (hj : j < xs.length) : Wr (Value.int .i64) (w.setCell ⟨b, off + j, none⟩ (.int .i64 x)) B (some ⟨b, off, none⟩) (xs.set j x) := fun _ => by
  obtain ⟨b', off', e, hb, hl, hc, hf⟩ := h (by omega)
  injection e with e
  injection e with e1 e2
  subst e1 e2
  refine ⟨b, off, rfl, hb, by simpa using hl, fun i y hy => ?_, fun i => (World.frozen?_setCell _ _ _ _).trans (hf i)⟩
  by_cases hij : i = j
  · subst hij
    rw [List.getElem?_set_self hj] at hy
    obtain rfl := Option.some.inj hy
    exact World.cell?_setCell_same _ _ _ (hc i _ (List.getElem?_eq_getElem hj))
  · rw [List.getElem?_set_ne (fun e => hij e.symm)] at hy
    exact (World.cell?_setCell_other _ _ _ _ (by intro e; injection e; omega)).trans (hc i y hy)
theorem RetCap.of {w w' : World} {A : Option Addr} {n c : Nat} {ys : List Int} (hn : ys.length = n) (hw : Wr (Value.int .i64) w' w.heap.size A ys) (hc : ys.length ≤ c ∧ c ≤ maxLen) (hb : Below w.heap.size w w') : RetCap w ys (.returned (.slice A n c)) w' := by
  subst hn; exact ⟨A, c, rfl, hw, hc, hb⟩
theorem getD_last {xs : List Int} {m : Nat} (h : xs.length = m + 2) : xs[m + 1]? = some (xs.getD (xs.length - 1) 0) := by
  rw [show xs.length - 1 = m + 1 by omega]
  exact getD_of (by omega)
set_option maxRecDepth 100000 in
set_option maxHeartbeats 1000000 in
theorem shortForm_any (A : Option Addr) (c : Nat) (xs : List Int) (w : World) (hx : Rd (Value.int .i64) w w.heap.size A xs) (hm : xs.length ≤ 1000) (hcap : xs.length ≤ c ∧ c ≤ maxLen) (hb : ∀ x ∈ xs, -2000000000 ≤ x ∧ x ≤ 2000000000) :
    Calls Tryz.prog 79 #[.slice A xs.length c] w (RetCap w (shT xs)) := by
  obtain ⟨hc1, hc2⟩ := hcap
  rcases Nat.lt_or_ge 1 xs.length with h1 | h1
  · obtain ⟨m, hm2⟩ : ∃ m, xs.length = m + 2 := ⟨xs.length - 2, by omega⟩
    have hlast := getD_last hm2
    have HM := Lib.hid hm2
    have HCL : Hid (∀ W, Below w.heap.size w W → Calls Tryz.prog 26 #[.slice A (m + 2) c] W (RetCap W xs)) := fun W h => by
      have k := clone_any A c xs W ((hx.below h).more h.size) (by omega)
      rwa [hm2] at k
    have HCT : Hid (∀ W, Below w.heap.size w W → Calls Tryz.prog 26 #[.slice A (m + 1) c] W (RetCap W (xs.take (m + 1)))) := fun W h => by
      have k := clone_any A c (xs.take (m + 1)) W (((hx.below h).more h.size).take _) (by rw [List.length_take]; omega)
      rwa [List.length_take, show min (m + 1) xs.length = m + 1 by omega] at k
    have i1 : (m : Int) + 1 ≤ (c : Int) := by omega
    have i2 : (0 : Int) ≤ (m : Int) + 1 := by omega
    have i3 : (m : Int) + 1 < (m : Int) + 2 := by omega
    have i4 : (m : Int) + 2 ≤ 1000 := by omega
    have i5 : m + 1 < m + 2 := by omega
    have i6 : m + 2 ≤ 1000 := by omega
    have i7 : (1 : Int) < (m : Int) + 2 := by omega
    have i8 : 1 < m + 2 := by omega
    have hpre : xs[m]? = some (xs.getD m 0) := getD_of (by omega)
    obtain ⟨b, off, rfl, hb0, hc⟩ := hx (by omega)
    have cl := hc _ _ hlast
    obtain ⟨pb1, pb2⟩ := hb _ (List.mem_of_getElem? hpre)
    clear hc hx
    by_cases h2 : xs.getD (xs.length - 1) 0 = 1
    · have HE : Hid (shT xs = (xs.take (m + 1)).set m (xs.getD m 0 + 1)) := by
        unfold Hid
        rw [shT_yes h1 h2, hm2]; rfl
      rw [HE.out]
      rw [h2] at cl
      have ht : (xs.take (m + 1)).length = m + 1 := by rw [List.length_take]; omega
      have hp2 : (xs.take (m + 1))[m]? = some (xs.getD m 0) := by rw [List.getElem?_take, if_pos (by omega)]; exact hpre
      have HT := Lib.hid (And.intro ht hp2)
      have HP := Lib.hid hpre
      rw [hm2]
      generalize xs.getD m 0 = q at *
      clear ht hp2 hpre hlast hm2 h2 h1 hm hc1 hb
      go_enter Tryz.func79, Tryz.ntmps79
      go_wp2_with (go_at_call 26; (with_reducible refine (HCT.out _ (Below.refl _ _)).mono ?_); rintro e w1 ⟨A1, c1, rfl, hw1, hcc1, hb1⟩; obtain ⟨b1, off1, rfl, hbb, hlt, hcx, hfx⟩ := hw1 (by rw [HT.out.1]; omega); have x1 := hcx _ _ HT.out.2; have f1 := hfx (off1 + m); have HW := Lib.hid hw1; have HL1 : Hid ((xs.take (m + 1)).length ≤ c1 ∧ c1 ≤ maxLen) := hcc1; clear hcx hfx hw1 hcc1; (try simp only [HT.out.1]))
      go_ret
      exact RetCap.of (by have h := HT.out.1; rw [List.length_set]; omega) (HW.out.setAt (by rw [HT.out.1]; omega)) (by rw [List.length_set]; exact HL1.out) (ext_set hb1 (by exact hbb) _)
    · have HE : Hid (shT xs = xs) := shT_no (fun h => h2 h.2)
      have hne : (xs.getD (xs.length - 1) 0 == 1) = false := by simpa using h2
      rw [HE.out, hm2]
      generalize xs.getD (xs.length - 1) 0 = q at *
      clear hlast hm2 h2 h1 hm hc1 hb hpre
      go_enter Tryz.func79, Tryz.ntmps79
      go_wp2_with (go_at_call 26; (with_reducible refine (HCL.out _ (Below.refl _ _)).mono ?_); rintro e w1 ⟨A1, c1, rfl, hw1, hcc1, hb1⟩)
      go_ret
      exact ⟨A1, c1, rfl, hw1, hcc1, hb1⟩
  · have HE : Hid (shT xs = xs) := shT_no (fun h => by omega)
    have h1n : ¬ 1 < xs.length := by omega
    have h1i : ¬ (1 : Int) < (xs.length : Int) := by omega
    rw [HE.out]
    have HCL : Hid (∀ W, Below w.heap.size w W → Calls Tryz.prog 26 #[.slice A xs.length c] W (RetCap W xs)) := fun W h => clone_any A c xs W ((hx.below h).more h.size) (by omega)
    go_enter Tryz.func79, Tryz.ntmps79
    go_wp2_with (go_at_call 26; (with_reducible refine (HCL.out _ (Below.refl _ _)).mono ?_); rintro e w1 ⟨A1, c1, rfl, hw1, hcc1, hb1⟩)
    go_ret
    exact ⟨A1, c1, rfl, hw1, hcc1, hb1⟩
end Go.Proofs.YtjgafjbccfjojaaGreat
namespace Go.Proofs.YtjgafjbccfjojaaGreat
open Go.RowKit Go.Sort
/-- -1, 0 or 1. -/
def cmp3 (a b : Int) : Int := if a < b then -1 else if b < a then 1 else 0
theorem cmp3_neg {a b : Int} : cmp3 a b < 0 ↔ a < b := by unfold cmp3; split <;> (try split) <;> omega
theorem compare_any (a b : Int) (w : World) : Calls Tryz.prog 86 #[.int .i64 a, .int .i64 b] w fun e w' => e = .returned (.int .i64 (cmp3 a b)) ∧ w = w' := by
  by_cases h1 : a < b
  · go_enter Tryz.func86, Tryz.ntmps86
    go_wp2
    go_ret
    exact ⟨ret_int (by rw [cmp3, if_pos h1]), rfl⟩
  · by_cases h2 : b < a
    all_goals
      go_enter Tryz.func86, Tryz.ntmps86
      go_wp2
      go_ret
      exact ⟨ret_int (by unfold cmp3; split <;> (try split) <;> omega), rfl⟩
end Go.Proofs.YtjgafjbccfjojaaGreat
namespace Go.Proofs.YtjgafjbccfjojaaGreat
open Go.RowKit Go.Sort
@[reducible] def shV (H : Option Addr) (a ca : Nat) (P : Option Addr) (b cb : Nat) (G : Option Addr) (c cc : Nat) (L : Option Addr) (n cl : Nat) (fin : Bool) : Value := .agg #[.slice H a ca, .slice P b cb, .slice G c cc, .slice L n cl, .bool fin]
/-- A source in short form whose terms are f. -/
def ShOk (w : World) (B : Nat) (H : Option Addr) (a : Nat) (P : Option Addr) (b : Nat) (G : Option Addr) (c : Nat) (L : Option Addr) (n : Nat) (fin : Bool) (f : Nat → Option Int) : Prop :=
  (fin = true ∧ ∃ xs : List Int, n = xs.length ∧ Rd (Value.int .i64) w B L xs ∧ xs.length ≤ 1000 ∧ ∀ k, f k = xs[k]?) ∨
  (fin = false ∧ ∃ s : So, a = s.hd.length ∧ b = s.pd.length ∧ c = s.gr.length ∧ RdSo w B H P G s ∧ TmB s ∧ ∀ k, f k = tmS s k)
set_option maxHeartbeats 1000000 in
theorem shAt_any (H : Option Addr) (a ca : Nat) (P : Option Addr) (b cb : Nat) (G : Option Addr) (c cc : Nat) (L : Option Addr) (n cl : Nat) (fin : Bool) (f : Nat → Option Int) (k : Nat) (w : World) (h : ShOk w w.heap.size H a P b G c L n fin f) (hk : k ≤ 1000) :
    Calls Tryz.prog 52 #[shV H a ca P b cb G c cc L n cl fin, .int .i64 (k : Int)] w fun e w' => e = .returned (.tuple #[.int .i64 ((f k).getD 0), .bool (f k).isSome]) ∧ Below w.heap.size w w' := by
  unfold shV
  rcases h with ⟨rfl, xs, rfl, h3, h4, h5⟩ | ⟨rfl, s, rfl, rfl, rfl, h5, h6, h7⟩
  · rw [h5 k]
    clear h5 f
    by_cases hlt : k < xs.length
    · obtain ⟨bb, off, rfl, hb, hc⟩ := h3 (by omega)
      have cx : (w.alloc (.cells #[.slice H a ca, .slice P b cb, .slice G c cc, .slice (some ⟨bb, off, none⟩) xs.length cl, .bool true] 77)).cell? ⟨bb, off + k, none⟩ = some (.int .i64 xs[k]) := (World.cell?_alloc_lt _ _ _ hb).trans (hc k _ (List.getElem?_eq_getElem hlt))
      have i0 : (0 : Int) ≤ (k : Int) := by omega
      have i1 : (k : Int) < (xs.length : Int) := by omega
      have HE : Hid (xs[k]? = some xs[k]) := List.getElem?_eq_getElem hlt
      rw [HE.out]
      clear hc HE
      generalize xs[k] = t at *
      go_enter Tryz.func52, Tryz.ntmps52
      go_wp2_with (go_at_call 55; refine (sizeT_any _ _ _ _).mono ?_; rintro e w' ⟨rfl, rfl⟩)
      go_ret2
      exact ⟨rfl, ext1 _ _⟩
    · have i1 : ¬ (k : Int) < (xs.length : Int) := by omega
      have HE : Hid (xs[k]? = none) := List.getElem?_eq_none (by omega)
      rw [HE.out]
      clear h3 HE
      go_enter Tryz.func52, Tryz.ntmps52
      go_wp2_with (go_at_call 55; refine (sizeT_any _ _ _ _).mono ?_; rintro e w' ⟨rfl, rfl⟩)
      go_ret2
      exact ⟨rfl, ext1 _ _⟩
  · rw [h7 k]
    have HT := Lib.hid (termAt_any s H P G ca cb cc k _ (h5.next (ext1 w (.cells #[.slice H s.hd.length ca, .slice P s.pd.length cb, .slice G s.gr.length cc, .slice L n cl, .bool false] 77))) h6 (by omega))
    clear h5 h6 h7 f
    unfold souV at HT
    generalize tmS s k = t at *
    generalize s.hd.length = nh at *
    generalize s.pd.length = np at *
    generalize s.gr.length = ng at *
    go_enter Tryz.func52, Tryz.ntmps52
    go_wp2_with (go_at_call 58; (with_reducible refine HT.out.mono ?_); rintro e w1 ⟨rfl, hb1⟩)
    go_ret2
    exact ⟨rfl, ext_trans (ext1 _ _) hb1⟩
end Go.Proofs.YtjgafjbccfjojaaGreat
namespace Go.Proofs.YtjgafjbccfjojaaGreat
open Go.RowKit Go.Sort
/-- The terms of a source in short form. -/
def shF (s : So) (k : Nat) : Option Int := if s.pd.length = 0 then (shT s.hd)[k]? else tmS s k
theorem shF_floor {s : So} (h : soB s = true) : (shF s 0).getD 0 = floT (tmS s) := by
  obtain ⟨⟨h1, h2, h3, h4⟩, h5, h6⟩ := so_at h
  by_cases hp : s.pd.length = 0
  · unfold shF
    rw [if_pos hp]
    have hg : ∀ k, tmS s k = s.hd[k]? := fun k => by
      unfold tmS
      split
      · rename_i hk
        rw [List.getElem?_eq_getElem hk, List.getD_eq_getElem?_getD, List.getElem?_eq_getElem hk]; rfl
      · rename_i hk
        rw [List.getElem?_eq_none (by omega)]
    unfold floT
    rw [hg 0, hg 1, hg 2]
    match hx : s.hd with
    | [] => exact absurd (by rw [hx, hp]; rfl) h4
    | [a] => simp [shT]
    | [a, b] =>
      by_cases hb : b = 1
      · subst hb; simp [shT]
      · simp [shT, hb]
    | a :: b :: c :: l =>
      rw [if_neg (fun e => by simp at e)]
      unfold shT
      split
      · rw [show (a :: b :: c :: l).length - 2 = l.length + 1 by simp, show (a :: b :: c :: l).length - 1 = l.length + 2 by simp]
        simp
      · simp
  · unfold shF
    rw [if_neg hp]
    unfold floT
    rw [if_neg]
    rintro ⟨_, e⟩
    unfold tmS at e
    split at e
    · cases e
    · cases e
/-- What returns a source in short form. -/
def RetSh (w : World) (f : Nat → Option Int) (e : Ending) (w' : World) : Prop := ∃ (H' : Option Addr) (a ca : Nat) (P' : Option Addr) (b cb : Nat) (G' : Option Addr) (c cc : Nat) (L : Option Addr) (n cl : Nat) (fin : Bool), e = .returned (shV H' a ca P' b cb G' c cc L n cl fin) ∧ ShOk w' w'.heap.size H' a P' b G' c L n fin f ∧ Below w.heap.size w w'
set_option maxHeartbeats 1000000 in
theorem shortOf_any (s : So) (H P G : Option Addr) (ch cp cg : Nat) (w : World) (hr : RdSo w w.heap.size H P G s) (hs : soB s = true) (hcap : s.hd.length ≤ ch ∧ ch ≤ maxLen) :
    Calls Tryz.prog 51 #[souV H s.hd.length ch P s.pd.length cp G s.gr.length cg] w (RetSh w (shF s)) := by
  have hsb := so_at hs
  obtain ⟨⟨l1, l2, l3, l4⟩, h5, h6⟩ := hsb
  have E0 := Lib.hid (ext1 w (.cells #[.slice H s.hd.length ch, .slice P s.pd.length cp, .slice G s.gr.length cg] 26))
  have E1 := Lib.hid (ext_alloc E0.out (.cells #[.slice none 0 0, .slice none 0 0, .slice none 0 0, .slice none 0 0, .bool false] 77))
  have B0 := Lib.hid ((BoxV.new w #[.slice H s.hd.length ch, .slice P s.pd.length cp, .slice G s.gr.length cg] 26).alloc (.cells #[.slice none 0 0, .slice none 0 0, .slice none 0 0, .slice none 0 0, .bool false] 77))
  have B1 : Hid (BoxV (w.heap.size + 1) [.slice none 0 0, .slice none 0 0, .slice none 0 0, .slice none 0 0, .bool false] ((w.alloc (.cells #[.slice H s.hd.length ch, .slice P s.pd.length cp, .slice G s.gr.length cg] 26)).alloc (.cells #[.slice none 0 0, .slice none 0 0, .slice none 0 0, .slice none 0 0, .bool false] 77))) := by
    have h := BoxV.new (w.alloc (.cells #[.slice H s.hd.length ch, .slice P s.pd.length cp, .slice G s.gr.length cg] 26)) #[.slice none 0 0, .slice none 0 0, .slice none 0 0, .slice none 0 0, .bool false] 77
    unfold Hid
    simpa using h
  by_cases hp : s.pd.length = 0
  · have HF : Hid (∀ k, shF s k = (shT s.hd)[k]?) := fun k => by unfold shF; rw [if_pos hp]
    have HBD : Hid (∀ x ∈ s.hd, -2000000000 ≤ x ∧ x ≤ 2000000000) := fun x hx => by
      obtain ⟨j, hj⟩ := List.getElem?_of_mem hx
      obtain ⟨hj1, hj2⟩ := List.getElem?_eq_some_iff.1 hj
      have := h5 j hj1
      rw [List.getD_eq_getElem?_getD, hj] at this
      simp only [Option.getD_some] at this
      split at this <;> omega
    have HS := Lib.hid (fun W : World => fun hW : Below w.heap.size w W => shortForm_any H ch s.hd W ((hr.h.below hW).more hW.size) (by omega) hcap HBD.out)
    have HL : Hid ((shT s.hd).length ≤ 1000) := by have := shT_le s.hd; unfold Hid; omega
    clear hr hs h5 h6 l4 l3 l2
    rw [hp] at E0 E1 B0 B1 ⊢
    generalize s.gr.length = ng at *
    generalize s.hd.length = nh at *
    generalize shT s.hd = ts at *
    clear hp
    unfold souV
    go_enter Tryz.func51, Tryz.ntmps51
    go_wp2_with fail
    generalize ((w.alloc (.cells #[.slice H nh ch, .slice P 0 cp, .slice G ng cg] 26)).alloc (.cells #[.slice none 0 0, .slice none 0 0, .slice none 0 0, .slice none 0 0, .bool false] 77)) = W at *
    have HZ : Hid (w.heap.size + 1 < W.heap.size) := B1.out.lt
    refine (HS.out _ E1.out).mono ?_
    rintro e w1 ⟨A1, c1, rfl, hw1, _, hb1⟩
    have B1 := Lib.hid (B1.out.next hb1)
    have E1 := Lib.hid (ext_trans E1.out hb1)
    have HW := Lib.hid (hw1.more (Nat.succ_le_of_lt HZ.out))
    have F := Lib.hid (((((B1.out.set 0 (.slice none 0 0) (by decide)).set 1 (.slice none 0 0) (by simp)).set 2 (.slice none 0 0) (by simp)).set 3 (.slice A1 ts.length c1) (by simp)).set 4 (.bool true) (by simp))
    have HW := Lib.hid (((((HW.out.setLow (p := ⟨w.heap.size + 1, 0, none⟩) (Nat.lt_succ_self _) (.slice none 0 0)).setLow (p := ⟨w.heap.size + 1, 1, none⟩) (Nat.lt_succ_self _) (.slice none 0 0)).setLow (p := ⟨w.heap.size + 1, 2, none⟩) (Nat.lt_succ_self _) (.slice none 0 0)).setLow (p := ⟨w.heap.size + 1, 3, none⟩) (Nat.lt_succ_self _) (.slice A1 ts.length c1)).setLow (p := ⟨w.heap.size + 1, 4, none⟩) (Nat.lt_succ_self _) (.bool true))
    have F5 := Lib.hid (ext_set (ext_set (ext_set (ext_set (ext_set E1.out (p := ⟨w.heap.size + 1, 0, none⟩) (Nat.le_succ _) (.slice none 0 0)) (p := ⟨w.heap.size + 1, 1, none⟩) (Nat.le_succ _) (.slice none 0 0)) (p := ⟨w.heap.size + 1, 2, none⟩) (Nat.le_succ _) (.slice none 0 0)) (p := ⟨w.heap.size + 1, 3, none⟩) (Nat.le_succ _) (.slice A1 ts.length c1)) (p := ⟨w.heap.size + 1, 4, none⟩) (Nat.le_succ _) (.bool true))
    clear hw1 hb1 B0 E0
    have r0 := B1.out.at 0 _ rfl
    have r1 := B1.out.at 1 _ rfl
    have r2 := B1.out.at 2 _ rfl
    have r3 := B1.out.at 3 _ rfl
    have r4 := B1.out.at 4 _ rfl
    have f0 := B1.out.f 0
    have f1 := B1.out.f 1
    have f2 := B1.out.f 2
    have f3 := B1.out.f 3
    have f4 := B1.out.f 4
    go_wp2
    refine bodyPost_ret (v := shV none 0 0 none 0 0 none 0 0 A1 ts.length c1 true) ?_ rfl ⟨_, _, _, _, _, _, _, _, _, _, _, _, _, rfl, .inl ⟨rfl, ts, rfl, HW.out.rd, HL.out, HF.out⟩, F5.out⟩
    have z0 := F.out.at 0 _ rfl
    have z1 := F.out.at 1 _ rfl
    have z2 := F.out.at 2 _ rfl
    have z3 := F.out.at 3 _ rfl
    have z4 := F.out.at 4 _ rfl
    simp [results, Tryz.results51, go_sem, z0, z1, z2, z3, z4]
  · have HF : Hid (∀ k, shF s k = tmS s k) := fun k => by unfold shF; rw [if_neg hp]
    have HT := Lib.hid (soB_tm hs)
    have i1 : (0 : Int) < (s.pd.length : Int) := by omega
    have i2 : 0 < s.pd.length := by omega
    have F : Hid (BoxV (w.heap.size + 1) [.slice H s.hd.length ch, .slice P s.pd.length cp, .slice G s.gr.length cg, .slice none 0 0, .bool false] ((w.alloc (.cells #[.slice H s.hd.length ch, .slice P s.pd.length cp, .slice G s.gr.length cg] 26)).alloc (.cells #[.slice H s.hd.length ch, .slice P s.pd.length cp, .slice G s.gr.length cg, .slice none 0 0, .bool false] 77))) := by
      have h := BoxV.new (w.alloc (.cells #[.slice H s.hd.length ch, .slice P s.pd.length cp, .slice G s.gr.length cg] 26)) #[.slice H s.hd.length ch, .slice P s.pd.length cp, .slice G s.gr.length cg, .slice none 0 0, .bool false] 77
      unfold Hid
      simpa using h
    have F5 := Lib.hid (ext_alloc E0.out (.cells #[.slice H s.hd.length ch, .slice P s.pd.length cp, .slice G s.gr.length cg, .slice none 0 0, .bool false] 77))
    clear l3 B1 E1
    have HR := Lib.hid (fun W : World => fun hW : Below w.heap.size w W => hr.next hW)
    clear hr h5 h6 hs
    unfold souV
    go_enter Tryz.func51, Tryz.ntmps51
    go_wp2
    refine bodyPost_ret (v := shV H s.hd.length ch P s.pd.length cp G s.gr.length cg none 0 0 false) ?_ rfl ⟨_, _, _, _, _, _, _, _, _, _, _, _, _, rfl, .inr ⟨rfl, s, rfl, rfl, rfl, HR.out _ F5.out, HT.out, HF.out⟩, F5.out⟩
    have z0 := F.out.at 0 _ rfl
    have z1 := F.out.at 1 _ rfl
    have z2 := F.out.at 2 _ rfl
    have z3 := F.out.at 3 _ rfl
    have z4 := F.out.at 4 _ rfl
    simp [results, Tryz.results51, go_sem, z0, z1, z2, z3, z4]
theorem FloorOfSource_any (s : So) (H P G : Option Addr) (ch cp cg : Nat) (w : World) (hr : RdSo w w.heap.size H P G s) (hs : soB s = true) (hcap : s.hd.length ≤ ch ∧ ch ≤ maxLen) :
    Calls Tryz.prog 20 #[souV H s.hd.length ch P s.pd.length cp G s.gr.length cg] w fun e w' => e = .returned (.tuple #[.int .i64 (floT (tmS s)), .int .i64 0]) ∧ Below w.heap.size w w' := by
  have HV : Hid (∀ W : World, Below w.heap.size w W → Calls Tryz.prog 22 #[souV H s.hd.length ch P s.pd.length cp G s.gr.length cg] W fun e w' => e = .returned (.bool true) ∧ Below W.heap.size W w') := fun W hb => by
    have h := ValidSource_any s H P G ch cp cg W (hr.next hb)
    rwa [hs] at h
  have HS := Lib.hid (fun W : World => fun hW : Below w.heap.size w W => shortOf_any s H P G ch cp cg W (hr.next hW) hs hcap)
  have HE : Hid ((shF s 0).getD 0 = floT (tmS s)) := shF_floor hs
  have B0 := Lib.hid (BoxV.new w #[.slice H s.hd.length ch, .slice P s.pd.length cp, .slice G s.gr.length cg] 26)
  clear hr hs
  rw [← HE.out]
  generalize shF s = f at *
  unfold souV at *
  generalize s.hd.length = nh at *
  generalize s.pd.length = np at *
  generalize s.gr.length = ng at *
  go_enter Tryz.func20, Tryz.ntmps20
  go_wp2_with fail
  refine (HV.out _ (ext1 _ _)).mono ?_
  rintro e w1 ⟨rfl, hb1⟩
  have E1 := Lib.hid (ext_trans (ext1 w (.cells #[.slice H nh ch, .slice P np cp, .slice G ng cg] 26)) hb1)
  have B1 := Lib.hid (B0.out.next hb1)
  have r0 := B1.out.at 0 _ rfl
  have r1 := B1.out.at 1 _ rfl
  have r2 := B1.out.at 2 _ rfl
  clear B0 hb1
  go_wp2_with fail
  refine (HS.out _ E1.out).mono ?_
  rintro e w2 ⟨H', a, ca, P', b, cb, G', c, cc, L, n, cl, fin, rfl, hsh, hb2⟩
  have HSH : Hid (Calls Tryz.prog 52 #[shV H' a ca P' b cb G' c cc L n cl fin, .int .i64 0] w2 fun e w' => e = .returned (.tuple #[.int .i64 ((f 0).getD 0), .bool (f 0).isSome]) ∧ Below w2.heap.size w2 w') := shAt_any H' a ca P' b cb G' c cc L n cl fin f 0 w2 hsh (by omega)
  have E2 := Lib.hid (ext_trans E1.out hb2)
  clear hsh hb2 r0 r1 r2 B1 HS HV
  go_wp2_with (go_at_call 52; (with_reducible refine HSH.out.mono ?_); rintro e w3 ⟨rfl, hb3⟩; have E3 := Lib.hid (ext_trans E2.out hb3))
  go_ret2
  exact ⟨rfl, E3.out⟩
end Go.Proofs.YtjgafjbccfjojaaGreat
