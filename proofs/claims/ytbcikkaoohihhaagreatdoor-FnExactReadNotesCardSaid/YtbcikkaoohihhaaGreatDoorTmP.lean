/- Sources of terms: the plain law. No condition but those that each theorem names. -/
import Derived.Test.YtbcikkaoohihhaaGreatDoorMrA
namespace Go.Proofs.YtbcikkaoohihhaaGreatDoor
open Go.RowKit Go.Sort

/-- A source: its head, its period, how much each term of the period grows. -/
structure So where
  hd : List Int
  pd : List Int
  gr : List Int
/-- p holds of all numbers below n. -/
def allTo (p : Nat → Bool) : Nat → Bool
  | 0 => true
  | k + 1 => allTo p k && p k
theorem allTo_false {p : Nat → Bool} {k : Nat} (h : p k = false) : ∀ n, k < n → allTo p n = false
  | n + 1, hn => by
    unfold allTo
    rcases Nat.lt_or_ge k n with g | g
    · rw [allTo_false h n g, Bool.false_and]
    · obtain rfl : k = n := by omega
      rw [h, Bool.and_false]
theorem allTo_succ {p : Nat → Bool} {k : Nat} (h : allTo p k = true) (hk : p k = true) : allTo p (k + 1) = true := by rw [allTo, h, hk]; rfl
theorem allTo_at {p : Nat → Bool} {n : Nat} (h : allTo p n = true) {k : Nat} (hk : k < n) : p k = true := by
  cases e : p k
  · rw [allTo_false e n hk] at h; cases h
  · rfl
def hdB (s : So) (k : Nat) : Bool := inR (s.hd.getD k 0) (if k = 0 then -1000000000 else 1) 1000000000
def pgB (s : So) (k : Nat) : Bool := inR (s.pd.getD k 0) 1 1000000 && inR (s.gr.getD k 0) 0 1000000
def soLen (s : So) : Bool := decide (s.hd.length ≤ 30) && (decide (s.pd.length ≤ 30) && (decide (s.gr.length = s.pd.length) && decide (s.hd.length + s.pd.length ≠ 0)))
def soB (s : So) : Bool := soLen s && (allTo (hdB s) s.hd.length && allTo (pgB s) s.pd.length)
theorem soLen_true {s : So} : soLen s = true ↔ s.hd.length ≤ 30 ∧ s.pd.length ≤ 30 ∧ s.gr.length = s.pd.length ∧ s.hd.length + s.pd.length ≠ 0 := by
  unfold soLen; simp only [Bool.and_eq_true, decide_eq_true_eq]
theorem soLen_cases (s : So) : soLen s = true ∨ soLen s = false := by cases soLen s <;> simp
/-- The term at place k. -/
def tmS (s : So) (k : Nat) : Option Int :=
  if k < s.hd.length then some (s.hd.getD k 0)
  else if s.pd.length = 0 then none
  else some (s.pd.getD ((k - s.hd.length) % s.pd.length) 0 + (((k - s.hd.length) / s.pd.length : Nat) : Int) * s.gr.getD ((k - s.hd.length) % s.pd.length) 0)
theorem tmS_zero {s : So} (h : soB s = true) : tmS s 0 ≠ none := by
  unfold soB at h
  rw [Bool.and_eq_true] at h
  obtain ⟨_, _, _, h4⟩ := soLen_true.1 h.1
  unfold tmS
  split
  · simp
  · rw [if_neg (by omega)]; simp
theorem so_at {s : So} (h : soB s = true) : (s.hd.length ≤ 30 ∧ s.pd.length ≤ 30 ∧ s.gr.length = s.pd.length ∧ s.hd.length + s.pd.length ≠ 0) ∧
    (∀ k, k < s.hd.length → (if k = 0 then -1000000000 else 1) ≤ s.hd.getD k 0 ∧ s.hd.getD k 0 ≤ 1000000000) ∧
    ∀ k, k < s.pd.length → (1 ≤ s.pd.getD k 0 ∧ s.pd.getD k 0 ≤ 1000000) ∧ 0 ≤ s.gr.getD k 0 ∧ s.gr.getD k 0 ≤ 1000000 := by
  unfold soB at h
  rw [Bool.and_eq_true, Bool.and_eq_true] at h
  refine ⟨soLen_true.1 h.1, fun k hk => inR_true.1 (allTo_at h.2.1 hk), fun k hk => ?_⟩
  have := allTo_at h.2.2 hk
  unfold pgB at this
  rw [Bool.and_eq_true] at this
  exact ⟨inR_true.1 this.1, inR_true.1 this.2⟩
/-- Terms are not too great. -/
theorem tmS_bd {s : So} (h : soB s = true) {k : Nat} (hk : k ≤ 1000000) {t : Int} (ht : tmS s k = some t) : -1000000000 ≤ t ∧ t ≤ 1000001000000 ∧ (0 < k → 1 ≤ t) := by
  obtain ⟨⟨h1, h2, h3, h4⟩, h5, h6⟩ := so_at h
  unfold tmS at ht
  split at ht
  · rename_i hlt
    injection ht with ht
    have := h5 k hlt
    split at this <;> omega
  · split at ht
    · cases ht
    · rename_i hp
      injection ht with ht
      have hm : (k - s.hd.length) % s.pd.length < s.pd.length := Nat.mod_lt _ (by omega)
      obtain ⟨⟨a1, a2⟩, a3, a4⟩ := h6 _ hm
      have hq : (k - s.hd.length) / s.pd.length ≤ k := Nat.le_trans (Nat.div_le_self _ _) (by omega)
      generalize (k - s.hd.length) / s.pd.length = q at *
      generalize s.gr.getD ((k - s.hd.length) % s.pd.length) 0 = g at *
      generalize s.pd.getD ((k - s.hd.length) % s.pd.length) 0 = p at *
      have b1 : 0 ≤ (q : Int) * g := Int.mul_nonneg (by omega) a3
      have b2 : (q : Int) * g ≤ 1000000 * 1000000 := Int.mul_le_mul (by omega) a4 a3 (by omega)
      omega
theorem getD_of {xs : List Int} {k : Nat} (h : k < xs.length) : xs[k]? = some (xs.getD k 0) := by
  rw [List.getD_eq_getElem?_getD, List.getElem?_eq_getElem h]; rfl
end Go.Proofs.YtbcikkaoohihhaaGreatDoor
