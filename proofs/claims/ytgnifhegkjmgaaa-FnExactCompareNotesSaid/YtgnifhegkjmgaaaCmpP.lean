/- Terms in short form, and two sources compared by their terms: the plain law. No condition but those that each theorem names. -/
import Derived.Test.YtgnifhegkjmgaaaExpW
import Derived.Test.YtgnifhegkjmgaaaTmP
namespace Go.Proofs.Ytgnifhegkjmgaaa
open Go.RowKit Go.Sort

/-- Terms in short form. -/
def shT (xs : List Int) : List Int := if 1 < xs.length ∧ xs.getD (xs.length - 1) 0 = 1 then (xs.take (xs.length - 1)).set (xs.length - 2) (xs.getD (xs.length - 2) 0 + 1) else xs
theorem shT_yes {xs : List Int} (h1 : 1 < xs.length) (h2 : xs.getD (xs.length - 1) 0 = 1) : shT xs = (xs.take (xs.length - 1)).set (xs.length - 2) (xs.getD (xs.length - 2) 0 + 1) := if_pos ⟨h1, h2⟩
theorem shT_no {xs : List Int} (h : ¬ (1 < xs.length ∧ xs.getD (xs.length - 1) 0 = 1)) : shT xs = xs := if_neg h
theorem shT_le (xs : List Int) : (shT xs).length ≤ xs.length := by
  unfold shT
  split
  · simp only [List.length_set, List.length_take]; omega
  · exact Nat.le_refl _
theorem shT_idem {xs : List Int} (h : ∀ k, 0 < k → k < xs.length → 1 ≤ xs.getD k 0) : shT (shT xs) = shT xs := by
  by_cases c : 1 < xs.length ∧ xs.getD (xs.length - 1) 0 = 1
  · obtain ⟨c1, c2⟩ := c
    rw [shT_yes c1 c2]
    apply shT_no
    rintro ⟨d1, d2⟩
    simp only [List.length_set, List.length_take] at d1 d2
    have hm : min (xs.length - 1) xs.length = xs.length - 1 := by omega
    rw [hm] at d1 d2
    rw [show xs.length - 1 - 1 = xs.length - 2 by omega, List.getD_eq_getElem?_getD, List.getElem?_set] at d2
    simp only [List.length_take, hm] at d2
    rw [if_pos trivial, if_pos (by omega)] at d2
    have := h (xs.length - 2) (by omega) (by omega)
    simp at d2
    simp at this
    omega
  · rw [shT_no c, shT_no c]
theorem expT_last : ∀ (k : Nat) (n d : Int), 1 ≤ d → d ≤ k → d < n → ∃ t, (expT k n d).getLast? = some t ∧ 2 ≤ t
  | 0, _, _, h, hk, _ => by omega
  | k + 1, n, d, h, hk, hn => by
    obtain ⟨j, hj, h1, h2, h3, h4⟩ := expT_step (n := n) h hk
    rw [h4]
    rcases Int.lt_or_le 0 (n % d) with h5 | h5
    · obtain rfl : j = k := by omega
      obtain ⟨t, ht, h2t⟩ := expT_last j d (n % d) (by omega) (by omega) h3
      refine ⟨t, ?_, h2t⟩
      rw [List.getLast?_cons, ht]; rfl
    · have h6 : n % d = 0 := by omega
      rw [h6, expT_zero]
      refine ⟨n / d, rfl, ?_⟩
      have h7 := Int.mul_ediv_add_emod n d
      rw [h6] at h7
      rcases Int.lt_or_le (n / d) 2 with h8 | h8
      · have : d * (n / d) ≤ d * 1 := Int.mul_le_mul_of_nonneg_left (by omega) (by omega)
        omega
      · exact h8
theorem sh_terms (n d : Int) (h : 1 ≤ d) : shT (termsOf n d) = termsOf n d := by
  apply shT_no
  rintro ⟨h1, h2⟩
  unfold termsOf at *
  obtain ⟨j, hj, h3, h4, h5, h6⟩ := expT_step (n := n) (k := d.toNat) h (by omega)
  rw [h6] at h1 h2
  rcases Int.lt_or_le 0 (n % d) with h7 | h7
  · obtain ⟨t, ht, h2t⟩ := expT_last j d (n % d) (by omega) h3 h5
    rw [List.getLast?_eq_getElem?] at ht
    have hp : 0 < (expT j d (n % d)).length := by
      rcases Nat.eq_zero_or_pos (expT j d (n % d)).length with e | e
      · rw [List.getElem?_eq_none (by omega)] at ht; cases ht
      · exact e
    rw [List.length_cons, Nat.add_sub_cancel, List.getD_eq_getElem?_getD, show (expT j d (n % d)).length = (expT j d (n % d)).length - 1 + 1 by omega, List.getElem?_cons_succ, ht] at h2
    simp at h2
    omega
  · rw [show n % d = 0 by omega, expT_zero] at h1
    simp at h1

/-- Which side is greater where a place tells them apart. -/
def sgK (k : Nat) : Int := if k % 2 = 0 then 1 else -1
theorem sgK_succ (k : Nat) : sgK (k + 1) = -sgK k := by unfold sgK; split <;> split <;> omega
theorem sgK_bd (k : Nat) : -1 ≤ sgK k ∧ sgK k ≤ 1 := by unfold sgK; split <;> omega
/-- Two rows of terms, place for place; so many places at most. -/
def cmpF (f g : Nat → Option Int) : Nat → Nat → Int × Int
  | 0, _ => (0, 10)
  | n + 1, k => match f k, g k with
    | none, none => (0, 0)
    | none, some _ => (sgK k, 0)
    | some _, none => (-sgK k, 0)
    | some a, some b => if a < b then (-sgK k, 0) else if b < a then (sgK k, 0) else cmpF f g n (k + 1)
section
variable {f g : Nat → Option Int}
theorem cmp_nn {k : Nat} (hk : k < 1000) (h1 : f k = none) (h2 : g k = none) : cmpF f g (1000 - k) k = (0, 0) := by
  rw [show 1000 - k = (999 - k) + 1 by omega]; unfold cmpF; rw [h1, h2]
theorem cmp_ns {k : Nat} {b : Int} (hk : k < 1000) (h1 : f k = none) (h2 : g k = some b) : cmpF f g (1000 - k) k = (sgK k, 0) := by
  rw [show 1000 - k = (999 - k) + 1 by omega]; unfold cmpF; rw [h1, h2]
theorem cmp_sn {k : Nat} {a : Int} (hk : k < 1000) (h1 : f k = some a) (h2 : g k = none) : cmpF f g (1000 - k) k = (-sgK k, 0) := by
  rw [show 1000 - k = (999 - k) + 1 by omega]; unfold cmpF; rw [h1, h2]
theorem cmp_lt {k : Nat} {a b : Int} (hk : k < 1000) (h1 : f k = some a) (h2 : g k = some b) (h : a < b) : cmpF f g (1000 - k) k = (-sgK k, 0) := by
  rw [show 1000 - k = (999 - k) + 1 by omega]; unfold cmpF; rw [h1, h2]; simp only; rw [if_pos h]
theorem cmp_gt {k : Nat} {a b : Int} (hk : k < 1000) (h1 : f k = some a) (h2 : g k = some b) (h : b < a) : cmpF f g (1000 - k) k = (sgK k, 0) := by
  rw [show 1000 - k = (999 - k) + 1 by omega]; unfold cmpF; rw [h1, h2]; simp only; rw [if_neg (by omega), if_pos h]
theorem cmp_eq {k : Nat} {a b : Int} (hk : k < 1000) (h1 : f k = some a) (h2 : g k = some b) (h : a = b) : cmpF f g (1000 - k) k = cmpF f g (1000 - (k + 1)) (k + 1) := by
  rw [show 1000 - k = (1000 - (k + 1)) + 1 by omega, cmpF, h1, h2]; simp only; rw [if_neg (by omega), if_neg (by omega)]
theorem cmp_end : cmpF f g (1000 - 1000) 1000 = (0, 10) := rfl
end
end Go.Proofs.Ytgnifhegkjmgaaa
