/- Rules for a year go less wrong one after the other, and divisors have the share that is told: the plain law. No condition but those that each theorem names. -/
import Derived.Test.YtdjnblkgeaphmaaRulesW
import Derived.Test.YtdjnblkgeaphmaaShareW
namespace Go.Proofs.Ytdjnblkgeaphmaa
open Go.RowKit Go.Sort

/-- How far a convergent is from n / d, times both denominators. -/
def dvA (n d : Int) (x : Int × Int) : Nat := (x.1 * d - n * x.2).natAbs
theorem rs_chain {n d : Int} : ∀ (k : Nat) (a b p q p0 q0 s : Int) (r : List (Int × Int)), 0 ≤ b → b < a → b ≤ k → (s = 1 ∨ s = -1) → p * d - n * q = s * b → p0 * d - n * q0 = -(s * a) →
    0 ≤ p → p ≤ q → 0 ≤ p0 → 0 ≤ q0 → p + p0 ≤ q + q0 → cvG (expT k a b) p q p0 q0 = some r →
    (∀ x ∈ r, q ≤ x.2 ∧ 0 ≤ x.1 ∧ x.1 ≤ x.2 ∧ (dvA n d x : Int) ≤ b) ∧ r.Pairwise (fun x y => x.2 ≤ y.2 ∧ dvA n d y ≤ dvA n d x) := by
  intro k
  induction k with
  | zero =>
    intro a b p q p0 q0 s r b0 ba bk hs hD hD0 hp hpq hp0 hq0 hpp hr
    have : r = [] := by simpa [expT, cvG] using hr.symm
    subst this
    exact ⟨fun _ h => by simp at h, List.Pairwise.nil⟩
  | succ k ih =>
    intro a b p q p0 q0 s r b0 ba bk hs hD hD0 hp hpq hp0 hq0 hpp hr
    rcases Int.lt_or_le 0 b with hb | hb
    · obtain ⟨j, hj, h1, h2, h3, h4⟩ := expT_step (n := a) (k := k + 1) (d := b) (by omega) bk
      obtain rfl : j = k := by omega
      rw [h4, cvG] at hr
      split at hr
      · rw [Option.map_eq_some_iff] at hr
        obtain ⟨r', hr', rfl⟩ := hr
        have ht : 1 ≤ a / b := (Int.le_ediv_iff_mul_le hb).2 (by omega)
        have hab := Int.mul_ediv_add_emod a b
        obtain ⟨t, hte⟩ : ∃ t, a / b = t := ⟨_, rfl⟩
        rw [hte] at ht hab hr'
        obtain ⟨u, rfl⟩ : ∃ u, t = u + 1 := ⟨t - 1, by omega⟩
        have u1 : 0 ≤ u * p := Int.mul_nonneg (by omega) hp
        have u2 : u * p ≤ u * q := Int.mul_le_mul_of_nonneg_left hpq (by omega)
        have e1 : (u + 1) * p = u * p + p := by rw [Int.add_mul, Int.one_mul]
        have e2 : (u + 1) * q = u * q + q := by rw [Int.add_mul, Int.one_mul]
        have hD' : ((u + 1) * p + p0) * d - n * ((u + 1) * q + q0) = -s * (a % b) := by
          have : ((u + 1) * p + p0) * d - n * ((u + 1) * q + q0) = (u + 1) * (p * d - n * q) + (p0 * d - n * q0) := by
            simp only [Int.add_mul, Int.mul_add, Int.mul_sub, Int.one_mul]
            simp only [Int.mul_left_comm n u q, Int.mul_assoc]
            omega
          rw [this, hD, hD0, show a % b = a - b * (u + 1) by omega]
          rw [Int.mul_left_comm, Int.mul_sub, Int.neg_mul, Int.neg_mul, Int.mul_comm b (u + 1)]
          omega
        have hs' : -s = 1 ∨ -s = -1 := by omega
        obtain ⟨g1, g2⟩ := ih b (a % b) ((u + 1) * p + p0) ((u + 1) * q + q0) p q (-s) r' h2 h3 (by omega) hs' hD' (by rw [hD, Int.neg_mul, Int.neg_neg]) (by omega) (by omega) hp (by omega) (by omega) hr'
        have hd : (dvA n d ((u + 1) * p + p0, (u + 1) * q + q0) : Int) = a % b := by
          unfold dvA
          simp only
          rw [hD']
          rcases hs with rfl | rfl
          · simp; omega
          · simp; omega
        refine ⟨fun x hx => ?_, List.pairwise_cons.2 ⟨fun y hy => ?_, g2⟩⟩
        · rw [hte] at hx
          rcases List.mem_cons.1 hx with rfl | hx
          · exact ⟨by simp only; omega, by simp only; omega, by simp only; omega, by rw [hd]; omega⟩
          · obtain ⟨i1, i2, i3, i4⟩ := g1 x hx
            exact ⟨by omega, i2, i3, by omega⟩
        · rw [hte]
          obtain ⟨i1, i2, i3, i4⟩ := g1 y hy
          exact ⟨by simp only; omega, by omega⟩
      · cases hr
    · have : b = 0 := by omega
      subst this
      rw [expT_zero] at hr
      have : r = [] := by simpa [cvG] using hr.symm
      subst this
      exact ⟨fun _ h => by simp at h, List.Pairwise.nil⟩
theorem rs_all {n d : Int} (d1 : 1 ≤ d) (n0 : 0 ≤ n) (nd : n < d) {r : List (Int × Int)} (hr : convs (termsOf n d) = some r) :
    (∀ x ∈ r, 1 ≤ x.2 ∧ 0 ≤ x.1 ∧ x.1 ≤ x.2) ∧ r.Pairwise (fun x y => x.2 ≤ y.2 ∧ dvA n d y ≤ dvA n d x) := by
  unfold convs termsOf at hr
  obtain ⟨j, hj, h1, h2, h3, h4⟩ := expT_step (n := n) (k := d.toNat) (d := d) d1 (by omega)
  rw [h4, Int.ediv_eq_zero_of_lt n0 nd, Int.emod_eq_of_lt n0 nd, cvG] at hr
  split at hr
  · rw [Option.map_eq_some_iff] at hr
    obtain ⟨r', hr', rfl⟩ := hr
    simp only [Int.zero_mul, Int.zero_add] at hr' ⊢
    rw [Int.emod_eq_of_lt n0 nd] at h1
    obtain ⟨g1, g2⟩ := rs_chain (n := n) (d := d) j d n 0 1 1 0 (-1) r' n0 nd h1 (.inr rfl) (by omega) (by omega) (by omega) (by omega) (by omega) (by omega) (by omega) hr'
    have hd : (dvA n d (0, 1) : Int) = n := by unfold dvA; simp; omega
    refine ⟨fun x hx => ?_, List.pairwise_cons.2 ⟨fun y hy => ?_, g2⟩⟩
    · rcases List.mem_cons.1 hx with rfl | hx
      · exact ⟨by simp, by simp, by simp⟩
      · obtain ⟨i1, i2, i3, i4⟩ := g1 x hx
        exact ⟨i1, i2, i3⟩
    · obtain ⟨i1, i2, i3, i4⟩ := g1 y hy
      exact ⟨i1, by omega⟩
  · cases hr
/-- A longer cycle that drifts no more lasts as long. -/
theorem yrs_mono {q q' d : Int} {a a' : Nat} (hd : 0 ≤ d) (hq : q ≤ q') (h0 : 0 ≤ q) (ha : a' ≤ a) (hp : 0 < a') : (q * d + a - 1) / a ≤ (q' * d + a' - 1) / a' := by
  have h1 : q * d ≤ q' * d := Int.mul_le_mul_of_nonneg_right hq hd
  have h2 : 0 ≤ q * d := Int.mul_nonneg h0 hd
  obtain ⟨K, hK⟩ : ∃ K, (q' * d + a' - 1) / a' = K := ⟨_, rfl⟩
  rw [hK]
  have h3 : q' * d ≤ K * a' := by
    have := Int.mul_ediv_add_emod (q' * d + a' - 1) a'
    have hm := Int.emod_lt_of_pos (q' * d + a' - 1) (b := (a' : Int)) (by omega)
    rw [hK, Int.mul_comm] at this
    omega
  have hK0 : 0 ≤ K := by rw [← hK]; exact Int.ediv_nonneg (by omega) (by omega)
  have h4 : K * (a' : Int) ≤ K * a := Int.mul_le_mul_of_nonneg_left (by omega) hK0
  have h5 : (q * d + a - 1) / a < K + 1 := (Int.ediv_lt_iff_lt_mul (by omega)).2 (by rw [Int.add_mul, Int.one_mul]; omega)
  omega
/-- How many of the first n numbers are multiples of d. -/
def mulN (d : Nat) : Nat → Nat
  | 0 => 0
  | n + 1 => mulN d n + if n % d = 0 then 1 else 0
theorem mulN_add (d : Nat) (hd : 1 ≤ d) (k : Nat) : ∀ r, r ≤ d → mulN d (d * k + r) = mulN d (d * k) + if r = 0 then 0 else 1
  | 0, _ => by simp
  | r + 1, h => by
    show mulN d (d * k + r) + (if (d * k + r) % d = 0 then 1 else 0) = _
    rw [mulN_add d hd k r (by omega), Nat.mul_add_mod, Nat.mod_eq_of_lt (by omega)]
    by_cases h0 : r = 0 <;> simp [h0]
theorem mulN_mul (d : Nat) (hd : 1 ≤ d) : ∀ k, mulN d (d * k) = k
  | 0 => rfl
  | k + 1 => by
    rw [Nat.mul_add, Nat.mul_one, mulN_add d hd k d (Nat.le_refl _), mulN_mul d hd k, if_neg (by omega)]
/-- Alternating sum of what divides. -/
def altD (y : Int) : List Int → Int
  | [] => 0
  | d :: ds => (if y % d = 0 then 1 else 0) - altD y ds
def cntD (y : Int) : List Int → Nat
  | [] => 0
  | d :: ds => (if y % d = 0 then 1 else 0) + cntD y ds
/-- Each number divides the next one. -/
def chain : List Int → Prop
  | [] => True
  | [_] => True
  | a :: b :: l => b % a = 0 ∧ chain (b :: l)
theorem chain_none {y : Int} : ∀ (a : Int) (l : List Int), chain (a :: l) → ¬ y % a = 0 → cntD y (a :: l) = 0 ∧ altD y (a :: l) = 0
  | a, [], _, h => by simp [cntD, altD, h]
  | a, b :: l, hc, h => by
    have hb : ¬ y % b = 0 := fun e => h (by
      have h1 : b ∣ y := Int.dvd_of_emod_eq_zero e
      have h2 : a ∣ b := Int.dvd_of_emod_eq_zero hc.1
      exact Int.emod_eq_zero_of_dvd (Int.dvd_trans h2 h1))
    obtain ⟨g1, g2⟩ := chain_none b l hc.2 hb
    rw [cntD, altD, g1, g2, if_neg h, if_neg h]
    simp
theorem chain_odd {y : Int} : ∀ (l : List Int), chain l → altD y l = ((cntD y l % 2 : Nat) : Int)
  | [], _ => rfl
  | [a], _ => by simp only [altD, cntD]; split <;> simp
  | a :: b :: l, hc => by
    by_cases h : y % a = 0
    · have ih := chain_odd (y := y) (b :: l) hc.2
      rw [altD, cntD, if_pos h, if_pos h, ih]
      omega
    · obtain ⟨g1, g2⟩ := chain_none (y := y) a (b :: l) hc h
      rw [g1, g2]; rfl
/-- The sum over the first n years. -/
def sumA (l : List Int) : Nat → Int
  | 0 => 0
  | n + 1 => sumA l n + altD (n : Int) l
def altM (n : Nat) : List Int → Int
  | [] => 0
  | d :: ds => (mulN d.toNat n : Int) - altM n ds
theorem sumA_alt (l : List Int) (hl : ∀ d ∈ l, 1 ≤ d) : ∀ n, sumA l n = altM n l := by
  induction l with
  | nil => intro n; induction n with
    | zero => rfl
    | succ n ih => rw [sumA, ih]; rfl
  | cons d ds ih =>
    intro n
    have hd := hl d (List.mem_cons_self)
    have ih2 := ih (fun x hx => hl x (List.mem_cons_of_mem _ hx))
    have : ∀ n, sumA (d :: ds) n = (mulN d.toNat n : Int) - sumA ds n := by
      intro n
      induction n with
      | zero => rfl
      | succ n ihn =>
        rw [sumA, ihn, altD, mulN, sumA]
        have e : ((n : Int) % d = 0) ↔ n % d.toNat = 0 := by
          obtain ⟨m, rfl⟩ := Int.eq_ofNat_of_zero_le (show 0 ≤ d by omega)
          simp only [Int.toNat_natCast]
          omega
        by_cases h : n % d.toNat = 0
        · rw [if_pos (e.2 h), if_pos h]; omega
        · rw [if_neg (fun h' => h (e.1 h')), if_neg h]; omega
    rw [this, ih2, altM]
/-- The alternating sum of the shares. -/
def altQ (L : Int) : List Int → Int
  | [] => 0
  | d :: ds => L / d - altQ L ds
theorem altM_Q {L : Nat} : ∀ (l : List Int), (∀ d ∈ l, 1 ≤ d ∧ (L : Int) % d = 0) → altM L l = altQ L l
  | [], _ => rfl
  | d :: ds, h => by
    obtain ⟨h1, h2⟩ := h d List.mem_cons_self
    rw [altM, altQ, altM_Q ds (fun x hx => h x (List.mem_cons_of_mem _ hx))]
    obtain ⟨m, rfl⟩ := Int.eq_ofNat_of_zero_le (show 0 ≤ d by omega)
    simp only [Int.toNat_natCast]
    have h3 : L % m = 0 := by omega
    have h4 : L = m * (L / m) := by have := Nat.div_add_mod L m; omega
    have h5 : mulN m L = L / m := by
      conv => lhs; rw [h4]
      exact mulN_mul m (by omega) _
    rw [h5]
    simp
theorem chain_dvd : ∀ (l : List Int) (a : Int), chain (a :: l) → ∀ d ∈ a :: l, ((a :: l).getLast (by simp)) % d = 0
  | [], a, _, d, hd => by
    have : d = a := by simpa using hd
    subst this
    simp
  | b :: l, a, hc, d, hd => by
    rw [List.getLast_cons (by simp)]
    have ih := chain_dvd l b hc.2
    rcases List.mem_cons.1 hd with rfl | hd
    · have h1 := ih b List.mem_cons_self
      exact Int.emod_eq_zero_of_dvd (Int.dvd_trans (Int.dvd_of_emod_eq_zero hc.1) (Int.dvd_of_emod_eq_zero h1))
    · exact ih d hd
theorem altQ_snoc (L x : Int) : ∀ l : List Int, altQ L (l ++ [x]) = altQ L l + (if l.length % 2 = 0 then L / x else -(L / x))
  | [] => by simp [altQ]
  | d :: ds => by
    rw [List.cons_append, altQ, altQ_snoc L x ds, altQ]
    simp only [List.length_cons]
    split <;> split <;> omega
theorem shr_alt (L : Int) (xs : List Int) : ∀ k, k ≤ xs.length → shr L xs k = altQ L (xs.take k)
  | 0, _ => by simp [shr, altQ]
  | k + 1, hk => by
    have hx : xs[k]? = some (xs.getD k 0) := by rw [List.getD_eq_getElem?_getD, List.getElem?_eq_getElem (by omega)]; rfl
    rw [shr, shr_alt L xs k (by omega), List.take_add_one, hx, Option.toList_some, altQ_snoc, List.length_take, Nat.min_eq_left (by omega)]
theorem divCnt_D (y : Int) : ∀ xs : List Int, divCnt y xs = cntD y xs
  | [] => rfl
  | d :: ds => by
    have ih := divCnt_D y ds
    unfold divCnt at ih ⊢
    rw [List.filter_cons, cntD, ← ih]
    by_cases h : y % d = 0
    · rw [if_pos (by simpa using h), if_pos h, List.length_cons]; omega
    · rw [if_neg (by simpa using h), if_neg h]; omega
theorem chain_of : ∀ xs : List Int, (∀ i, i + 1 < xs.length → xs.getD (i + 1) 0 % xs.getD i 0 = 0) → chain xs
  | [], _ => trivial
  | [_], _ => trivial
  | a :: b :: l, h => ⟨by simpa using h 0 (by simp), chain_of (b :: l) fun i hi => by simpa using h (i + 1) (by simpa using hi)⟩
theorem pairs_chain {xs : List Int} (h : pairsOk xs = true) : chain xs := by
  apply chain_of
  intro i hi
  have h1 := List.all_eq_true.1 h (i + 1) (List.mem_range.2 hi)
  have h2 : goodPair (xs.getD i 0) (xs.getD (i + 1) 0) = true := by simpa using h1
  unfold goodPair at h2
  rw [Bool.and_eq_true, decide_eq_true_iff, decide_eq_true_iff] at h2
  exact h2.2
/-- One more leap year, if the divisors say so. -/
theorem sumA_step {xs : List Int} (h : pairsOk xs = true) (n : Nat) : sumA xs (n + 1) = sumA xs n + if divOdd (n : Int) xs = true then 1 else 0 := by
  rw [sumA, chain_odd xs (pairs_chain h), ← divCnt_D]
  unfold divOdd
  have : divCnt (n : Int) xs % 2 = 0 ∨ divCnt (n : Int) xs % 2 = 1 := by omega
  rcases this with e | e <;> simp [e]
theorem share_sum {xs : List Int} (h : divCode true xs = 0) : pairsOk xs = true ∧ 1 ≤ lastOf xs ∧ lastOf xs ≤ 100000 ∧ sumA xs (lastOf xs).toNat = shr (lastOf xs) xs xs.length := by
  obtain ⟨_, h1, h2, h3⟩ := divCode_zero h
  have hp : pairsOk xs = true := by
    unfold divCode at h
    split at h
    · split at h
      · assumption
      · cases h
    · cases h
  have hl : xs[xs.length - 1]? = some (lastOf xs) := by
    unfold lastOf
    rw [List.getD_eq_getElem?_getD, List.getElem?_eq_getElem (by omega)]; rfl
  obtain ⟨b1, b2⟩ := allIn_mem h3 hl
  refine ⟨hp, b1, b2, ?_⟩
  have hall : ∀ d ∈ xs, 1 ≤ d := fun d hd => by
    obtain ⟨i, hi, rfl⟩ := List.getElem_of_mem hd
    exact (allIn_mem h3 (List.getElem?_eq_getElem hi)).1
  obtain ⟨a, l, rfl⟩ : ∃ a l, xs = a :: l := by
    cases xs with
    | nil => simp at h1
    | cons a l => exact ⟨a, l, rfl⟩
  have hdv := chain_dvd l a (pairs_chain hp)
  have hlast : (a :: l).getLast (by simp) = lastOf (a :: l) := by
    rw [List.getLast_eq_getElem]
    unfold lastOf
    rw [List.getD_eq_getElem?_getD, List.getElem?_eq_getElem (by simp)]; rfl
  rw [hlast] at hdv
  rw [shr_alt _ _ _ (Nat.le_refl _), List.take_length, sumA_alt _ hall]
  obtain ⟨L, hL⟩ := Int.eq_ofNat_of_zero_le (show 0 ≤ lastOf (a :: l) by omega)
  rw [hL] at hdv ⊢
  exact altM_Q (a :: l) (fun d hd => ⟨hall d hd, hdv d hd⟩)
/-- What the rules of a length are like: valid ones, whose cycles are no longer than most, and which last no shorter one after the other. -/
def upR (n d : Int) (x y : Int × Int) : Prop := x.2 ≤ y.2 ∧ dvA (n - 365 * d) d y ≤ dvA (n - 365 * d) d x
theorem rules_ok {n d most : Int} (h : ruC n d most = 0) : (∀ x ∈ ruX n d most, ruleOk x.1 x.2 0 = true ∧ x.2 ≤ most) ∧ (ruX n d most).Pairwise (upR n d) := by
  have e : ruX n d most = rulesOf (rsPs n d) most := by unfold ruX; rw [if_pos h]
  have hok : lenOk n d = true ∧ inR most 1 1000 = true := by
    unfold ruC at h
    split at h
    · rename_i h1
      split at h
      · rename_i h2; exact ⟨h1, h2⟩
      · cases h
    · cases h
  obtain ⟨hf, d2, n1, n2⟩ := lenOk_true.1 hok.1
  obtain ⟨d1, _⟩ := fracOk_true.1 hf
  obtain ⟨m1, m2⟩ := inR_true.1 hok.2
  rw [e]
  unfold rulesOf rsPs
  cases hc : convs (termsOf (n - 365 * d) d) with
  | none => exact ⟨fun _ h => by simp at h, by simp⟩
  | some r =>
    obtain ⟨g1, g2⟩ := rs_all d1 (show 0 ≤ n - 365 * d by omega) (by omega) hc
    simp only [Option.getD_some]
    refine ⟨fun x hx => ?_, List.Pairwise.filter _ g2⟩
    rw [List.mem_filter, decide_eq_true_iff] at hx
    obtain ⟨i1, i2, i3⟩ := g1 x hx.1
    exact ⟨ruleOk_true.2 ⟨i1, by omega, i2, i3, by omega, by omega⟩, hx.2⟩
theorem drift_dv (n d : Int) (x : Int × Int) : (driftV x.1 x.2 n d).natAbs = dvA (n - 365 * d) d x := rfl
/-- The years of a later rule are no fewer, if it drifts at all. -/
theorem years_up {n d : Int} {x y : Int × Int} (hx : ruleOk x.1 x.2 0 = true) (hu : upR n d x y) (hy : ytC y.1 y.2 0 n d = 0) : ytA x.1 x.2 0 n d ≤ ytA y.1 y.2 0 n d := by
  obtain ⟨c1, c2, l1, l2, _, _⟩ := ruleOk_true.1 hx
  have hy2 := hy
  unfold ytC at hy2
  split at hy2
  · rename_i hb
    split at hy2
    · cases hy2
    · rename_i hd
      unfold ytB at hb
      rw [Bool.and_eq_true] at hb
      obtain ⟨_, d2, n1, n2⟩ := lenOk_true.1 hb.2
      obtain ⟨d1, _⟩ := fracOk_true.1 (lenOk_true.1 hb.2).1
      have hpos : 0 < (driftV y.1 y.2 n d).natAbs := by omega
      have e1 : ytA y.1 y.2 0 n d = (y.2 * d + (driftV y.1 y.2 n d).natAbs - 1) / (driftV y.1 y.2 n d).natAbs := by unfold ytA; rw [if_pos hy]
      have q0 : 0 ≤ y.2 * d := Int.mul_nonneg (by have := hu.1; omega) (by omega)
      unfold ytA
      split
      · exact yrs_mono (by omega) hu.1 (by omega) (by rw [drift_dv, drift_dv]; exact hu.2) hpos
      · exact Int.ediv_nonneg (by omega) (by omega)
  · cases hy2
end Go.Proofs.Ytdjnblkgeaphmaa
