/- The place of a name in a valid list: both searches find the same. Plain law. -/
import Derived.Test.YtdjnblkgeaphmaaPlaceW
namespace Go.Proofs.Ytdjnblkgeaphmaa
open Go.RowKit Go.Sort

theorem bl_irr : ∀ a : List UInt8, Op.bytesLess a a = false
  | [] => rfl
  | a :: l => by unfold Op.bytesLess; simp [bl_irr l]
theorem bl_trans : ∀ a b c : List UInt8, Op.bytesLess a b = true → Op.bytesLess b c = true → Op.bytesLess a c = true
  | _, [], _, h, _ => by simp [Op.bytesLess] at h
  | _, _ :: _, [], _, h => by simp [Op.bytesLess] at h
  | [], _ :: _, _ :: _, _, _ => by simp [Op.bytesLess]
  | a :: l, b :: m, c :: n, h1, h2 => by
    have ih := bl_trans l m n
    simp only [Op.bytesLess, Bool.or_eq_true, decide_eq_true_eq, Bool.and_eq_true, beq_iff_eq] at h1 h2 ⊢
    rcases h1 with h1 | ⟨rfl, h1⟩
    · rcases h2 with h2 | ⟨rfl, h2⟩
      · exact .inl (UInt8.lt_trans h1 h2)
      · exact .inl h1
    · rcases h2 with h2 | ⟨rfl, h2⟩
      · exact .inl h2
      · exact .inr ⟨rfl, ih h1 h2⟩
theorem ltB_irr (a : ByteArray) : ltB a a = false := bl_irr _
theorem ltB_trans {a b c : ByteArray} (h1 : ltB a b = true) (h2 : ltB b c = true) : ltB a c = true := bl_trans _ _ _ h1 h2
theorem validNt_len {xs : List Nt} (h : validNt xs = true) : xs.length ≤ 40 := by
  unfold validNt at h; rw [Bool.and_eq_true] at h; exact of_decide_eq_true h.2
theorem validNt_at {xs : List Nt} (h : validNt xs = true) {k : Nat} (hk : k < xs.length) : okAtX xs k = true := by
  unfold validNt at h; rw [Bool.and_eq_true] at h
  cases ha : okAtX xs k
  · rw [okToX_false ha _ hk] at h; exact absurd h.1 (by simp)
  · rfl
theorem validNt_ok {xs : List Nt} (h : validNt xs = true) {k : Nat} {x : Nt} (hx : xs[k]? = some x) : ntOk x = true := by
  have hk := (List.getElem?_eq_some_iff.1 hx).1
  have := validNt_at h hk
  unfold okAtX at this
  rw [hx] at this
  simp only [Bool.and_eq_true] at this
  exact this.1
theorem validNt_step {xs : List Nt} (h : validNt xs = true) {k : Nat} {x y : Nt} (hx : xs[k]? = some x) (hy : xs[k + 1]? = some y) : ltB x.name y.name = true := by
  have hk := (List.getElem?_eq_some_iff.1 hy).1
  have := validNt_at h hk
  unfold okAtX at this
  rw [hy] at this
  simp only [Nat.add_sub_cancel, hx, Bool.and_eq_true] at this
  have h2 := this.2
  rw [if_neg (by omega)] at h2
  exact h2
theorem validNt_lt {xs : List Nt} (h : validNt xs = true) (p : Nat) (x : Nt) (hx : xs[p]? = some x) : ∀ (d : Nat) (y : Nt), xs[p + d + 1]? = some y → ltB x.name y.name = true
  | 0, y, hy => validNt_step h hx hy
  | d + 1, y, hy => by
    have hk := (List.getElem?_eq_some_iff.1 hy).1
    obtain ⟨z, hz⟩ : ∃ z, xs[p + d + 1]? = some z := ⟨_, List.getElem?_eq_getElem (by omega)⟩
    exact ltB_trans (validNt_lt h p x hx d z hz) (validNt_step h hz hy)
theorem validNt_mono {xs : List Nt} (h : validNt xs = true) (s : ByteArray) : Mono s xs := fun p q x y hpq hx hy hl => by
  rcases Nat.eq_or_lt_of_le hpq with rfl | hlt
  · rw [hx] at hy; cases hy; exact hl
  · exact ltB_trans (validNt_lt h p x hx (q - p - 1) y (by rw [show p + (q - p - 1) + 1 = q by omega]; exact hy)) hl
theorem fndN_skip {s : ByteArray} {xs : List Nt} (a : Nat) : ∀ (d : Nat), (∀ t x, a ≤ t → t < a + d → xs[t]? = some x → ¬ x.name = s) → a + d ≤ xs.length → fndN s (xs.drop a) a = fndN s (xs.drop (a + d)) (a + d)
  | 0, _, _ => rfl
  | d + 1, h, hl => by
    obtain ⟨x, hx⟩ : ∃ x, xs[a + d]? = some x := ⟨_, List.getElem?_eq_getElem (by omega)⟩
    rw [fndN_skip a d (fun t y h1 h2 => h t y h1 (by omega)) (by omega), fndN_next hx (h (a + d) x (by omega) (by omega) hx)]
    rfl
/-- Both searches find the same place. -/
theorem fndN_spl {s : ByteArray} {xs : List Nt} {k : Nat} (h : validNt xs = true) (S : Spl s xs k k) (hk : k ≤ xs.length) : fndN s xs 0 = if fdB s xs k = true then (k : Int) else -1 := by
  have h1 : fndN s xs 0 = fndN s (xs.drop k) k := by
    have := fndN_skip (s := s) (xs := xs) 0 k (fun t x _ h2 hx he => by
      have := S.lo t x (by omega) hx
      rw [he, ltB_irr] at this; exact absurd this (by simp)) (by omega)
    rw [List.drop_zero, Nat.zero_add] at this
    exact this
  rw [h1]
  by_cases hf : fdB s xs k = true
  · rw [if_pos hf]
    unfold fdB at hf
    cases hx : xs[k]? with
    | none => rw [hx] at hf; simp at hf
    | some x =>
      rw [hx] at hf
      exact fndN_yes hx (cmpS_eq.1 (of_decide_eq_true hf))
  · rw [if_neg hf]
    have h2 := fndN_skip (s := s) (xs := xs) k (xs.length - k) (fun t x g1 g2 hx he => by
      obtain ⟨z, hz⟩ : ∃ z, xs[k]? = some z := ⟨_, List.getElem?_eq_getElem (by omega)⟩
      rcases Nat.eq_or_lt_of_le g1 with rfl | hlt
      · apply hf
        unfold fdB
        rw [hx]
        exact decide_eq_true (cmpS_eq.2 he)
      · have h3 := validNt_lt h k z hz (t - k - 1) x (by rw [show k + (t - k - 1) + 1 = t by omega]; exact hx)
        rw [he, S.hi k z (Nat.le_refl _) hz] at h3
        exact absurd h3 (by simp)) (by omega)
    rw [h2]
    exact fndN_end (by omega)
end Go.Proofs.Ytdjnblkgeaphmaa
