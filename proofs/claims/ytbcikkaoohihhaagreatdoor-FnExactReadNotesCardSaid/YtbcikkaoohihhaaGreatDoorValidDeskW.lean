/- ValidDesk: both walks. No condition but those that each theorem names. -/
import Derived.Test.YtbcikkaoohihhaaGreatDoorMrB
import Derived.Test.YtbcikkaoohihhaaGreatDoorNameW
namespace Go.Proofs.YtbcikkaoohihhaaGreatDoor
open Go.RowKit Go.Sort

def ltB (a b : ByteArray) : Bool := Op.bytesLess a.toList b.toList
theorem bl_total : ∀ x y : List UInt8, (Op.bytesLess x y || x == y) = !Op.bytesLess y x
  | [], [] => rfl
  | _ :: _, [] => rfl
  | [], _ :: _ => rfl
  | a :: x, b :: y => by
    have ih := bl_total x y
    rw [Op.bytesLess, Op.bytesLess]
    have hc : (a :: x == b :: y) = (a == b && x == y) := rfl
    rw [hc]
    rcases Nat.lt_trichotomy a.toNat b.toNat with h | h | h
    · have h1 : a < b := UInt8.lt_iff_toNat_lt.2 h
      have h2 : ¬ b < a := fun g => by have := UInt8.lt_iff_toNat_lt.1 g; omega
      have h3 : ¬ b = a := fun g => by rw [g] at h; omega
      simp [h1, h2, h3]
    · have e : a = b := UInt8.toNat_inj.1 h
      subst e
      simpa using ih
    · have h1 : b < a := UInt8.lt_iff_toNat_lt.2 h
      have h2 : ¬ a < b := fun g => by have := UInt8.lt_iff_toNat_lt.1 g; omega
      have h3 : ¬ a = b := fun g => by rw [g] at h; omega
      simp [h1, h2, h3]

/-- Element k is valid, and its name stands behind the name of the one before it. -/
def okAt (xs : List Nd) (k : Nat) : Bool := match xs[k]? with
  | some x => nameB x.name && (termsB x.terms && (if k = 0 then true else match xs[k - 1]? with
    | some p => ltB p.name x.name
    | none => true))
  | none => true
def okTo (xs : List Nd) : Nat → Bool
  | 0 => true
  | k + 1 => okTo xs k && okAt xs k
def validN (xs : List Nd) : Bool := okTo xs xs.length && decide (xs.length ≤ 12)
theorem okTo_false {xs : List Nd} {k : Nat} (h : okAt xs k = false) : ∀ n, k < n → okTo xs n = false
  | n + 1, hn => by
    unfold okTo
    rcases Nat.lt_or_ge k n with g | g
    · rw [okTo_false h n g, Bool.false_and]
    · obtain rfl : k = n := by omega
      rw [h, Bool.and_false]
theorem okAt_zero {xs : List Nd} {x : Nd} (h : xs[0]? = some x) : okAt xs 0 = (nameB x.name && termsB x.terms) := by
  unfold okAt; rw [h]; simp
theorem okAt_pos {xs : List Nd} {k : Nat} {x p : Nd} (h0 : 0 < k) (h : xs[k]? = some x) (hp : xs[k - 1]? = some p) : okAt xs k = (nameB x.name && (termsB x.terms && ltB p.name x.name)) := by
  unfold okAt; rw [h]; simp only [hp]; rw [if_neg (by omega)]
/-- What the tests of element k come to: which of the three fails, or none. -/
theorem okAt_cases {xs : List Nd} {k : Nat} {x : Nd} (h : xs[k]? = some x) :
    (nameB x.name = false ∧ okAt xs k = false) ∨ (nameB x.name = true ∧ termsB x.terms = false ∧ okAt xs k = false) ∨
    (nameB x.name = true ∧ termsB x.terms = true ∧ k = 0 ∧ okAt xs k = true) ∨
    (nameB x.name = true ∧ termsB x.terms = true ∧ 0 < k ∧ ∃ p, xs[k - 1]? = some p ∧ okAt xs k = ltB p.name x.name) := by
  cases h1 : nameB x.name
  · left
    refine ⟨rfl, ?_⟩
    unfold okAt; rw [h]; simp [h1]
  · right
    cases h2 : termsB x.terms
    · left
      refine ⟨rfl, rfl, ?_⟩
      unfold okAt; rw [h]; simp [h1, h2]
    · right
      rcases Nat.eq_zero_or_pos k with h0 | h0
      · left
        subst h0
        refine ⟨rfl, rfl, rfl, ?_⟩
        rw [okAt_zero h, h1, h2]; rfl
      · right
        have hl := (List.getElem?_eq_some_iff.1 h).1
        have hp : xs[k - 1]? = some (xs[k - 1]'(by omega)) := List.getElem?_eq_getElem (by omega)
        refine ⟨rfl, rfl, h0, _, hp, ?_⟩
        rw [okAt_pos h0 h hp, h1, h2]; rfl

end Go.Proofs.YtbcikkaoohihhaaGreatDoor
