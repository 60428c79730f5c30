/- Valid notes: one note, both tests. No condition but those that each theorem names. -/
import Derived.Test.YtbcikkaoohihhaaGreatDoorMrC
import Derived.Test.YtbcikkaoohihhaaGreatDoorValidDeskW
import Derived.Test.YtbcikkaoohihhaaGreatDoorSameNotesW
namespace Go.Proofs.YtbcikkaoohihhaaGreatDoor
open Go.RowKit Go.Sort

def Nt.zF (x : Nt) : Bool := (x.num == 0) && (x.den == 0)
def Nt.zT (x : Nt) : Bool := decide (x.terms.length = 0)
def Nt.zS (x : Nt) : Bool := (x.sp == 0) && ((x.sd == 0) && (x.sq == 0))
def ntOk (x : Nt) : Bool := nameB x.name && (if x.kind = 1 then fracOk x.num x.den && (x.zT && x.zS) else if x.kind = 2 then termsB x.terms && (x.zF && x.zS) else if x.kind = 3 then surdB x.sp x.sd x.sq && (x.zF && x.zT) else false)
def NtKind (K : Nat) (k : Int) : Prop := match K with
  | 1 => k = 1
  | 2 => k = 2
  | 3 => k = 3
  | _ => (k == 1) = false ∧ (k == 2) = false ∧ (k == 3) = false
def ntRes (K : Nat) (x : Nt) : Bool := match K with
  | 1 => fracOk x.num x.den && (x.zT && x.zS)
  | 2 => termsB x.terms && (x.zF && x.zS)
  | 3 => surdB x.sp x.sd x.sq && (x.zF && x.zT)
  | _ => false
theorem zF_ways (x : Nt) : ((x.num == 0) = false ∧ x.zF = false) ∨ ((x.num == 0) = true ∧ (x.den == 0) = false ∧ x.zF = false) ∨ ((x.num == 0) = true ∧ (x.den == 0) = true ∧ x.zF = true) := by
  unfold Nt.zF
  cases (x.num == 0) <;> cases (x.den == 0) <;> simp
theorem zS_ways (x : Nt) : ((x.sp == 0) = false ∧ x.zS = false) ∨ ((x.sp == 0) = true ∧ (x.sd == 0) = false ∧ x.zS = false) ∨ ((x.sp == 0) = true ∧ (x.sd == 0) = true ∧ (x.sq == 0) = false ∧ x.zS = false) ∨ ((x.sp == 0) = true ∧ (x.sd == 0) = true ∧ (x.sq == 0) = true ∧ x.zS = true) := by
  unfold Nt.zS
  cases (x.sp == 0) <;> cases (x.sd == 0) <;> cases (x.sq == 0) <;> simp
theorem zeroNil (x : Nt) : ((x.terms.length : Int) == 0) = x.zT := by
  unfold Nt.zT
  rw [Bool.eq_iff_iff]; simp

theorem ntOk_ways (x : Nt) :
    (nameB x.name = false ∧ ntOk x = false) ∨ (nameB x.name = true ∧ x.kind = 1 ∧ ntOk x = (fracOk x.num x.den && (x.zT && x.zS))) ∨ (nameB x.name = true ∧ x.kind = 2 ∧ ntOk x = (termsB x.terms && (x.zF && x.zS))) ∨
    (nameB x.name = true ∧ x.kind = 3 ∧ ntOk x = (surdB x.sp x.sd x.sq && (x.zF && x.zT))) ∨ (nameB x.name = true ∧ (x.kind == 1) = false ∧ (x.kind == 2) = false ∧ (x.kind == 3) = false ∧ ntOk x = false) := by
  unfold ntOk
  cases h : nameB x.name
  · exact .inl ⟨rfl, rfl⟩
  · right
    by_cases h1 : x.kind = 1
    · left; simp [h1]
    · by_cases h2 : x.kind = 2
      · right; left; simp [h2]
      · by_cases h3 : x.kind = 3
        · right; right; left; simp [h3]
        · right; right; right; simp [h1, h2, h3]
end Go.Proofs.YtbcikkaoohihhaaGreatDoor
