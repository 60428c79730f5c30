/- Plain surds: both tests. No condition but those that each theorem names. -/
import Derived.Test.YtmgfceiomfiknaaDoorRootW
import Derived.Test.YtmgfceiomfiknaaDoorNotes
namespace Go.Proofs.YtmgfceiomfiknaaDoor
open Go.RowKit Go.Sort

def surdB (p d q : Int) : Bool := inR d 2 1000000 && (!sqB d && (inR p (-1000000) 1000000 && (inR q (-1000000) 1000000 && (!decide (q = 0) && decide ((d - p * p).tmod q = 0)))))
theorem surdB_true {p d q : Int} : surdB p d q = true ↔ (2 ≤ d ∧ d ≤ 1000000) ∧ sqB d = false ∧ (-1000000 ≤ p ∧ p ≤ 1000000) ∧ (-1000000 ≤ q ∧ q ≤ 1000000) ∧ q ≠ 0 ∧ (d - p * p).tmod q = 0 := by
  simp [surdB, inR]
theorem sq_bd {p : Int} (h : inR p (-1000000) 1000000 = true) : 0 ≤ p * p ∧ p * p ≤ 1000000000000 := by
  obtain ⟨h1, h2⟩ := inR_true.1 h
  rcases Int.le_total 0 p with g | g
  · exact ⟨Int.mul_nonneg g g, Int.le_trans (Int.mul_le_mul h2 h2 g (by omega)) (by omega)⟩
  · have e : p * p = (-p) * (-p) := by rw [Int.neg_mul_neg]
    rw [e]
    exact ⟨Int.mul_nonneg (by omega) (by omega), Int.le_trans (Int.mul_le_mul (show -p ≤ 1000000 by omega) (show -p ≤ 1000000 by omega) (by omega) (by omega)) (by omega)⟩
theorem beq_dec (a b : Int) : (a == b) = decide (a = b) := by rw [Bool.eq_iff_iff]; simp
theorem bne_dec (a b : Int) : (a != b) = !decide (a = b) := by rw [Bool.eq_iff_iff]; simp

set_option maxHeartbeats 2000000 in
theorem ValidSurd_any (p d q : Int) (w : World) :
    Calls Tryd.prog 57 #[surdV p d q] w fun e w' => e = .returned (.bool (surdB p d q)) ∧ Below w.heap.size w w' := by
  unfold surdV surdB
  cases h1 : inR d 2 1000000
  · simp only [Bool.false_and]
    go_enter Tryd.func57, Tryd.ntmps57
    go_wp2_with (go_at_call 43; refine (within_any _ _ _ _).mono ?_; rintro e w' ⟨rfl, rfl⟩)
    go_ret
    exact ⟨rfl, ext1 _ _⟩
  · obtain ⟨d1, d2⟩ := inR_true.1 h1
    cases hp : inR p (-1000000) 1000000
    · simp only [Bool.false_and, Bool.and_false]
      cases h2 : sqB d
      all_goals
        go_enter Tryd.func57, Tryd.ntmps57
        go_wp2_with (first | (go_at_call 43; refine (within_any _ _ _ _).mono ?_; rintro e w' ⟨rfl, rfl⟩) | (go_at_call 83; refine (isSquare_any _ _ (by omega) (by omega)).mono ?_; rintro e w' ⟨rfl, rfl⟩))
        go_ret
        exact ⟨rfl, ext1 _ _⟩
    · obtain ⟨m1, m2⟩ := sq_bd hp
      obtain ⟨p1, p2⟩ := inR_true.1 hp
      cases hq : inR q (-1000000) 1000000
      · simp only [Bool.false_and, Bool.and_false]
        cases h2 : sqB d
        all_goals
          go_enter Tryd.func57, Tryd.ntmps57
          go_wp2_with (first | (go_at_call 43; refine (within_any _ _ _ _).mono ?_; rintro e w' ⟨rfl, rfl⟩) | (go_at_call 83; refine (isSquare_any _ _ (by omega) (by omega)).mono ?_; rintro e w' ⟨rfl, rfl⟩))
          go_ret
          exact ⟨rfl, ext1 _ _⟩
      · obtain ⟨q1, q2⟩ := inR_true.1 hq
        by_cases h0 : q = 0
        · subst h0
          simp only [Bool.not_true, decide_true, Bool.false_and, Bool.and_false]
          cases h2 : sqB d
          all_goals
            go_enter Tryd.func57, Tryd.ntmps57
            go_wp2_with (first | (go_at_call 43; refine (within_any _ _ _ _).mono ?_; rintro e w' ⟨rfl, rfl⟩) | (go_at_call 83; refine (isSquare_any _ _ (by omega) (by omega)).mono ?_; rintro e w' ⟨rfl, rfl⟩))
            go_ret
            exact ⟨rfl, ext1 _ _⟩
        · have e1 : (q == 0) = false := by simpa using h0
          have e2 : (q != 0) = true := by simpa using h0
          simp only [Bool.true_and, decide_eq_false h0, Bool.not_false]
          cases h2 : sqB d
          · have hr : -1000001000000 < (d - p * p).tmod q ∧ (d - p * p).tmod q < 1000001000000 := by
              have hlt := Int.natAbs_tmod (d - p * p) q
              have := Nat.mod_lt (d - p * p).natAbs (show 0 < q.natAbs by omega)
              omega
            go_enter Tryd.func57, Tryd.ntmps57
            go_wp2_with (first | (go_at_call 43; refine (within_any _ _ _ _).mono ?_; rintro e w' ⟨rfl, rfl⟩) | (go_at_call 83; refine (isSquare_any _ _ (by omega) (by omega)).mono ?_; rintro e w' ⟨rfl, rfl⟩))
            go_ret
            exact ⟨ret_bool (by rw [Bool.eq_iff_iff]; simp), ext1 _ _⟩
          · simp only [Bool.not_true, Bool.false_and]
            go_enter Tryd.func57, Tryd.ntmps57
            go_wp2_with (first | (go_at_call 43; refine (within_any _ _ _ _).mono ?_; rintro e w' ⟨rfl, rfl⟩) | (go_at_call 83; refine (isSquare_any _ _ (by omega) (by omega)).mono ?_; rintro e w' ⟨rfl, rfl⟩))
            go_ret
            exact ⟨rfl, ext1 _ _⟩
set_option maxHeartbeats 2000000 in
theorem l07Ok_any (p d q : Int) (w : World) :
    Calls Tryd.prog 77 #[surdV p d q] w fun e w' => e = .returned (.bool (surdB p d q)) ∧ Below w.heap.size w w' := by
  unfold surdV surdB
  cases h1 : inR d 2 1000000
  · simp only [Bool.false_and]
    go_enter Tryd.func77, Tryd.ntmps77
    go_wp2_with (go_at_call 19; refine (l00In_any _ _ _ _).mono ?_; rintro e w' ⟨rfl, rfl⟩)
    go_ret
    exact ⟨rfl, ext1 _ _⟩
  · obtain ⟨d1, d2⟩ := inR_true.1 h1
    cases hp : inR p (-1000000) 1000000
    · simp only [Bool.false_and, Bool.and_false]
      cases h2 : sqB d
      all_goals
        go_enter Tryd.func77, Tryd.ntmps77
        go_wp2_with (first | (go_at_call 19; refine (l00In_any _ _ _ _).mono ?_; rintro e w' ⟨rfl, rfl⟩) | (go_at_call 105; refine (l07Square_any _ _ (by omega) (by omega)).mono ?_; rintro e w' ⟨rfl, rfl⟩))
        go_ret
        exact ⟨rfl, ext1 _ _⟩
    · obtain ⟨m1, m2⟩ := sq_bd hp
      obtain ⟨p1, p2⟩ := inR_true.1 hp
      cases hq : inR q (-1000000) 1000000
      · simp only [Bool.false_and, Bool.and_false]
        cases h2 : sqB d
        all_goals
          go_enter Tryd.func77, Tryd.ntmps77
          go_wp2_with (first | (go_at_call 19; refine (l00In_any _ _ _ _).mono ?_; rintro e w' ⟨rfl, rfl⟩) | (go_at_call 105; refine (l07Square_any _ _ (by omega) (by omega)).mono ?_; rintro e w' ⟨rfl, rfl⟩))
          go_ret
          exact ⟨rfl, ext1 _ _⟩
      · obtain ⟨q1, q2⟩ := inR_true.1 hq
        by_cases h0 : q = 0
        · subst h0
          simp only [Bool.not_true, decide_true, Bool.false_and, Bool.and_false]
          cases h2 : sqB d
          all_goals
            go_enter Tryd.func77, Tryd.ntmps77
            go_wp2_with (first | (go_at_call 19; refine (l00In_any _ _ _ _).mono ?_; rintro e w' ⟨rfl, rfl⟩) | (go_at_call 105; refine (l07Square_any _ _ (by omega) (by omega)).mono ?_; rintro e w' ⟨rfl, rfl⟩))
            go_ret
            exact ⟨rfl, ext1 _ _⟩
        · have e1 : (q == 0) = false := by simpa using h0
          have e2 : (q != 0) = true := by simpa using h0
          simp only [Bool.true_and, decide_eq_false h0, Bool.not_false]
          cases h2 : sqB d
          · have hr : -1000001000000 < (d - p * p).tmod q ∧ (d - p * p).tmod q < 1000001000000 := by
              have hlt := Int.natAbs_tmod (d - p * p) q
              have := Nat.mod_lt (d - p * p).natAbs (show 0 < q.natAbs by omega)
              omega
            go_enter Tryd.func77, Tryd.ntmps77
            go_wp2_with (first | (go_at_call 19; refine (l00In_any _ _ _ _).mono ?_; rintro e w' ⟨rfl, rfl⟩) | (go_at_call 105; refine (l07Square_any _ _ (by omega) (by omega)).mono ?_; rintro e w' ⟨rfl, rfl⟩))
            go_ret
            exact ⟨ret_bool (by rw [Bool.eq_iff_iff]; simp), ext1 _ _⟩
          · simp only [Bool.not_true, Bool.false_and]
            go_enter Tryd.func77, Tryd.ntmps77
            go_wp2_with (first | (go_at_call 19; refine (l00In_any _ _ _ _).mono ?_; rintro e w' ⟨rfl, rfl⟩) | (go_at_call 105; refine (l07Square_any _ _ (by omega) (by omega)).mono ?_; rintro e w' ⟨rfl, rfl⟩))
            go_ret
            exact ⟨rfl, ext1 _ _⟩
end Go.Proofs.YtmgfceiomfiknaaDoor
