/- Calendars: how many leap years a cycle has; days come back from their numbers. No condition. -/
import Derived.Test.YtgdcmladilpabaaCalL
import Derived.Test.YtgdcmladilpabaaDateW
namespace Go.Proofs.Ytgdcmladilpabaa
open Go.RowKit Go.Sort

theorem sValidRule_any (l c s : Int) (w : World) :
    Calls Try.prog 31 #[ruleV l c s] w fun e w' => e = .returned (.bool (ruleOk l c s)) ∧ Below w.heap.size w w' := by
  cases h : ruleOk l c s
  all_goals
    have HV : Hid (∀ W, Calls Try.prog 105 #[ruleV l c s] W fun e w' => e = .returned (.bool (ruleOk l c s)) ∧ Below W.heap.size W w') := l24Ok_any l c s
    rw [h] at HV
    unfold ruleV at *
    go_enter Try.func31, Try.ntmps31
    go_wp2_with fail
    refine (HV.out _).mono ?_
    rintro e w1 ⟨rfl, hb1⟩
    obtain ⟨hc1, hf1⟩ := bcell hb1
    have hy1 := hb1.size
    (try simp at hy1)
    have hz1_0 : w.heap.size < w1.heap.size := by omega
    go_wp2
    go_ret
    exact ⟨rfl, ext_trans (ext1 _ _) hb1⟩
theorem leapsTo_count {l c s : Int} (hl : 0 ≤ l) (hl' : l ≤ c) (hc : 1 ≤ c) (k : Nat) : ((leapsTo l c s k).length : Int) = befV l c s k - befV l c s 0 := by
  induction k with
  | zero => simp [leapsTo]
  | succ k ih =>
    have hst := befV_step (s := s) (y := (k : Int)) hl hl' hc
    have e : ((k + 1 : Nat) : Int) = (k : Int) + 1 := by omega
    rw [e]
    simp only [leapsTo, List.length_append]
    unfold leapB
    split
    · rename_i h
      have h := of_decide_eq_true h
      simp only [List.length_cons, List.length_nil]
      omega
    · rename_i h
      have h := of_decide_eq_false (Bool.eq_false_iff.2 h)
      simp only [List.length_nil]
      omega
theorem befV_cycle {l c s : Int} (hc : 1 ≤ c) (hs : 0 ≤ s) (hs' : s ≤ c - 1) : befV l c s c = l := by
  unfold befV
  have e : c * l + s = s + c * l := by omega
  rw [e, Int.add_mul_ediv_left _ _ (by omega), Int.ediv_eq_zero_of_lt hs (by omega)]
  omega
theorem befV_zero {l c s : Int} (hs : 0 ≤ s) (hs' : s ≤ c - 1) : befV l c s 0 = 0 := by
  unfold befV
  rw [Int.zero_mul, Int.zero_add, Int.ediv_eq_zero_of_lt hs (by omega)]
theorem leapsTo_cycle {l c s : Int} (h : ruleOk l c s = true) : ((leapsTo l c s c.toNat).length : Int) = l := by
  obtain ⟨c1, c2, l1, l2, s1, s2⟩ := ruleOk_true.1 h
  rw [leapsTo_count l1 l2 c1, Int.toNat_of_nonneg (by omega), befV_cycle c1 s1 s2, befV_zero s1 s2]
  omega
theorem year_one {l c s n a b : Int} (hl : 0 ≤ l) (hc : 1 ≤ c) (a1 : startV l c s a ≤ n) (a2 : n < startV l c s (a + 1)) (b1 : startV l c s b ≤ n) (b2 : n < startV l c s (b + 1)) : a = b := by
  rcases Int.lt_trichotomy a b with h | h | h
  · have := start_mono (s := s) hl hc (show a + 1 ≤ b by omega); omega
  · exact h
  · have := start_mono (s := s) hl hc (show b + 1 ≤ a by omega); omega
/-- A number of a day, and what comes back from it. -/
theorem number_back {l c s y d : Int} (h : dayC l c s y d = 0) : ruleOk l c s = true ∧ 0 ≤ y ∧ y ≤ 100000 ∧ startV l c s y ≤ dayA l c s y d ∧ dayA l c s y d < startV l c s (y + 1) ∧ dayA l c s y d - startV l c s y = d ∧ inR (dayA l c s y d) 0 (startV l c s 100001 - 1) = true := by
  have h0 := h
  unfold dayC at h
  split at h
  · rename_i hy
    split at h
    · rename_i hd
      obtain ⟨l1, l2, c1, c2, s1, s2, y1, y2⟩ := yearCode_zero hy
      obtain ⟨d1, d2⟩ := inR_true.1 hd
      have e : dayA l c s y d = startV l c s y + d := by simp only [dayA, if_pos h0, startV]
      have h1 : startV l c s (y + 1) = startV l c s y + daysV l c s y := by unfold startV daysV; omega
      have h2 := start_mono (s := s) l1 c1 (show y + 1 ≤ 100001 by omega)
      have h3 := (start_bd (s := s) l1 l2 c1 s1 s2 y1).1
      refine ⟨?_, y1, y2, by omega, by omega, by omega, inR_true.2 ⟨by omega, by omega⟩⟩
      exact ruleOk_true.2 ⟨c1, c2, l1, l2, s1, s2⟩
    · cases h
  · rename_i hy
    exact absurd h hy
/-- The day of a date has the number that it came from. -/
theorem date_back {l c s n y : Int} (hr : ruleOk l c s = true) (y1 : 0 ≤ y) (y2 : y ≤ 100000) (h1 : startV l c s y ≤ n) (h2 : n < startV l c s (y + 1)) : dayC l c s y (n - startV l c s y) = 0 ∧ dayA l c s y (n - startV l c s y) = n := by
  have hy : yearCode l c s y = 0 := by
    unfold yearCode
    rw [if_pos hr, if_pos (inR_true.2 ⟨y1, y2⟩)]
  have h3 : startV l c s (y + 1) = startV l c s y + daysV l c s y := by unfold startV daysV; omega
  have hd : inR (n - startV l c s y) 0 (daysV l c s y - 1) = true := inR_true.2 ⟨by omega, by omega⟩
  have h0 : dayC l c s y (n - startV l c s y) = 0 := by unfold dayC; rw [if_pos hy, if_pos hd]
  refine ⟨h0, ?_⟩
  unfold dayA
  rw [if_pos h0]
  unfold startV
  omega
end Go.Proofs.Ytgdcmladilpabaa
