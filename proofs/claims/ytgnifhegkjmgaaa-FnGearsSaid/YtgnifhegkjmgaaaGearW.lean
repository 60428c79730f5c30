/- Gears: what ratios and wheels are allowed. No condition but those that each theorem names. -/
import Derived.Test.YtgnifhegkjmgaaaFracW
import Derived.Test.YtgnifhegkjmgaaaSlices
namespace Go.Proofs.Ytgnifhegkjmgaaa
open Go.RowKit Go.Sort

def ratioB (n d : Int) : Bool := decide (1 ≤ n) && decide (n ≤ 1000000) && decide (d ≤ 1000000)
theorem ratioB_true {n d : Int} : ratioB n d = true ↔ 1 ≤ n ∧ n ≤ 1000000 ∧ d ≤ 1000000 := by
  unfold ratioB; simp only [Bool.and_eq_true, decide_eq_true_eq]; omega
/-- The code of a ratio; fits: are the other arguments in range? -/
def gearC (n d : Int) (fits : Bool) : Int := if fracOk n d = true then (if (ratioB n d && fits) = true then 0 else 2) else 1
theorem gearC_zero {n d : Int} {f : Bool} : gearC n d f = 0 ↔ fracOk n d = true ∧ ratioB n d = true ∧ f = true := by
  unfold gearC
  cases fracOk n d <;> cases ratioB n d <;> cases f <;> simp
theorem gearC_bad {n d : Int} {f : Bool} (h0 : fracOk n d = true) (h : ratioB n d = false ∨ f = false) : gearC n d f = 2 := by
  unfold gearC
  rw [if_pos h0]
  rcases h with h | h <;> simp [h]

set_option maxHeartbeats 1000000 in
theorem checkGear_any (n d : Int) (f : Bool) (w : World) :
    Calls Try.prog 76 #[fracV n d, .bool f] w fun e w' => e = .returned (.int .i64 (gearC n d f)) ∧ Below w.heap.size w w' := by
  cases h0 : fracOk n d
  · have e0 : gearC n d f = 1 := by simp [gearC, h0]
    rw [e0]
    clear e0
    unfold fracV
    go_enter Try.func76, Try.ntmps76
    go_wp2_with fail
    refine (ValidFraction_any n d _).mono ?_
    rintro e w1 ⟨rfl, hb1⟩
    obtain ⟨hc1, hf1⟩ := bcell hb1
    have hy1 := hb1.size
    (try simp at hy1)
    have hz1_0 : w.heap.size < w1.heap.size := by omega
    go_wp2
    go_ret
    refine ⟨rfl, ?_⟩
    repeat (first | exact Below.refl _ _ | assumption | refine ext_alloc ?_ _ | refine ext_drew ?_ | refine ext_trans ?_ (by assumption))
  · by_cases h1 : n ≤ 0
    · have e0 : gearC n d f = 2 := gearC_bad h0 (.inl (by simp [ratioB]; omega))
      rw [e0]
      clear e0
      unfold fracV
      go_enter Try.func76, Try.ntmps76
      go_wp2_with fail
      refine (ValidFraction_any n d _).mono ?_
      rintro e w1 ⟨rfl, hb1⟩
      obtain ⟨hc1, hf1⟩ := bcell hb1
      have hy1 := hb1.size
      (try simp at hy1)
      have hz1_0 : w.heap.size < w1.heap.size := by omega
      go_wp2
      go_ret
      refine ⟨rfl, ?_⟩
      repeat (first | exact Below.refl _ _ | assumption | refine ext_alloc ?_ _ | refine ext_drew ?_ | refine ext_trans ?_ (by assumption))
    · by_cases h2 : 1000000 < n
      · have e0 : gearC n d f = 2 := gearC_bad h0 (.inl (by simp [ratioB]; omega))
        rw [e0]
        clear e0
        unfold fracV
        go_enter Try.func76, Try.ntmps76
        go_wp2_with fail
        refine (ValidFraction_any n d _).mono ?_
        rintro e w1 ⟨rfl, hb1⟩
        obtain ⟨hc1, hf1⟩ := bcell hb1
        have hy1 := hb1.size
        (try simp at hy1)
        have hz1_0 : w.heap.size < w1.heap.size := by omega
        go_wp2
        go_ret
        refine ⟨rfl, ?_⟩
        repeat (first | exact Below.refl _ _ | assumption | refine ext_alloc ?_ _ | refine ext_drew ?_ | refine ext_trans ?_ (by assumption))
      · by_cases h3 : 1000000 < d
        · have e0 : gearC n d f = 2 := gearC_bad h0 (.inl (by simp [ratioB]; omega))
          rw [e0]
          clear e0
          unfold fracV
          go_enter Try.func76, Try.ntmps76
          go_wp2_with fail
          refine (ValidFraction_any n d _).mono ?_
          rintro e w1 ⟨rfl, hb1⟩
          obtain ⟨hc1, hf1⟩ := bcell hb1
          have hy1 := hb1.size
          (try simp at hy1)
          have hz1_0 : w.heap.size < w1.heap.size := by omega
          go_wp2
          go_ret
          refine ⟨rfl, ?_⟩
          repeat (first | exact Below.refl _ _ | assumption | refine ext_alloc ?_ _ | refine ext_drew ?_ | refine ext_trans ?_ (by assumption))
        · cases f
          · have e0 : gearC n d false = 2 := gearC_bad h0 (.inr rfl)
            rw [e0]
            clear e0
            unfold fracV
            go_enter Try.func76, Try.ntmps76
            go_wp2_with fail
            refine (ValidFraction_any n d _).mono ?_
            rintro e w1 ⟨rfl, hb1⟩
            obtain ⟨hc1, hf1⟩ := bcell hb1
            have hy1 := hb1.size
            (try simp at hy1)
            have hz1_0 : w.heap.size < w1.heap.size := by omega
            go_wp2
            go_ret
            refine ⟨rfl, ?_⟩
            repeat (first | exact Below.refl _ _ | assumption | refine ext_alloc ?_ _ | refine ext_drew ?_ | refine ext_trans ?_ (by assumption))
          · have e0 : gearC n d true = 0 := gearC_zero.2 ⟨h0, ratioB_true.2 (by omega), rfl⟩
            rw [e0]
            clear e0
            unfold fracV
            go_enter Try.func76, Try.ntmps76
            go_wp2_with fail
            refine (ValidFraction_any n d _).mono ?_
            rintro e w1 ⟨rfl, hb1⟩
            obtain ⟨hc1, hf1⟩ := bcell hb1
            have hy1 := hb1.size
            (try simp at hy1)
            have hz1_0 : w.heap.size < w1.heap.size := by omega
            go_wp2
            go_ret
            refine ⟨rfl, ?_⟩
            repeat (first | exact Below.refl _ _ | assumption | refine ext_alloc ?_ _ | refine ext_drew ?_ | refine ext_trans ?_ (by assumption))
theorem checkGear_is {n d : Int} {f : Bool} {v : Int} (h : gearC n d f = v) (w : World) :
    Calls Try.prog 76 #[fracV n d, .bool f] w fun e w' => e = .returned (.int .i64 v) ∧ Below w.heap.size w w' := h ▸ checkGear_any n d f w

set_option maxHeartbeats 1000000 in
theorem l25Wheels_any (n d lo hi : Int) (w : World) :
    Calls Try.prog 79 #[fracV n d, .int .i64 lo, .int .i64 hi] w fun e w' => e = .returned (.int .i64 (gearC n d (inR lo 1 1000 && inR hi lo 1000))) ∧ Below w.heap.size w w' := by
  cases h0 : fracOk n d
  · have e0 : ∀ f, gearC n d f = 1 := fun f => by simp [gearC, h0]
    rw [e0]
    clear e0
    unfold fracV
    go_enter Try.func79, Try.ntmps79
    go_wp2_with fail
    refine (l02Ok_any n d _).mono ?_
    rintro e w1 ⟨rfl, hb1⟩
    obtain ⟨hc1, hf1⟩ := bcell hb1
    have hy1 := hb1.size
    (try simp at hy1)
    have hz1_0 : w.heap.size < w1.heap.size := by omega
    go_wp2
    go_ret
    refine ⟨rfl, ?_⟩
    repeat (first | exact Below.refl _ _ | assumption | refine ext_alloc ?_ _ | refine ext_drew ?_ | refine ext_trans ?_ (by assumption))
  · cases hr : ratioB n d
    · have e0 : ∀ f, gearC n d f = 2 := fun f => gearC_bad h0 (.inl hr)
      rw [e0]
      clear e0
      have h1 : n ≤ 0 ∨ ¬ n ≤ 0 ∧ 1000000 < n ∨ ¬ n ≤ 0 ∧ ¬ 1000000 < n ∧ 1000000 < d := by
        have := mt ratioB_true.2 (by rw [hr]; exact Bool.false_ne_true)
        omega
      clear hr
      rcases h1 with h1 | ⟨h1, h2⟩ | ⟨h1, h2, h3⟩
      all_goals
        unfold fracV
        go_enter Try.func79, Try.ntmps79
        go_wp2_with fail
        refine (l02Ok_any n d _).mono ?_
        rintro e w1 ⟨rfl, hb1⟩
        obtain ⟨hc1, hf1⟩ := bcell hb1
        have hy1 := hb1.size
        (try simp at hy1)
        have hz1_0 : w.heap.size < w1.heap.size := by omega
        go_wp2
        go_ret
        refine ⟨rfl, ?_⟩
        repeat (first | exact Below.refl _ _ | assumption | refine ext_alloc ?_ _ | refine ext_drew ?_ | refine ext_trans ?_ (by assumption))
    · obtain ⟨r1, r2, r3⟩ := ratioB_true.1 hr
      cases ha : inR lo 1 1000
      · have e0 : gearC n d (false && inR hi lo 1000) = 2 := gearC_bad h0 (.inr rfl)
        rw [e0]
        clear e0
        unfold fracV
        go_enter Try.func79, Try.ntmps79
        go_wp2_with fail
        refine (l02Ok_any n d _).mono ?_
        rintro e w1 ⟨rfl, hb1⟩
        obtain ⟨hc1, hf1⟩ := bcell hb1
        have hy1 := hb1.size
        (try simp at hy1)
        have hz1_0 : w.heap.size < w1.heap.size := by omega
        go_wp2_with (go_at_call 92; refine (l00In_any _ _ _ _).mono ?_; rintro e w' ⟨rfl, rfl⟩)
        go_ret
        refine ⟨rfl, ?_⟩
        repeat (first | exact Below.refl _ _ | assumption | refine ext_alloc ?_ _ | refine ext_drew ?_ | refine ext_trans ?_ (by assumption))
      · cases hb : inR hi lo 1000
        · have e0 : gearC n d (true && false) = 2 := gearC_bad h0 (.inr rfl)
          rw [e0]
          clear e0
          unfold fracV
          go_enter Try.func79, Try.ntmps79
          go_wp2_with fail
          refine (l02Ok_any n d _).mono ?_
          rintro e w1 ⟨rfl, hb1⟩
          obtain ⟨hc1, hf1⟩ := bcell hb1
          have hy1 := hb1.size
          (try simp at hy1)
          have hz1_0 : w.heap.size < w1.heap.size := by omega
          go_wp2_with (go_at_call 92; refine (l00In_any _ _ _ _).mono ?_; rintro e w' ⟨rfl, rfl⟩)
          go_ret
          refine ⟨rfl, ?_⟩
          repeat (first | exact Below.refl _ _ | assumption | refine ext_alloc ?_ _ | refine ext_drew ?_ | refine ext_trans ?_ (by assumption))
        · have e0 : gearC n d (true && true) = 0 := gearC_zero.2 ⟨h0, hr, rfl⟩
          rw [e0]
          clear e0
          unfold fracV
          go_enter Try.func79, Try.ntmps79
          go_wp2_with fail
          refine (l02Ok_any n d _).mono ?_
          rintro e w1 ⟨rfl, hb1⟩
          obtain ⟨hc1, hf1⟩ := bcell hb1
          have hy1 := hb1.size
          (try simp at hy1)
          have hz1_0 : w.heap.size < w1.heap.size := by omega
          go_wp2_with (go_at_call 92; refine (l00In_any _ _ _ _).mono ?_; rintro e w' ⟨rfl, rfl⟩)
          go_ret
          refine ⟨rfl, ?_⟩
          repeat (first | exact Below.refl _ _ | assumption | refine ext_alloc ?_ _ | refine ext_drew ?_ | refine ext_trans ?_ (by assumption))
end Go.Proofs.Ytgnifhegkjmgaaa
