/- Powers, octaves and their small functions: the walks. -/
import Derived.Test.YtdjnblkgeaphmaaBase
namespace Go.Proofs.Ytdjnblkgeaphmaa
open Go.RowKit Go.Sort

def pw (b : Int) : Nat → Int
  | 0 => 1
  | n + 1 => pw b n * b

/-- The number of octaves in f fifths. -/
def octv (f : Nat) : Nat := Nat.log2 (3 ^ f) - f

def all40 (p : Nat → Bool) : Bool := (List.range 40).all p
theorem all40_of {p : Nat → Bool} (h : all40 p = true) {n : Nat} (hn : n ≤ 39) : p n = true := List.all_eq_true.1 h n (List.mem_range.2 (by omega))

theorem pw3_bd {k : Nat} (h : k ≤ 39) : 0 ≤ pw 3 k ∧ pw 3 k ≤ 9223372036854775807 := by
  have := all40_of (p := fun k => decide (0 ≤ pw 3 k ∧ pw 3 k ≤ 9223372036854775807)) (by decide +kernel) h
  simpa using this
theorem octv_le {f : Nat} (h : f ≤ 39) : octv f ≤ 22 := by
  have := all40_of (p := fun k => decide (octv k ≤ 22)) (by decide +kernel) h
  simpa using this
theorem octv_test {f k : Nat} (h : f ≤ 39) (hk : k ≤ octv f) : decide (0 < pw 3 f / 2 ^ (f + k + 1)) = decide (k < octv f) := by
  have := all40_of (p := fun f => (List.range (octv f + 1)).all fun k => decide (0 < pw 3 f / 2 ^ (f + k + 1)) == decide (k < octv f)) (by decide +kernel) h
  simpa using List.all_eq_true.1 this k (List.mem_range.2 (by omega))
/-- What the reference halves: 3^f halved k times. -/
theorem half_test {f k : Nat} (h : f ≤ 39) (hk : k ≤ f + octv f) : decide (2 ≤ pw 3 f / 2 ^ k) = decide (k < f + octv f) ∧ 0 ≤ pw 3 f / 2 ^ k ∧ pw 3 f / 2 ^ k ≤ 9223372036854775807 ∧ pw 3 f / 2 ^ k / 2 = pw 3 f / 2 ^ (k + 1) := by
  have := all40_of (p := fun f => (List.range (f + octv f + 1)).all fun k => decide (decide (2 ≤ pw 3 f / 2 ^ k) = decide (k < f + octv f) ∧ 0 ≤ pw 3 f / 2 ^ k ∧ pw 3 f / 2 ^ k ≤ 9223372036854775807 ∧ pw 3 f / 2 ^ k / 2 = pw 3 f / 2 ^ (k + 1))) (by decide +kernel) h
  exact of_decide_eq_true (List.all_eq_true.1 this k (List.mem_range.2 (by omega)))

theorem powerOf_any (b : Int) (f : Nat) (w : World) (hf : f ≤ 1000) (hb : ∀ k, k ≤ f → 0 ≤ pw b k ∧ pw b k ≤ 9223372036854775807) :
    Calls Try.prog 137 #[.int .i64 b, .int .i64 f] w fun e w' => e = .returned (.int .i64 (pw b f)) ∧ w = w' := by
  have HB := Lib.hid hb
  clear hb
  go_enter Try.func137, Try.ntmps137
  go_wp2_with fail
  go_loop [5, 7] (fun o t => ∃ k : Nat, k ≤ f ∧ o = .int .i64 (pw b k) ∧ t = .int .i64 k) (fun _ t => f - (intOf t).toNat)
  case atStart => exact ⟨0, by omega, rfl, rfl⟩
  case round =>
    obtain ⟨k, hk, rfl, rfl⟩ := hrel
    by_cases hlt : k < f
    · have h1 : 0 ≤ pw b k * b ∧ pw b k * b ≤ 9223372036854775807 := HB.out (k + 1) (by omega)
      obtain ⟨h1, h2⟩ := h1
      go_wp2
      go_round
      case rel => exact ⟨k + 1, by omega, rfl, by go_num⟩
      case measure => simp [intOf]; omega
    · go_wp2
      go_ret
      exact ⟨ret_int (by rw [show k = f by omega]), rfl⟩

theorem l25Power_any (f : Nat) (w : World) (hf : f ≤ 39) :
    Calls Try.prog 139 #[.int .i64 f] w fun e w' => e = .returned (.int .i64 (pw 3 f)) ∧ w = w' := by
  go_enter Try.func139, Try.ntmps139
  go_wp2_with fail
  go_loop [3, 0] (fun o t => ∃ k : Nat, k ≤ f ∧ o = .int .i64 (pw 3 (f - k)) ∧ t = .int .i64 k) (fun _ t => (intOf t).toNat)
  case atStart => exact ⟨f, by omega, by simp [pw], rfl⟩
  case round =>
    obtain ⟨k, hk, rfl, rfl⟩ := hrel
    by_cases hlt : 0 < k
    · have h1 : 0 ≤ pw 3 (f - k) * 3 ∧ pw 3 (f - k) * 3 ≤ 9223372036854775807 := pw3_bd (k := f - k + 1) (by omega)
      obtain ⟨h1, h2⟩ := h1
      go_wp2
      go_round
      case rel => exact ⟨k - 1, by omega, by rw [show f - (k - 1) = f - k + 1 by omega]; rfl, val_int (by omega)⟩
      case measure => simp [intOf]; omega
    · go_wp2
      go_ret
      exact ⟨ret_int (by rw [show f - k = f by omega]), rfl⟩

theorem oct_any (f : Nat) (w : World) (hf : f ≤ 39) :
    Calls Try.prog 138 #[.int .i64 f] w fun e w' => e = .returned (.int .i64 (octv f)) ∧ w = w' := by
  go_enter Try.func138, Try.ntmps138
  go_wp2_with fail
  refine (powerOf_any _ _ _ (by omega) (fun k hk => pw3_bd (by omega))).mono ?_
  rintro e w' ⟨rfl, rfl⟩
  go_wp2_with fail
  have ho := octv_le hf
  go_loop [4] (fun t => ∃ k : Nat, k ≤ octv f ∧ t = .int .i64 k) (fun t => octv f - (intOf t).toNat)
  case atStart => exact ⟨0, by omega, rfl⟩
  case round =>
    obtain ⟨k, hk, rfl⟩ := hrel
    have hs0 : (0 : Int) ≤ (f : Int) + k + 1 := by omega
    have hs1 : (f : Int) + k + 1 ≤ 64 := by omega
    have ht := octv_test hf hk
    by_cases hlt : k < octv f
    · rw [decide_eq_true hlt] at ht
      have ht := of_decide_eq_true ht
      go_wp2
      go_round
      case rel => exact ⟨k + 1, by omega, by go_num⟩
      case measure => simp [intOf]; omega
    · rw [decide_eq_false hlt] at ht
      have ht := of_decide_eq_false ht
      go_wp2
      go_ret
      exact ⟨ret_int (by omega), rfl⟩

theorem l25Octaves_any (f : Nat) (w : World) (hf : f ≤ 39) :
    Calls Try.prog 140 #[.int .i64 f] w fun e w' => e = .returned (.int .i64 (octv f)) ∧ w = w' := by
  go_enter Try.func140, Try.ntmps140
  go_wp2_with fail
  refine (l25Power_any _ _ hf).mono ?_
  rintro e w' ⟨rfl, rfl⟩
  go_wp2_with fail
  have ho := octv_le hf
  go_loop [3, 4] (fun u t => ∃ k : Nat, k ≤ f + octv f ∧ t = .int .i64 k ∧ u = .int .i64 (pw 3 f / 2 ^ k)) (fun _ t => f + octv f - (intOf t).toNat)
  case atStart => exact ⟨0, by omega, rfl, by simp⟩
  case round =>
    obtain ⟨k, hk, rfl, rfl⟩ := hrel
    obtain ⟨ht, h0, h1, h2⟩ := half_test hf hk
    have H2 := Lib.hid h2
    clear h2
    by_cases hlt : k < f + octv f
    · rw [decide_eq_true hlt] at ht
      have ht := of_decide_eq_true ht
      go_wp2
      go_round
      case rel => exact ⟨k + 1, by omega, by go_num, by rw [H2.out]⟩
      case measure => simp [intOf]; omega
    · rw [decide_eq_false hlt] at ht
      have ht := of_decide_eq_false ht
      go_wp2
      go_ret
      exact ⟨ret_int (by omega), rfl⟩

/-- FifthOctaves: the value and the code. -/
def fifthA (n : Int) : Int := if inR n 0 39 = true then octv n.toNat else 0
def fifthC (n : Int) : Int := if inR n 0 39 = true then 0 else 2
theorem sFifthOctaves_any (n : Int) (w : World) :
    Calls Try.prog 57 #[.int .i64 n] w fun e w' => e = .returned (.tuple #[.int .i64 (fifthA n), .int .i64 (fifthC n)]) ∧ w = w' := by
  cases h : inR n 0 39
  · go_enter Try.func57, Try.ntmps57
    go_wp2_with (go_at_call 115; refine (l00In_any _ _ _ _).mono ?_; rintro e w' ⟨rfl, rfl⟩)
    go_ret2
    exact ⟨by simp [fifthA, fifthC, h], rfl⟩
  · obtain ⟨h0, h1⟩ := inR_true.1 h
    obtain ⟨m, rfl⟩ := Int.eq_ofNat_of_zero_le h0
    go_enter Try.func57, Try.ntmps57
    go_wp2_with (first | (go_at_call 115; refine (l00In_any _ _ _ _).mono ?_; rintro e w' ⟨rfl, rfl⟩) | (go_at_call 140; refine (l25Octaves_any _ _ (by omega)).mono ?_; rintro e w' ⟨rfl, rfl⟩))
    go_ret2
    exact ⟨by simp [fifthA, fifthC, h], rfl⟩
theorem iFifthOctaves_any (n : Int) (w : World) :
    Calls Try.prog 56 #[.int .i64 n] w fun e w' => e = .returned (.tuple #[.int .i64 (fifthA n), .int .i64 (fifthC n)]) ∧ w = w' := by
  cases h : inR n 0 39
  · go_enter Try.func56, Try.ntmps56
    go_wp2_with (go_at_call 110; refine (within_any _ _ _ _).mono ?_; rintro e w' ⟨rfl, rfl⟩)
    go_ret2
    exact ⟨by simp [fifthA, fifthC, h], rfl⟩
  · obtain ⟨h0, h1⟩ := inR_true.1 h
    obtain ⟨m, rfl⟩ := Int.eq_ofNat_of_zero_le h0
    go_enter Try.func56, Try.ntmps56
    go_wp2_with (first | (go_at_call 110; refine (within_any _ _ _ _).mono ?_; rintro e w' ⟨rfl, rfl⟩) | (go_at_call 138; refine (oct_any _ _ (by omega)).mono ?_; rintro e w' ⟨rfl, rfl⟩))
    go_ret2
    exact ⟨by simp [fifthA, fifthC, h], rfl⟩

/-- FifthSteps: the value and the code. -/
def stepsA (n : Int) : Int := if inR n 1 19 = true then ((octv (2 * n).toNat : Int) + 1) / 2 else 0
def stepsC (n : Int) : Int := if inR n 1 19 = true then 0 else 2
theorem sFifthSteps_any (n : Int) (w : World) :
    Calls Try.prog 60 #[.int .i64 n] w fun e w' => e = .returned (.tuple #[.int .i64 (stepsA n), .int .i64 (stepsC n)]) ∧ w = w' := by
  cases h : inR n 1 19
  · go_enter Try.func60, Try.ntmps60
    go_wp2_with (go_at_call 115; refine (l00In_any _ _ _ _).mono ?_; rintro e w' ⟨rfl, rfl⟩)
    go_ret2
    exact ⟨by simp [stepsA, stepsC, h], rfl⟩
  · obtain ⟨h0, h1⟩ := inR_true.1 h
    obtain ⟨m, hm⟩ := Int.eq_ofNat_of_zero_le (a := 2 * n) (by omega)
    have hm' := octv_le (f := m) (by omega)
    have e1 : stepsA n = ((octv m : Int) + 1) / 2 := by simp [stepsA, h, hm]
    have e2 : stepsC n = 0 := by simp [stepsC, h]
    rw [e1, e2]
    clear e1 e2
    have HM := Lib.hid hm
    clear hm
    go_enter Try.func60, Try.ntmps60
    go_wp2_with (go_at_call 115; refine (l00In_any _ _ _ _).mono ?_; rintro e w' ⟨rfl, rfl⟩)
    rw [HM.out]
    refine (l25Octaves_any _ _ (by have := HM.out; omega)).mono ?_
    rintro e w' ⟨rfl, rfl⟩
    go_wp2
    go_ret2
    exact ⟨rfl, rfl⟩
theorem iFifthSteps_any (n : Int) (w : World) :
    Calls Try.prog 59 #[.int .i64 n] w fun e w' => e = .returned (.tuple #[.int .i64 (stepsA n), .int .i64 (stepsC n)]) ∧ w = w' := by
  cases h : inR n 1 19
  · go_enter Try.func59, Try.ntmps59
    go_wp2_with (go_at_call 110; refine (within_any _ _ _ _).mono ?_; rintro e w' ⟨rfl, rfl⟩)
    go_ret2
    exact ⟨by simp [stepsA, stepsC, h], rfl⟩
  · obtain ⟨h0, h1⟩ := inR_true.1 h
    obtain ⟨m, hm⟩ := Int.eq_ofNat_of_zero_le (a := 2 * n) (by omega)
    have hm' := octv_le (f := m) (by omega)
    have e1 : stepsA n = ((octv m : Int) + 1) / 2 := by simp [stepsA, h, hm]
    have e2 : stepsC n = 0 := by simp [stepsC, h]
    rw [e1, e2]
    clear e1 e2
    have HM := Lib.hid hm
    clear hm
    go_enter Try.func59, Try.ntmps59
    go_wp2_with (go_at_call 110; refine (within_any _ _ _ _).mono ?_; rintro e w' ⟨rfl, rfl⟩)
    rw [HM.out]
    refine (oct_any _ _ (by have := HM.out; omega)).mono ?_
    rintro e w' ⟨rfl, rfl⟩
    go_wp2
    go_ret2
    exact ⟨rfl, rfl⟩
end Go.Proofs.Ytdjnblkgeaphmaa
