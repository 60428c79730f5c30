/- Scales: what the statement asks of the numbers; both walks of ScaleNotes and StepSizes. No condition but those that each theorem names. -/
import Derived.Test.YtdjnblkgeaphmaaScaleSW
import Derived.Test.YtdjnblkgeaphmaaScaleIW
import Derived.Test.YtdjnblkgeaphmaaStepSW
import Derived.Test.YtdjnblkgeaphmaaStepIW
import Derived.Test.YtdjnblkgeaphmaaCommaW
import Derived.Test.YtdjnblkgeaphmaaRatioW
import Derived.Test.YtdjnblkgeaphmaaOctW
namespace Go.Proofs.Ytdjnblkgeaphmaa
open Go.RowKit Go.Sort

theorem cntS_bd {n : Nat} (h1 : 1 ≤ n) (h2 : n ≤ 40) : 1 ≤ cntS n ∧ cntS n ≤ 3 := by
  obtain ⟨m, rfl⟩ : ∃ m, n = m + 1 := ⟨n - 1, by omega⟩
  have := all40_of (p := fun m => decide (1 ≤ cntS (m + 1) ∧ cntS (m + 1) ≤ 3)) (by decide +kernel) (show m ≤ 39 by omega)
  exact of_decide_eq_true this
theorem comm_bd {f : Int} (h : commC f = 0) : 1 ≤ commD f ∧ commD f ≤ 4611686018427387903 ∧ commD f ≤ commN f ∧ commN f < 2 * commD f := by
  cases hr : inR f 0 39
  · unfold commC at h; rw [hr] at h; simp at h
  · obtain ⟨h0, h1⟩ := inR_true.1 hr
    obtain ⟨m, rfl⟩ := Int.eq_ofNat_of_zero_le h0
    have := all40_of (p := fun m => decide (commC (m : Int) = 0 → 1 ≤ commD (m : Int) ∧ commD (m : Int) ≤ 4611686018427387903 ∧ commD (m : Int) ≤ commN (m : Int) ∧ commN (m : Int) < 2 * commD (m : Int))) (by decide +kernel) (show m ≤ 39 by omega)
    exact of_decide_eq_true this h
theorem stepsA_bd {n : Int} (h : stepsC n = 0) : 0 ≤ stepsA n ∧ stepsA n ≤ n := by
  cases hr : inR n 1 19
  · unfold stepsC at h; rw [hr] at h; simp at h
  · obtain ⟨h0, h1⟩ := inR_true.1 hr
    obtain ⟨m, rfl⟩ := Int.eq_ofNat_of_zero_le (show 0 ≤ n by omega)
    have := all40_of (p := fun m => decide (m ≤ 19 → 0 ≤ stepsA (m : Int) ∧ stepsA (m : Int) ≤ (m : Int))) (by decide +kernel) (show m ≤ 39 by omega)
    exact of_decide_eq_true this (by omega)
theorem ratA_bd {s n d : Int} (h : ratC s n d = 0) : 0 ≤ ratA s n d ∧ ratA s n d ≤ s := by
  obtain ⟨_, s1, s2, dn, n2, n20, d1⟩ := ratC_zero h
  unfold ratA
  rw [if_pos h]
  obtain ⟨N, rfl⟩ := Int.eq_ofNat_of_zero_le (a := n) (by omega)
  obtain ⟨D, rfl⟩ := Int.eq_ofNat_of_zero_le (a := d) (by omega)
  obtain ⟨S, rfl⟩ := Int.eq_ofNat_of_zero_le (a := s) (by omega)
  have := ratK_le (N := N) (D := D) (s := S) (by omega) (by omega) (by omega)
  simp only [Int.toNat_natCast]
  omega

def scX (n : Int) : List Int := if inR n 1 40 = true then srtI n.toNat else []
def scC (n : Int) : Int := if inR n 1 40 = true then 0 else 2
theorem scX_len (n : Int) : (scX n).length ≤ 1000000 := by
  unfold scX
  split
  · rename_i h
    have := inR_true.1 h
    rw [srtI_len (by omega)]
    omega
  · simp
theorem iScaleNotes_any (n : Int) (w : World) : Calls Try.prog 47 #[.int .i64 n] w (RetInts w (scX n) (scC n)) := by
  cases h : inR n 1 40
  · have e1 : scX n = [] := by simp [scX, h]
    have e2 : scC n = 2 := by simp [scC, h]
    rw [e1, e2]
    clear e1 e2
    go_enter Try.func47, Try.ntmps47
    go_wp2_with (go_at_call 110; refine (within_any _ _ _ _).mono ?_; rintro e w' ⟨rfl, rfl⟩)
    go_ret2
    exact ⟨none, 0, rfl, fun h => absurd h (by simp), Below.refl _ _⟩
  · obtain ⟨h0, h1'⟩ := inR_true.1 h
    obtain ⟨m, rfl⟩ := Int.eq_ofNat_of_zero_le (show 0 ≤ n by omega)
    have h1 : 1 ≤ m := by omega
    have h2 : m ≤ 40 := by omega
    have e1 : scX m = srtI m := by simp [scX, h]
    have e2 : scC m = 0 := by simp [scC, h]
    rw [e1, e2]
    clear e1 e2
    go_enter Try.func47, Try.ntmps47
    go_wp2_with (first | (go_at_call 110; refine (within_any _ _ _ _).mono ?_; rintro e w' ⟨rfl, rfl⟩) | (go_at_call 133; refine (scaleNotes_any _ _ h1 h2).mono ?_; rintro e w1 ⟨A, c, rfl, hw, hb⟩))
    go_ret2
    exact ⟨A, c, rfl, hw, hb⟩
theorem sScaleNotes_any (n : Int) (w : World) : Calls Try.prog 48 #[.int .i64 n] w (RetInts w (scX n) (scC n)) := by
  cases h : inR n 1 40
  · have e1 : scX n = [] := by simp [scX, h]
    have e2 : scC n = 2 := by simp [scC, h]
    rw [e1, e2]
    clear e1 e2
    go_enter Try.func48, Try.ntmps48
    go_wp2_with (go_at_call 115; refine (l00In_any _ _ _ _).mono ?_; rintro e w' ⟨rfl, rfl⟩)
    go_ret2
    exact ⟨none, 0, rfl, fun h => absurd h (by simp), Below.refl _ _⟩
  · obtain ⟨h0, h1'⟩ := inR_true.1 h
    obtain ⟨m, rfl⟩ := Int.eq_ofNat_of_zero_le (show 0 ≤ n by omega)
    have h1 : 1 ≤ m := by omega
    have h2 : m ≤ 40 := by omega
    have e1 : scX m = srtI m := by simp [scX, h]
    have e2 : scC m = 0 := by simp [scC, h]
    rw [e1, e2]
    clear e1 e2
    go_enter Try.func48, Try.ntmps48
    go_wp2_with (first | (go_at_call 115; refine (l00In_any _ _ _ _).mono ?_; rintro e w' ⟨rfl, rfl⟩) | (go_at_call 134; refine (l25Notes_any _ _ h2).mono ?_; rintro e w1 ⟨A, c, rfl, hw, hb⟩))
    go_ret2
    exact ⟨A, c, rfl, hw, hb⟩
def stN (n : Int) : Int := if inR n 1 40 = true then (cntS n.toNat : Int) else 0
def stC (n : Int) : Int := if inR n 1 40 = true then 0 else 2
theorem stN_bd {n : Int} (h : stC n = 0) : 1 ≤ stN n ∧ stN n ≤ 3 := by
  unfold stC at h
  split at h
  · rename_i hr
    obtain ⟨h0, h1⟩ := inR_true.1 hr
    have := cntS_bd (n := n.toNat) (by omega) (by omega)
    unfold stN
    rw [if_pos hr]
    omega
  · cases h
theorem iStepSizes_any (n : Int) (w : World) : Calls Try.prog 50 #[.int .i64 n] w fun e w' => e = .returned (.tuple #[.int .i64 (stN n), .int .i64 (stC n)]) ∧ Below w.heap.size w w' := by
  cases h : inR n 1 40
  · have e1 : stN n = 0 := by simp [stN, h]
    have e2 : stC n = 2 := by simp [stC, h]
    rw [e1, e2]
    clear e1 e2
    go_enter Try.func50, Try.ntmps50
    go_wp2_with (go_at_call 110; refine (within_any _ _ _ _).mono ?_; rintro e w' ⟨rfl, rfl⟩)
    go_ret2
    exact ⟨rfl, Below.refl _ _⟩
  · obtain ⟨h0, h1'⟩ := inR_true.1 h
    obtain ⟨m, rfl⟩ := Int.eq_ofNat_of_zero_le (show 0 ≤ n by omega)
    have h1 : 1 ≤ m := by omega
    have h2 : m ≤ 40 := by omega
    have e1 : stN m = (cntS m : Int) := by simp [stN, h]
    have e2 : stC m = 0 := by simp [stC, h]
    rw [e1, e2]
    have hg := iStep_good m w h1 h2
    rwa [cnt_same h1 h2] at hg
theorem sStepSizes_any (n : Int) (w : World) : Calls Try.prog 51 #[.int .i64 n] w fun e w' => e = .returned (.tuple #[.int .i64 (stN n), .int .i64 (stC n)]) ∧ Below w.heap.size w w' := by
  cases h : inR n 1 40
  · have e1 : stN n = 0 := by simp [stN, h]
    have e2 : stC n = 2 := by simp [stC, h]
    rw [e1, e2]
    clear e1 e2
    go_enter Try.func51, Try.ntmps51
    go_wp2_with (go_at_call 115; refine (l00In_any _ _ _ _).mono ?_; rintro e w' ⟨rfl, rfl⟩)
    go_ret2
    exact ⟨rfl, Below.refl _ _⟩
  · obtain ⟨h0, h1'⟩ := inR_true.1 h
    obtain ⟨m, rfl⟩ := Int.eq_ofNat_of_zero_le (show 0 ≤ n by omega)
    have h1 : 1 ≤ m := by omega
    have h2 : m ≤ 40 := by omega
    have e1 : stN m = (cntS m : Int) := by simp [stN, h]
    have e2 : stC m = 0 := by simp [stC, h]
    rw [e1, e2]
    have hg := sStep_good m w h1 h2
    rwa [(rfl : cntS m = cntS m)] at hg
end Go.Proofs.Ytdjnblkgeaphmaa
