/- CommaOf: both walks. No condition but those that each theorem names. -/
import Derived.Test.YtdjnblkgeaphmaaFracW
import Derived.Test.YtdjnblkgeaphmaaGear
namespace Go.Proofs.Ytdjnblkgeaphmaa
open Go.RowKit Go.Sort

def commT (f : Int) : Int := pw 3 f.toNat
def commB (f : Int) : Int := pw 2 (f.toNat + octv f.toNat)
def commN (f : Int) : Int := if inR f 0 39 = true then (if fracOk (commT f) (commB f) = true then commT f else 0) else 0
def commD (f : Int) : Int := if inR f 0 39 = true then (if fracOk (commT f) (commB f) = true then commB f else 0) else 0
def commC (f : Int) : Int := if inR f 0 39 = true then (if fracOk (commT f) (commB f) = true then 0 else 5) else 2

theorem pw2_bd {k : Nat} (h : k ≤ 61) : 0 ≤ pw 2 k ∧ pw 2 k ≤ 9223372036854775807 := by
  have h1 : (List.range 62).all (fun k => decide (0 ≤ pw 2 k ∧ pw 2 k ≤ 9223372036854775807)) = true := by decide +kernel
  exact of_decide_eq_true (List.all_eq_true.1 h1 k (List.mem_range.2 (by omega)))
theorem pw2_pos (k : Nat) : 1 ≤ pw 2 k := by
  induction k with
  | zero => decide
  | succ k ih => rw [pw]; omega
theorem pw2_pow (k : Nat) : pw 2 k = 2 ^ k := by
  induction k with
  | zero => rfl
  | succ k ih => rw [pw, ih, Int.pow_succ]
theorem comm_full {f : Nat} (h : f ≤ 39) : qN (pw 3 f) (pw 2 (f + octv f)) = pw 3 f ∧ qD (pw 3 f) (pw 2 (f + octv f)) = pw 2 (f + octv f) := by
  have h1 := all40_of (p := fun f => decide (qN (pw 3 f) (pw 2 (f + octv f)) = pw 3 f ∧ qD (pw 3 f) (pw 2 (f + octv f)) = pw 2 (f + octv f))) (by decide +kernel) h
  exact of_decide_eq_true h1

set_option maxHeartbeats 1000000 in
theorem iCommaOf_any (f : Int) (w : World) :
    Calls Try.prog 53 #[.int .i64 f] w fun e w' => e = .returned (.tuple #[fracV (commN f) (commD f), .int .i64 (commC f)]) ∧ Below w.heap.size w w' := by
  cases h : inR f 0 39
  · have e1 : commN f = 0 := by simp [commN, h]
    have e2 : commD f = 0 := by simp [commD, h]
    have e3 : commC f = 2 := by simp [commC, h]
    rw [e1, e2, e3]
    clear e1 e2 e3
    go_enter Try.func53, Try.ntmps53
    go_wp2_with (go_at_call 110; refine (within_is h _).mono ?_; rintro e w' ⟨rfl, rfl⟩)
    exact bodyPost_ret (v := .tuple #[fracV 0 0, .int .i64 2]) (by simp [results, Try.results53, go_sem]; done) rfl ⟨rfl, ext_alloc (Below.refl _ _) _⟩
  · obtain ⟨f0, f1⟩ := inR_true.1 h
    obtain ⟨m, rfl⟩ := Int.eq_ofNat_of_zero_le f0
    have ho := octv_le (f := m) (by omega)
    obtain ⟨q1, q2⟩ := comm_full (f := m) (by omega)
    obtain ⟨t0, t1⟩ := pw3_bd (k := m) (by omega)
    obtain ⟨b0, b1⟩ := pw2_bd (k := m + octv m) (by omega)
    have b2 := pw2_pos (m + octv m)
    have HF := Lib.hid (plainOf_any (pw 3 m) (pw 2 (m + octv m)) · (by omega) (by omega) (by omega) (by omega) (by omega))
    have e1 : fullN (pw 3 m) (pw 2 (m + octv m)) = commN m := by rw [fullN, q1, q2, commN, if_pos h]; rfl
    have e2 : fullD (pw 3 m) (pw 2 (m + octv m)) = commD m := by rw [fullD, q1, q2, commD, if_pos h]; rfl
    have e3 : fullC (pw 3 m) (pw 2 (m + octv m)) = commC m := by rw [fullC, q1, q2, commC, if_pos h]; rfl
    rw [e1, e2, e3] at HF
    generalize commN m = cn at *
    generalize commD m = cd at *
    generalize commC m = cc at *
    have HP3 := Lib.hid (powerOf_any 3 m · (by omega) (fun k hk => pw3_bd (by omega)))
    have HP2 := Lib.hid (powerOf_any 2 (m + octv m) · (by omega) (fun k hk => pw2_bd (by omega)))
    rw [Int.natCast_add] at HP2
    have HO := Lib.hid (oct_any m · (by omega))
    clear e1 e2 e3 q1 q2 t0 t1 b0 b1 b2
    go_enter Try.func53, Try.ntmps53
    go_wp2_with (go_at_call 110; refine (within_is h _).mono ?_; rintro e w' ⟨rfl, rfl⟩)
    refine (HP3.out _).mono ?_
    rintro e w' ⟨rfl, rfl⟩
    go_wp2_with fail
    refine (HO.out _).mono ?_
    rintro e w' ⟨rfl, rfl⟩
    go_wp2_with fail
    refine (HP2.out _).mono ?_
    rintro e w' ⟨rfl, rfl⟩
    go_wp2_with fail
    refine (HF.out _).mono ?_
    rintro e w1 ⟨rfl, hb1⟩
    obtain ⟨hc1, hf1⟩ := bcell hb1
    have hz1 : w.heap.size < w1.heap.size := by have := hb1.size; simp at this; omega
    have m0 : w1.cell? ⟨w.heap.size, 0, none⟩ = some (.int .i64 0) := (hc1 _ _ (by simp)).trans (cell_one _ _ _ _)
    have m1 : w1.cell? ⟨w.heap.size, 1, none⟩ = some (.int .i64 0) := (hc1 _ _ (by simp)).trans (cell_one _ _ _ _)
    obtain ⟨s0, s1⟩ := set_two m0 m1
    go_wp2
    exact bodyPost_ret (v := .tuple #[fracV cn cd, .int .i64 cc]) (by simp [results, Try.results53, go_sem, s0, s1]; done) rfl ⟨rfl, ext_set (ext_set (ext_trans (ext_alloc (Below.refl _ _) _) hb1) (Nat.le_refl _) _) (Nat.le_refl _) _⟩

set_option maxHeartbeats 1000000 in
theorem sCommaOf_any (f : Int) (w : World) :
    Calls Try.prog 54 #[.int .i64 f] w fun e w' => e = .returned (.tuple #[fracV (commN f) (commD f), .int .i64 (commC f)]) ∧ Below w.heap.size w w' := by
  cases h : inR f 0 39
  · have e1 : commN f = 0 := by simp [commN, h]
    have e2 : commD f = 0 := by simp [commD, h]
    have e3 : commC f = 2 := by simp [commC, h]
    rw [e1, e2, e3]
    clear e1 e2 e3
    go_enter Try.func54, Try.ntmps54
    go_wp2_with (go_at_call 115; refine (l00In_is h _).mono ?_; rintro e w' ⟨rfl, rfl⟩)
    exact bodyPost_ret (v := .tuple #[fracV 0 0, .int .i64 2]) (by simp [results, Try.results54, go_sem]; done) rfl ⟨rfl, ext_alloc (Below.refl _ _) _⟩
  · obtain ⟨f0, f1⟩ := inR_true.1 h
    obtain ⟨m, rfl⟩ := Int.eq_ofNat_of_zero_le f0
    have ho := octv_le (f := m) (by omega)
    obtain ⟨b0, b1⟩ := pw2_bd (k := m + octv m) (by omega)
    have e1 : commN m = if fracOk (pw 3 m) (pw 2 (m + octv m)) = true then pw 3 m else 0 := by rw [commN, if_pos h]; rfl
    have e2 : commD m = if fracOk (pw 3 m) (pw 2 (m + octv m)) = true then pw 2 (m + octv m) else 0 := by rw [commD, if_pos h]; rfl
    have e3 : commC m = if fracOk (pw 3 m) (pw 2 (m + octv m)) = true then 0 else 5 := by rw [commC, if_pos h]; rfl
    rw [e1, e2, e3]
    have HP3 := Lib.hid (l25Power_any m · (by omega))
    have HO := Lib.hid (l25Octaves_any m · (by omega))
    have hs0 : (0 : Int) ≤ (m : Int) + (octv m : Int) := by omega
    have hs1 : (m : Int) + (octv m : Int) ≤ 64 := by omega
    have hsh : wrap64 (2 ^ (m + octv m)) = pw 2 (m + octv m) := by rw [← pw2_pow]; exact IntWalk.wrap64_in _ (by omega)
    have HSH := Lib.hid hsh
    clear e1 e2 e3 b0 b1 hsh
    generalize pw 3 m = a at *
    cases hok : fracOk a (pw 2 (m + octv m))
    all_goals
      simp only [Bool.false_eq_true, if_false, if_true]
      go_enter Try.func54, Try.ntmps54
      go_wp2_with (go_at_call 115; refine (l00In_is h _).mono ?_; rintro e w' ⟨rfl, rfl⟩)
      refine (HP3.out _).mono ?_
      rintro e w' ⟨rfl, rfl⟩
      go_wp2_with fail
      refine (HO.out _).mono ?_
      rintro e w' ⟨rfl, rfl⟩
      go_wp2_with fail
      rw [HSH.out]
      refine (l02Ok_any a (pw 2 (m + octv m)) _).mono ?_
      rintro e w1 ⟨rfl, hb1⟩
      obtain ⟨hc1, hf1⟩ := bcell hb1
      have hz1 : w.heap.size < w1.heap.size := by have := hb1.size; simp at this; omega
      have hz2 : w.heap.size + 1 < w1.heap.size := by have := hb1.size; simp at this; omega
      have m0 : w1.cell? ⟨w.heap.size, 0, none⟩ = some (.int .i64 0) := (hc1 _ _ (by simp only [World.size_alloc]; omega)).trans (cell_two_fst _ _ _ _ _ _)
      have m1 : w1.cell? ⟨w.heap.size, 1, none⟩ = some (.int .i64 0) := (hc1 _ _ (by simp only [World.size_alloc]; omega)).trans (cell_two_fst _ _ _ _ _ _)
      obtain ⟨s0, s1⟩ := set_two m0 m1
      have E1 : Below w.heap.size w w1 := ext_trans (ext_alloc (ext_alloc (Below.refl _ _) _) _) hb1
      go_wp2
      first
        | exact bodyPost_ret (v := .tuple #[fracV 0 0, .int .i64 5]) (by simp [results, Try.results54, go_sem, s0, s1]; done) rfl ⟨rfl, ext_set (ext_set E1 (Nat.le_refl _) _) (Nat.le_refl _) _⟩
        | exact bodyPost_ret (v := .tuple #[fracV a (pw 2 (m + octv m)), .int .i64 0]) (by simp [results, Try.results54, go_sem, s0, s1]; done) rfl ⟨rfl, ext_set (ext_set E1 (Nat.le_refl _) _) (Nat.le_refl _) _⟩
end Go.Proofs.Ytdjnblkgeaphmaa
