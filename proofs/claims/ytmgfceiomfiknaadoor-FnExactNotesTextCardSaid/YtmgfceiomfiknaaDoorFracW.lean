/- Fractions: absolute values, greatest common divisors, plain fractions. No condition but those that each theorem names. -/
import Derived.Test.YtmgfceiomfiknaaDoorBase
import Derived.RegionTactic
namespace Go.Proofs.YtmgfceiomfiknaaDoor
open Go.RowKit Go.Sort

@[reducible] def fracV (n d : Int) : Value := .agg #[.int .i64 n, .int .i64 d]
theorem fracF0 (a b : Int) (w : World) : (Instr.field 57 (.agg #[.int .i64 a, .int .i64 b]) 0).run Tryd.prog w = .ok (.int .i64 a) w := by kernel_rfl
theorem fracF1 (a b : Int) (w : World) : (Instr.field 57 (.agg #[.int .i64 a, .int .i64 b]) 1).run Tryd.prog w = .ok (.int .i64 b) w := by kernel_rfl
/-- A product of bounded numbers. -/
theorem mul_bd {x y M N : Int} (hM : 0 ≤ M) (h2 : x ≤ M) (hN : 0 ≤ N) (h4 : y ≤ N) (h1 : -M ≤ x) (h3 : -N ≤ y) : -(M * N) ≤ x * y ∧ x * y ≤ M * N := by
  have a : (x * y).natAbs ≤ (M * N).natAbs := by
    rw [Int.natAbs_mul, Int.natAbs_mul]
    exact Nat.mul_le_mul (by omega) (by omega)
  have p : 0 ≤ M * N := Int.mul_nonneg hM hN
  omega
def fracOk (n d : Int) : Bool := inR d 1 1000000000 && inR n (-1000000000) 1000000000 && decide (Int.gcd n d = 1)
theorem fracOk_true {n d : Int} : fracOk n d = true ↔ 1 ≤ d ∧ d ≤ 1000000000 ∧ -1000000000 ≤ n ∧ n ≤ 1000000000 ∧ Int.gcd n d = 1 := by
  unfold fracOk; rw [Bool.and_eq_true, Bool.and_eq_true, inR_true, inR_true, decide_eq_true_iff]; omega

theorem abs_any (n : Int) (w : World) (h1 : -9223372036854775807 ≤ n) (h2 : n ≤ 9223372036854775807) :
    Calls Tryd.prog 108 #[.int .i64 n] w fun e w' => e = .returned (.int .i64 (n.natAbs : Int)) ∧ w = w' := by
  by_cases h : n < 0
  all_goals
    go_enter Tryd.func108, Tryd.ntmps108
    go_wp2
    go_ret
    exact ⟨ret_int (by omega), rfl⟩
theorem l02Size_any (n : Int) (w : World) (h1 : -9223372036854775807 ≤ n) (h2 : n ≤ 9223372036854775807) :
    Calls Tryd.prog 104 #[.int .i64 n] w fun e w' => e = .returned (.int .i64 (n.natAbs : Int)) ∧ w = w' := by
  by_cases h : n < 0
  all_goals
    go_enter Tryd.func104, Tryd.ntmps104
    go_wp2
    go_ret
    exact ⟨ret_int (by omega), rfl⟩

theorem beq_one (x : Nat) : ((x : Int) == 1) = decide (x = 1) := by rw [Bool.eq_iff_iff]; simp; omega
theorem gcd_step (x y : Nat) (_ : 0 < y) : Nat.gcd y (x % y) = Nat.gcd x y := by
  rw [Nat.gcd_comm x y, Nat.gcd_rec y x, Nat.gcd_comm]

theorem gcd_any (a b : Int) (w : World) (a1 : -9223372036854775807 ≤ a) (a2 : a ≤ 9223372036854775807) (b1 : -9223372036854775807 ≤ b) (b2 : b ≤ 9223372036854775807) :
    Calls Tryd.prog 79 #[.int .i64 a, .int .i64 b] w fun e w' => e = .returned (.int .i64 (Int.gcd a b : Int)) ∧ Below w.heap.size w w' := by
  go_enter Tryd.func79, Tryd.ntmps79
  go_wp2_with fail
  refine (abs_any a _ a1 a2).mono ?_
  rintro e w' ⟨rfl, rfl⟩
  go_wp2_with fail
  refine (abs_any b _ b1 b2).mono ?_
  rintro e w' ⟨rfl, rfl⟩
  go_wp2_with fail
  go_loopw [0, 1] (fun s t wr => ∃ x y : Nat, x ≤ 9223372036854775807 ∧ y ≤ 9223372036854775807 ∧ Hid (Nat.gcd x y = Int.gcd a b) ∧ s = .int .i64 x ∧ t = .int .i64 y ∧ ∃ n, wr = w.drewN n) (fun _ t _ => (intOf t).toNat)
  case atStart => exact ⟨a.natAbs, b.natAbs, by omega, by omega, rfl, rfl, rfl, 0, rfl⟩
  case round =>
    obtain ⟨x, y, hx, hy, HG, rfl, rfl, nn, rfl⟩ := hrel
    by_cases h0 : 0 < y
    · have e1 : ((y : Int) != 0) = true := by rw [bne_iff_ne]; omega
      have e2 : ((y : Int) == 0) = false := by simp; omega
      have hlt : x % y < y := Nat.mod_lt _ h0
      have HS := Lib.hid (gcd_step x y h0)
      go_wp2_with fail
      go_quiet (fail)
      go_wp2
      go_roundw
      case rel => exact ⟨y, x % y, hy, by omega, by have h := HS.out; have g := HG.out; unfold Hid; omega, rfl, val_int (by simp), _, World.drewN_drewN _ _ _⟩
      case measure =>
        have : (intOf (.int .i64 ((x : Int) % y))).toNat = x % y := by simp only [intOf]; omega
        simp only [intOf] at this ⊢
        omega
    · obtain rfl : y = 0 := by omega
      have e1 : (((0 : Nat) : Int) != 0) = false := by simp
      go_wp2
      go_ret
      exact ⟨ret_int (by have h := HG.out; simp at h; omega), ⟨rfl, rfl, rfl, Nat.le_refl _, fun _ _ => rfl⟩⟩

theorem l02Gcd_any (a b : Nat) (w : World) (ha : a ≤ 9223372036854775807) (hb : b ≤ 9223372036854775807) :
    Calls Tryd.prog 103 #[.int .i64 a, .int .i64 b] w fun e w' => e = .returned (.int .i64 (Nat.gcd a b : Int)) ∧ w = w' := by
  go_enter Tryd.func103, Tryd.ntmps103
  go_wp2_with fail
  go_loop [0, 1] (fun s t => ∃ x y : Nat, x ≤ 9223372036854775807 ∧ y ≤ 9223372036854775807 ∧ Hid (Nat.gcd x y = Nat.gcd a b) ∧ s = .int .i64 x ∧ t = .int .i64 y) (fun _ t => (intOf t).toNat)
  case atStart => exact ⟨a, b, ha, hb, rfl, rfl, rfl⟩
  case round =>
    obtain ⟨x, y, hx, hy, HG, rfl, rfl⟩ := hrel
    by_cases h0 : 0 < y
    · have e1 : ((y : Int) != 0) = true := by rw [bne_iff_ne]; omega
      have e2 : ((y : Int) == 0) = false := by simp; omega
      have hlt : x % y < y := Nat.mod_lt _ h0
      have HS := Lib.hid (gcd_step x y h0)
      go_wp2
      go_round
      case rel => exact ⟨y, x % y, hy, by omega, by have h := HS.out; have g := HG.out; unfold Hid; omega, rfl, val_int (by simp)⟩
      case measure =>
        have : (intOf (.int .i64 ((x : Int) % y))).toNat = x % y := by simp only [intOf]; omega
        simp only [intOf] at this ⊢
        omega
    · obtain rfl : y = 0 := by omega
      have e1 : (((0 : Nat) : Int) != 0) = false := by simp
      go_wp2
      go_ret
      exact ⟨ret_int (by have h := HG.out; simp at h; omega), rfl⟩

theorem ValidFraction_any (n d : Int) (w : World) :
    Calls Tryd.prog 54 #[fracV n d] w fun e w' => e = .returned (.bool (fracOk n d)) ∧ Below w.heap.size w w' := by
  unfold fracV fracOk
  cases h1 : inR d 1 1000000000
  · go_enter Tryd.func54, Tryd.ntmps54
    go_wp2_with (go_at_call 43; refine (within_any _ _ _ _).mono ?_; rintro e w' ⟨rfl, rfl⟩)
    go_ret
    exact ⟨rfl, ext_alloc (Below.refl _ _) _⟩
  · obtain ⟨d1, d2⟩ := inR_true.1 h1
    cases h2 : inR n (-1000000000) 1000000000
    · go_enter Tryd.func54, Tryd.ntmps54
      go_wp2_with (go_at_call 43; refine (within_any _ _ _ _).mono ?_; rintro e w' ⟨rfl, rfl⟩)
      go_ret
      exact ⟨rfl, ext_alloc (Below.refl _ _) _⟩
    · obtain ⟨n1, n2⟩ := inR_true.1 h2
      go_enter Tryd.func54, Tryd.ntmps54
      go_wp2_with (first | (go_at_call 43; refine (within_any _ _ _ _).mono ?_; rintro e w' ⟨rfl, rfl⟩) | (go_at_call 79; refine (gcd_any _ _ _ (by omega) (by omega) (by omega) (by omega)).mono ?_; rintro e w1 ⟨rfl, hb1⟩))
      go_ret
      refine ⟨ret_bool ?_, ext_trans (ext_alloc (Below.refl _ _) _) hb1⟩
      rw [Bool.eq_iff_iff]; simp; omega

theorem l02Ok_any (n d : Int) (w : World) :
    Calls Tryd.prog 75 #[fracV n d] w fun e w' => e = .returned (.bool (fracOk n d)) ∧ Below w.heap.size w w' := by
  unfold fracV fracOk
  cases h2 : inR n (-1000000000) 1000000000
  · rw [Bool.and_false, Bool.false_and]
    go_enter Tryd.func75, Tryd.ntmps75
    go_wp2
    generalize hW : w.alloc _ = W
    have hb0 : Below w.heap.size w W := by rw [← hW]; exact ext_alloc (Below.refl _ _) _
    have k0 : ∀ d' os, (grow (redrawn W d') os).cell? ⟨w.heap.size, 0, none⟩ = some (.int .i64 n) := cell_regrown (by rw [← hW, cell_one]; rfl)
    have k1 : ∀ d' os, (grow (redrawn W d') os).cell? ⟨w.heap.size, 1, none⟩ = some (.int .i64 d) := cell_regrown (by rw [← hW, cell_one]; rfl)
    clear hW
    refine wp_region_quiet_below (by kernel_rfl) (by kernel_rfl) ?_
    repeat (first | go_big_quiet_step ((with_reducible exact regrown_same (l00In_is h2 _))) | quiet_step ((with_reducible exact regrown_same (l00In_is h2 _))))
    refine wpQuiet_nil ?_
    intro _ hw'
    obtain ⟨⟨dq, oq⟩, hw''⟩ := hw'
    subst hw''
    go_wp2
    go_ret
    exact ⟨rfl, ext_trans hb0 (below_regrown W dq oq)⟩
  · obtain ⟨n1, n2⟩ := inR_true.1 h2
    cases h1 : inR d 1 1000000000
    · rw [Bool.false_and, Bool.false_and]
      go_enter Tryd.func75, Tryd.ntmps75
      go_wp2
      generalize hW : w.alloc _ = W
      have hb0 : Below w.heap.size w W := by rw [← hW]; exact ext_alloc (Below.refl _ _) _
      have k0 : ∀ d' os, (grow (redrawn W d') os).cell? ⟨w.heap.size, 0, none⟩ = some (.int .i64 n) := cell_regrown (by rw [← hW, cell_one]; rfl)
      have k1 : ∀ d' os, (grow (redrawn W d') os).cell? ⟨w.heap.size, 1, none⟩ = some (.int .i64 d) := cell_regrown (by rw [← hW, cell_one]; rfl)
      clear hW
      refine wp_region_quiet_below (by kernel_rfl) (by kernel_rfl) ?_
      repeat (first | go_big_quiet_step ((first | (with_reducible exact regrown_same (l00In_is h2 _)) | (with_reducible exact regrown_same (l00In_is h1 _)))) | quiet_step ((first | (with_reducible exact regrown_same (l00In_is h2 _)) | (with_reducible exact regrown_same (l00In_is h1 _)))))
      refine wpQuiet_nil ?_
      intro _ hw'
      obtain ⟨⟨dq, oq⟩, hw''⟩ := hw'
      subst hw''
      go_wp2
      go_ret
      exact ⟨rfl, ext_trans hb0 (below_regrown W dq oq)⟩
    · obtain ⟨d1, d2⟩ := inR_true.1 h1
      obtain ⟨m, rfl⟩ := Int.eq_ofNat_of_zero_le (a := d) (by omega)
      go_enter Tryd.func75, Tryd.ntmps75
      go_wp2
      generalize hW : w.alloc _ = W
      have hb0 : Below w.heap.size w W := by rw [← hW]; exact ext_alloc (Below.refl _ _) _
      have k0 : ∀ d' os, (grow (redrawn W d') os).cell? ⟨w.heap.size, 0, none⟩ = some (.int .i64 n) := cell_regrown (by rw [← hW, cell_one]; rfl)
      have k1 : ∀ d' os, (grow (redrawn W d') os).cell? ⟨w.heap.size, 1, none⟩ = some (.int .i64 m) := cell_regrown (by rw [← hW, cell_one]; rfl)
      clear hW
      refine wp_region_quiet_below (by kernel_rfl) (by kernel_rfl) ?_
      repeat (first | go_big_quiet_step ((first | (with_reducible exact regrown_same (l00In_is h2 _)) | (with_reducible exact regrown_same (l00In_is h1 _)) | (with_reducible exact regrown_same (l02Size_any n _ (by omega) (by omega))) | (with_reducible exact regrown_same (l02Gcd_any n.natAbs m _ (by omega) (by omega))))) | quiet_step ((first | (with_reducible exact regrown_same (l00In_is h2 _)) | (with_reducible exact regrown_same (l00In_is h1 _)) | (with_reducible exact regrown_same (l02Size_any n _ (by omega) (by omega))) | (with_reducible exact regrown_same (l02Gcd_any n.natAbs m _ (by omega) (by omega))))))
      refine wpQuiet_nil ?_
      intro _ hw'
      obtain ⟨⟨dq, oq⟩, hw''⟩ := hw'
      subst hw''
      go_wp2
      go_ret
      refine ⟨ret_bool ?_, ext_trans hb0 (below_regrown W dq oq)⟩
      exact (beq_one _).trans (Bool.true_and _).symm

/-- A fraction in lowest terms, its denominator positive. -/
def qN (n d : Int) : Int := (if d < 0 then -n else n) / (Int.gcd n d : Int)
def qD (n d : Int) : Int := (d.natAbs : Int) / (Int.gcd n d : Int)
def fullN (n d : Int) : Int := if fracOk (qN n d) (qD n d) = true then qN n d else 0
def fullD (n d : Int) : Int := if fracOk (qN n d) (qD n d) = true then qD n d else 0
def fullC (n d : Int) : Int := if fracOk (qN n d) (qD n d) = true then 0 else 5

theorem gcd_pos' {n d : Int} (hd : d ≠ 0) : 0 < (Int.gcd n d : Int) := by
  have : 0 < Int.gcd n d := Int.gcd_pos_of_ne_zero_right _ hd
  omega
theorem tdiv_gcd {n d : Int} : n.tdiv (Int.gcd n d : Int) = n / (Int.gcd n d : Int) ∧ d.tdiv (Int.gcd n d : Int) = d / (Int.gcd n d : Int) :=
  ⟨Int.tdiv_eq_ediv_of_dvd (Int.gcd_dvd_left ..), Int.tdiv_eq_ediv_of_dvd (Int.gcd_dvd_right ..)⟩
theorem ediv_bd {n g M : Int} (hg : 0 < g) (h1 : -M ≤ n) (h2 : n ≤ M) : -M ≤ n / g ∧ n / g ≤ M := by
  constructor
  · have : (-M) / g ≤ n / g := Int.ediv_le_ediv hg h1
    have h3 : -M ≤ (-M) / g := by
      rw [Int.le_ediv_iff_mul_le hg]
      have : M * 1 ≤ M * g := Int.mul_le_mul_of_nonneg_left (by omega) (by omega)
      rw [Int.neg_mul]; omega
    omega
  · have : n / g ≤ M / g := Int.ediv_le_ediv hg h2
    have := Int.ediv_le_self g (show 0 ≤ M by omega)
    omega

theorem toFraction_any (n d : Int) (w : World) :
    Calls Tryd.prog 51 #[fracV n d] w fun e w' => e = .returned (fracV n d) ∧ Below w.heap.size w w' := by
  unfold fracV
  go_enter Tryd.func51, Tryd.ntmps51
  go_wp2
  exact bodyPost_ret (v := .agg #[.int .i64 n, .int .i64 d]) (by simp [results, Tryd.results51, go_sem]) rfl ⟨rfl, ext_alloc (ext_alloc (ext_alloc (Below.refl _ _) _) _) _⟩

theorem eqFraction_any (n d : Int) (w : World) :
    Calls Tryd.prog 58 #[fracV n d, fracV n d] w fun e w' => e = .returned (.bool true) ∧ Below w.heap.size w w' := by
  unfold fracV
  go_enter Tryd.func58, Tryd.ntmps58
  go_wp2
  go_ret
  exact ⟨rfl, ext_alloc (ext_alloc (Below.refl _ _) _) _⟩
end Go.Proofs.YtmgfceiomfiknaaDoor
