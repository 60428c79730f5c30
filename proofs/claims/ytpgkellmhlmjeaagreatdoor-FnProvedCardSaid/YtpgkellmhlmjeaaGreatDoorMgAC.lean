/- Parts of the proof, merged: FracW DriftW ExpW ConvW DecNP. No condition but those that each theorem names. -/
import Derived.Test.YtpgkellmhlmjeaaGreatDoorMgAB
import Derived.RegionTactic
import Derived.Deep.RegionHeld3
import Derived.Deep.RegionWith
import Derived.Lib.ItoaNum
import Derived.Lib.ItoaLen
import Derived.Lib.ItoaMem
namespace Go.Proofs.YtpgkellmhlmjeaaGreatDoor
open Go.RowKit Go.Sort
@[reducible] def fracV (n d : Int) : Value := .agg #[.int .i64 n, .int .i64 d]
/-- A product of bounded numbers. -/
theorem mul_bd {x y M N : Int} (hM : 0 ≤ M) (h2 : x ≤ M) (hN : 0 ≤ N) (h4 : y ≤ N) (h1 : -M ≤ x) (h3 : -N ≤ y) : -(M * N) ≤ x * y ∧ x * y ≤ M * N := by
  have a : (x * y).natAbs ≤ (M * N).natAbs := by
    rw [Int.natAbs_mul, Int.natAbs_mul]
    exact Nat.mul_le_mul (by omega) (by omega)
  have p : 0 ≤ M * N := Int.mul_nonneg hM hN
  omega
def fracOk (n d : Int) : Bool := inR d 1 1000000000 && inR n (-1000000000) 1000000000 && decide (Int.gcd n d = 1)
theorem fracOk_true {n d : Int} : fracOk n d = true ↔ 1 ≤ d ∧ d ≤ 1000000000 ∧ -1000000000 ≤ n ∧ n ≤ 1000000000 ∧ Int.gcd n d = 1 := by
  unfold fracOk; rw [Bool.and_eq_true, Bool.and_eq_true, inR_true, inR_true, decide_eq_true_iff]; omega
theorem abs_any (n : Int) (w : World) (h1 : -9223372036854775807 ≤ n) (h2 : n ≤ 9223372036854775807) :
    Calls Tryz.prog 52 #[.int .i64 n] w fun e w' => e = .returned (.int .i64 (n.natAbs : Int)) ∧ w = w' := by
  by_cases h : n < 0
  all_goals
    go_enter Tryz.func52, Tryz.ntmps52
    go_wp2
    go_ret
    exact ⟨ret_int (by omega), rfl⟩
theorem l02Size_any (n : Int) (w : World) (h1 : -9223372036854775807 ≤ n) (h2 : n ≤ 9223372036854775807) :
    Calls Tryz.prog 97 #[.int .i64 n] w fun e w' => e = .returned (.int .i64 (n.natAbs : Int)) ∧ w = w' := by
  by_cases h : n < 0
  all_goals
    go_enter Tryz.func97, Tryz.ntmps97
    go_wp2
    go_ret
    exact ⟨ret_int (by omega), rfl⟩
theorem beq_one (x : Nat) : ((x : Int) == 1) = decide (x = 1) := by rw [Bool.eq_iff_iff]; simp; omega
theorem gcd_step (x y : Nat) (_ : 0 < y) : Nat.gcd y (x % y) = Nat.gcd x y := by
  rw [Nat.gcd_comm x y, Nat.gcd_rec y x, Nat.gcd_comm]
theorem gcd_any (a b : Int) (w : World) (a1 : -9223372036854775807 ≤ a) (a2 : a ≤ 9223372036854775807) (b1 : -9223372036854775807 ≤ b) (b2 : b ≤ 9223372036854775807) :
    Calls Tryz.prog 55 #[.int .i64 a, .int .i64 b] w fun e w' => e = .returned (.int .i64 (Int.gcd a b : Int)) ∧ Below w.heap.size w w' := by
  go_enter Tryz.func55, Tryz.ntmps55
  go_wp2_with fail
  refine (abs_any a _ a1 a2).mono ?_
  rintro e w' ⟨rfl, rfl⟩
  go_wp2_with fail
  refine (abs_any b _ b1 b2).mono ?_
  rintro e w' ⟨rfl, rfl⟩
  go_wp2_with fail
  go_loopw [0, 1] (fun s t wr => ∃ x y : Nat, x ≤ 9223372036854775807 ∧ y ≤ 9223372036854775807 ∧ Hid (Nat.gcd x y = Int.gcd a b) ∧ s = .int .i64 x ∧ t = .int .i64 y ∧ ∃ n, wr = w.drewN n) (fun _ t _ => (intOf t).toNat)
  case atStart => exact ⟨a.natAbs, b.natAbs, by omega, by omega, rfl, rfl, rfl, 0, rfl⟩
  case round =>
    obtain ⟨x, y, hx, hy, HG, rfl, rfl, nn, rfl⟩ := hrel
    by_cases h0 : 0 < y
    · have e1 : ((y : Int) != 0) = true := by rw [bne_iff_ne]; omega
      have e2 : ((y : Int) == 0) = false := by simp; omega
      have hlt : x % y < y := Nat.mod_lt _ h0
      have HS := Lib.hid (gcd_step x y h0)
      go_wp2_with fail
      go_quiet (fail)
      go_wp2
      go_roundw
      case rel => exact ⟨y, x % y, hy, by omega, by have h := HS.out; have g := HG.out; unfold Hid; omega, rfl, val_int (by simp), _, World.drewN_drewN _ _ _⟩
      case measure =>
        have : (intOf (.int .i64 ((x : Int) % y))).toNat = x % y := by simp only [intOf]; omega
        simp only [intOf] at this ⊢
        omega
    · obtain rfl : y = 0 := by omega
      have e1 : (((0 : Nat) : Int) != 0) = false := by simp
      go_wp2
      go_ret
      exact ⟨ret_int (by have h := HG.out; simp at h; omega), ⟨rfl, rfl, rfl, Nat.le_refl _, fun _ _ => rfl⟩⟩
theorem l02Gcd_any (a b : Nat) (w : World) (ha : a ≤ 9223372036854775807) (hb : b ≤ 9223372036854775807) :
    Calls Tryz.prog 136 #[.int .i64 a, .int .i64 b] w fun e w' => e = .returned (.int .i64 (Nat.gcd a b : Int)) ∧ w = w' := by
  go_enter Tryz.func136, Tryz.ntmps136
  go_wp2_with fail
  go_loop [0, 1] (fun s t => ∃ x y : Nat, x ≤ 9223372036854775807 ∧ y ≤ 9223372036854775807 ∧ Hid (Nat.gcd x y = Nat.gcd a b) ∧ s = .int .i64 x ∧ t = .int .i64 y) (fun _ t => (intOf t).toNat)
  case atStart => exact ⟨a, b, ha, hb, rfl, rfl, rfl⟩
  case round =>
    obtain ⟨x, y, hx, hy, HG, rfl, rfl⟩ := hrel
    by_cases h0 : 0 < y
    · have e1 : ((y : Int) != 0) = true := by rw [bne_iff_ne]; omega
      have e2 : ((y : Int) == 0) = false := by simp; omega
      have hlt : x % y < y := Nat.mod_lt _ h0
      have HS := Lib.hid (gcd_step x y h0)
      go_wp2
      go_round
      case rel => exact ⟨y, x % y, hy, by omega, by have h := HS.out; have g := HG.out; unfold Hid; omega, rfl, val_int (by simp)⟩
      case measure =>
        have : (intOf (.int .i64 ((x : Int) % y))).toNat = x % y := by simp only [intOf]; omega
        simp only [intOf] at this ⊢
        omega
    · obtain rfl : y = 0 := by omega
      have e1 : (((0 : Nat) : Int) != 0) = false := by simp
      go_wp2
      go_ret
      exact ⟨ret_int (by have h := HG.out; simp at h; omega), rfl⟩
theorem ValidFraction_any (n d : Int) (w : World) :
    Calls Tryz.prog 122 #[fracV n d] w fun e w' => e = .returned (.bool (fracOk n d)) ∧ Below w.heap.size w w' := by
  unfold fracV fracOk
  cases h1 : inR d 1 1000000000
  · go_enter Tryz.func122, Tryz.ntmps122
    go_wp2_with (go_at_call 70; refine (within_any _ _ _ _).mono ?_; rintro e w' ⟨rfl, rfl⟩)
    go_ret
    exact ⟨rfl, ext_alloc (Below.refl _ _) _⟩
  · obtain ⟨d1, d2⟩ := inR_true.1 h1
    cases h2 : inR n (-1000000000) 1000000000
    · go_enter Tryz.func122, Tryz.ntmps122
      go_wp2_with (go_at_call 70; refine (within_any _ _ _ _).mono ?_; rintro e w' ⟨rfl, rfl⟩)
      go_ret
      exact ⟨rfl, ext_alloc (Below.refl _ _) _⟩
    · obtain ⟨n1, n2⟩ := inR_true.1 h2
      go_enter Tryz.func122, Tryz.ntmps122
      go_wp2_with (first | (go_at_call 70; refine (within_any _ _ _ _).mono ?_; rintro e w' ⟨rfl, rfl⟩) | (go_at_call 55; refine (gcd_any _ _ _ (by omega) (by omega) (by omega) (by omega)).mono ?_; rintro e w1 ⟨rfl, hb1⟩))
      go_ret
      refine ⟨ret_bool ?_, ext_trans (ext_alloc (Below.refl _ _) _) hb1⟩
      rw [Bool.eq_iff_iff]; simp; omega
theorem l02Ok_any (n d : Int) (w : World) :
    Calls Tryz.prog 93 #[fracV n d] w fun e w' => e = .returned (.bool (fracOk n d)) ∧ Below w.heap.size w w' := by
  unfold fracV fracOk
  cases h2 : inR n (-1000000000) 1000000000
  · rw [Bool.and_false, Bool.false_and]
    go_enter Tryz.func93, Tryz.ntmps93
    go_wp2
    generalize hW : w.alloc _ = W
    have hb0 : Below w.heap.size w W := by rw [← hW]; exact ext_alloc (Below.refl _ _) _
    have k0 : ∀ d' os, (grow (redrawn W d') os).cell? ⟨w.heap.size, 0, none⟩ = some (.int .i64 n) := cell_regrown (by rw [← hW, cell_one]; rfl)
    have k1 : ∀ d' os, (grow (redrawn W d') os).cell? ⟨w.heap.size, 1, none⟩ = some (.int .i64 d) := cell_regrown (by rw [← hW, cell_one]; rfl)
    clear hW
    refine wp_region_quiet_below (by kernel_rfl) (by kernel_rfl) ?_
    repeat (first | go_big_quiet_step ((with_reducible exact regrown_same (l00In_is h2 _))) | quiet_step ((with_reducible exact regrown_same (l00In_is h2 _))))
    refine wpQuiet_nil ?_
    intro _ hw'
    obtain ⟨⟨dq, oq⟩, hw''⟩ := hw'
    subst hw''
    go_wp2
    go_ret
    exact ⟨rfl, ext_trans hb0 (below_regrown W dq oq)⟩
  · obtain ⟨n1, n2⟩ := inR_true.1 h2
    cases h1 : inR d 1 1000000000
    · rw [Bool.false_and, Bool.false_and]
      go_enter Tryz.func93, Tryz.ntmps93
      go_wp2
      generalize hW : w.alloc _ = W
      have hb0 : Below w.heap.size w W := by rw [← hW]; exact ext_alloc (Below.refl _ _) _
      have k0 : ∀ d' os, (grow (redrawn W d') os).cell? ⟨w.heap.size, 0, none⟩ = some (.int .i64 n) := cell_regrown (by rw [← hW, cell_one]; rfl)
      have k1 : ∀ d' os, (grow (redrawn W d') os).cell? ⟨w.heap.size, 1, none⟩ = some (.int .i64 d) := cell_regrown (by rw [← hW, cell_one]; rfl)
      clear hW
      refine wp_region_quiet_below (by kernel_rfl) (by kernel_rfl) ?_
      repeat (first | go_big_quiet_step ((first | (with_reducible exact regrown_same (l00In_is h2 _)) | (with_reducible exact regrown_same (l00In_is h1 _)))) | quiet_step ((first | (with_reducible exact regrown_same (l00In_is h2 _)) | (with_reducible exact regrown_same (l00In_is h1 _)))))
      refine wpQuiet_nil ?_
      intro _ hw'
      obtain ⟨⟨dq, oq⟩, hw''⟩ := hw'
      subst hw''
      go_wp2
      go_ret
      exact ⟨rfl, ext_trans hb0 (below_regrown W dq oq)⟩
    · obtain ⟨d1, d2⟩ := inR_true.1 h1
      obtain ⟨m, rfl⟩ := Int.eq_ofNat_of_zero_le (a := d) (by omega)
      go_enter Tryz.func93, Tryz.ntmps93
      go_wp2
      generalize hW : w.alloc _ = W
      have hb0 : Below w.heap.size w W := by rw [← hW]; exact ext_alloc (Below.refl _ _) _
      have k0 : ∀ d' os, (grow (redrawn W d') os).cell? ⟨w.heap.size, 0, none⟩ = some (.int .i64 n) := cell_regrown (by rw [← hW, cell_one]; rfl)
      have k1 : ∀ d' os, (grow (redrawn W d') os).cell? ⟨w.heap.size, 1, none⟩ = some (.int .i64 m) := cell_regrown (by rw [← hW, cell_one]; rfl)
      clear hW
      refine wp_region_quiet_below (by kernel_rfl) (by kernel_rfl) ?_
      repeat (first | go_big_quiet_step ((first | (with_reducible exact regrown_same (l00In_is h2 _)) | (with_reducible exact regrown_same (l00In_is h1 _)) | (with_reducible exact regrown_same (l02Size_any n _ (by omega) (by omega))) | (with_reducible exact regrown_same (l02Gcd_any n.natAbs m _ (by omega) (by omega))))) | quiet_step ((first | (with_reducible exact regrown_same (l00In_is h2 _)) | (with_reducible exact regrown_same (l00In_is h1 _)) | (with_reducible exact regrown_same (l02Size_any n _ (by omega) (by omega))) | (with_reducible exact regrown_same (l02Gcd_any n.natAbs m _ (by omega) (by omega))))))
      refine wpQuiet_nil ?_
      intro _ hw'
      obtain ⟨⟨dq, oq⟩, hw''⟩ := hw'
      subst hw''
      go_wp2
      go_ret
      refine ⟨ret_bool ?_, ext_trans hb0 (below_regrown W dq oq)⟩
      exact (beq_one _).trans (Bool.true_and _).symm
/-- A fraction in lowest terms, its denominator positive. -/
def qN (n d : Int) : Int := (if d < 0 then -n else n) / (Int.gcd n d : Int)
def qD (n d : Int) : Int := (d.natAbs : Int) / (Int.gcd n d : Int)
theorem gcd_pos' {n d : Int} (hd : d ≠ 0) : 0 < (Int.gcd n d : Int) := by
  have : 0 < Int.gcd n d := Int.gcd_pos_of_ne_zero_right _ hd
  omega
theorem tdiv_gcd {n d : Int} : n.tdiv (Int.gcd n d : Int) = n / (Int.gcd n d : Int) ∧ d.tdiv (Int.gcd n d : Int) = d / (Int.gcd n d : Int) :=
  ⟨Int.tdiv_eq_ediv_of_dvd (Int.gcd_dvd_left ..), Int.tdiv_eq_ediv_of_dvd (Int.gcd_dvd_right ..)⟩
theorem ediv_bd {n g M : Int} (hg : 0 < g) (h1 : -M ≤ n) (h2 : n ≤ M) : -M ≤ n / g ∧ n / g ≤ M := by
  constructor
  · have : (-M) / g ≤ n / g := Int.ediv_le_ediv hg h1
    have h3 : -M ≤ (-M) / g := by
      rw [Int.le_ediv_iff_mul_le hg]
      have : M * 1 ≤ M * g := Int.mul_le_mul_of_nonneg_left (by omega) (by omega)
      rw [Int.neg_mul]; omega
    omega
  · have : n / g ≤ M / g := Int.ediv_le_ediv hg h2
    have := Int.ediv_le_self g (show 0 ≤ M by omega)
    omega
set_option maxHeartbeats 1000000 in
theorem l02Make_any (n d : Int) (w : World) (n1 : -9223372036854775807 ≤ n) (n2 : n ≤ 9223372036854775807) (d1 : 1 ≤ d) (d2 : d ≤ 9223372036854775807) :
    Calls Tryz.prog 140 #[.int .i64 n, .int .i64 d] w fun e w' => e = .returned (fracV (qN n d) (qD n d)) ∧ Below w.heap.size w w' := by
  have hg := gcd_pos' (n := n) (d := d) (by omega)
  obtain ⟨t1, t2⟩ := tdiv_gcd (n := n) (d := d)
  have hgm : (Int.gcd n d : Int) ≤ 9223372036854775807 := by
    have : Int.gcd n d ≤ d.natAbs := Nat.le_of_dvd (by omega) (by exact Nat.gcd_dvd_right _ _)
    omega
  obtain ⟨q1, q2⟩ := ediv_bd (M := 9223372036854775807) hg n1 n2
  obtain ⟨q3, q4⟩ := ediv_bd (M := 9223372036854775807) hg (show -9223372036854775807 ≤ d by omega) d2
  have e1 : qN n d = n.tdiv (Int.gcd n d : Int) := by rw [t1, qN, if_neg (by omega)]
  have e2 : qD n d = d / (Int.gcd n d : Int) := by rw [qD]; congr 1; omega
  rw [e1, e2]
  rw [← t1] at q1 q2
  clear e1 e2 t1 t2
  obtain ⟨m, rfl⟩ := Int.eq_ofNat_of_zero_le (a := d) (by omega)
  obtain ⟨g, hgd⟩ : ∃ g : Int, g = Int.gcd n m := ⟨_, rfl⟩
  rw [← hgd] at hg hgm q1 q2 q3 q4 ⊢
  have HG := Lib.hid hgd
  clear hgd
  have q3' : 0 ≤ (m : Int) / g := Int.ediv_nonneg (by omega) (by omega)
  generalize ha : n.tdiv g = a at q1 q2 ⊢
  generalize hb : (m : Int) / g = b at q3 q4 q3' ⊢
  have g0 : (g == 0) = false := by simp; omega
  have w1 : IntKind.i64.wrap a = a := IntWalk.i64_in _ (by omega)
  have w2 : IntKind.i64.wrap b = b := IntWalk.i64_in _ (by omega)
  have hb2 : (m : Int).tdiv g = b := by rw [Int.tdiv_eq_ediv_of_nonneg (by omega)]; exact hb
  go_enter Tryz.func140, Tryz.ntmps140
  go_wp2_with fail
  refine (l02Size_any n _ n1 n2).mono ?_
  rintro e w' ⟨rfl, rfl⟩
  go_wp2_with fail
  refine (l02Gcd_any n.natAbs m _ (by omega) (by omega)).mono ?_
  rw [show (Nat.gcd n.natAbs m : Int) = g by rw [HG.out]; simp [Int.gcd]]
  rintro e w' ⟨rfl, rfl⟩
  go_wp2
  go_region
  go_wp2
  exact bodyPost_ret (v := fracV a b) (by simp [results, Tryz.results140, go_sem]; done) rfl ⟨rfl, ext_drew (ext_alloc (Below.refl _ _) _)⟩
end Go.Proofs.YtpgkellmhlmjeaaGreatDoor
namespace Go.Proofs.YtpgkellmhlmjeaaGreatDoor
open Go.RowKit Go.Sort
theorem floor_eq {n d : Int} (hd : 0 < d) : n / d = if n.tmod d < 0 then n.tdiv d - 1 else n.tdiv d := by
  rcases Int.lt_or_le n 0 with h | h
  · have e1 : n.tmod d = -((-n) % d) := by
      rw [← Int.tmod_eq_emod_of_nonneg (by omega), Int.neg_tmod]; omega
    have e2 : n.tdiv d = -((-n) / d) := by
      rw [← Int.tdiv_eq_ediv_of_nonneg (by omega), Int.neg_tdiv]; omega
    have h1 := Int.emod_nonneg (-n) (b := d) (by omega)
    have h2 := Int.emod_lt_of_pos (-n) hd
    have h3 := Int.mul_ediv_add_emod (-n) d
    have h4 := Int.mul_ediv_add_emod n d
    have h5 := Int.emod_nonneg n (b := d) (by omega)
    have h6 := Int.emod_lt_of_pos n hd
    rw [e1, e2]
    generalize (-n) / d = q at *
    generalize (-n) % d = r at *
    generalize n / d = q' at *
    generalize n % d = r' at *
    by_cases hr : r = 0
    · rw [if_neg (by omega)]
      have : d * (q + q') + r' = 0 := by rw [Int.mul_add]; omega
      have hq : q + q' = 0 := by
        rcases Int.lt_trichotomy (q + q') 0 with hh | hh | hh
        · have := Int.mul_le_mul_of_nonneg_left (show q + q' ≤ -1 by omega) (show 0 ≤ d by omega); omega
        · exact hh
        · have := Int.mul_le_mul_of_nonneg_left (show 1 ≤ q + q' by omega) (show 0 ≤ d by omega); omega
      omega
    · rw [if_pos (by omega)]
      have : d * (q + q') + r + r' = 0 := by rw [Int.mul_add]; omega
      have hq : q + q' = -1 := by
        rcases Int.lt_trichotomy (q + q') (-1) with hh | hh | hh
        · have := Int.mul_le_mul_of_nonneg_left (show q + q' ≤ -2 by omega) (show 0 ≤ d by omega); omega
        · exact hh
        · have := Int.mul_le_mul_of_nonneg_left (show 0 ≤ q + q' by omega) (show 0 ≤ d by omega); omega
      omega
  · rw [Int.tmod_eq_emod_of_nonneg h, Int.tdiv_eq_ediv_of_nonneg h, if_neg (by have := Int.emod_nonneg n (b := d) (by omega); omega)]
theorem tdiv_bd {n d M : Int} (hd : 0 < d) (h1 : -M ≤ n) (h2 : n ≤ M) : -M ≤ n.tdiv d ∧ n.tdiv d ≤ M := by
  have h := ediv_bd hd h1 h2
  rcases Int.lt_or_le n 0 with hn | hn
  · have h' := ediv_bd (n := -n) (M := M) hd (by omega) (by omega)
    have e2 : n.tdiv d = -((-n) / d) := by
      rw [← Int.tdiv_eq_ediv_of_nonneg (by omega), Int.neg_tdiv]; omega
    omega
  · rw [Int.tdiv_eq_ediv_of_nonneg hn]; exact h
theorem tmod_bd {n d : Int} (hd : 0 < d) : -d < n.tmod d ∧ n.tmod d < d := by
  have := Int.tmod_lt_of_pos n hd
  have := Int.tmod_lt_of_pos (-n) hd
  rw [Int.neg_tmod] at this
  omega
theorem l02Floor_any (n d : Int) (w : World) (n1 : -9223372036854775806 ≤ n) (n2 : n ≤ 9223372036854775806) (d1 : 1 ≤ d) (d2 : d ≤ 9223372036854775807) :
    Calls Tryz.prog 137 #[.int .i64 n, .int .i64 d] w fun e w' => e = .returned (.int .i64 (n / d)) ∧ w = w' := by
  rw [floor_eq (by omega)]
  obtain ⟨q1, q2⟩ := tdiv_bd (n := n) (d := d) (by omega) n1 n2
  obtain ⟨r1, r2⟩ := tmod_bd (n := n) (d := d) (by omega)
  have d0 : (d == 0) = false := by simp; omega
  generalize hq : n.tdiv d = q at *
  generalize hr : n.tmod d = r at *
  have w1 : IntKind.i64.wrap q = q := IntWalk.i64_in _ (by omega)
  have w2 : IntKind.i64.wrap r = r := IntWalk.i64_in _ (by omega)
  by_cases h : r < 0
  all_goals
    go_enter Tryz.func137, Tryz.ntmps137
    go_wp2
    go_ret
    exact ⟨ret_int (by first | rfl | rw [if_pos h] | rw [if_neg (by omega)]), rfl⟩
end Go.Proofs.YtpgkellmhlmjeaaGreatDoor
namespace Go.Proofs.YtpgkellmhlmjeaaGreatDoor
open Go.RowKit Go.Sort
theorem floorDiv_any (n d : Int) (w : World) (n1 : -9223372036854775806 ≤ n) (n2 : n ≤ 9223372036854775806) (d1 : 1 ≤ d) (d2 : d ≤ 9223372036854775807) :
    Calls Tryz.prog 106 #[.int .i64 n, .int .i64 d] w fun e w' => e = .returned (.int .i64 (n / d)) ∧ w = w' := by
  rw [floor_eq (by omega)]
  obtain ⟨q1, q2⟩ := tdiv_bd (n := n) (d := d) (by omega) n1 n2
  obtain ⟨r1, r2⟩ := tmod_bd (n := n) (d := d) (by omega)
  have hs : (0 ≤ n → 0 ≤ n.tmod d) ∧ (n < 0 → n.tmod d ≤ 0) := by
    refine ⟨fun h => Int.tmod_nonneg _ h, fun h => ?_⟩
    have := Int.tmod_nonneg d (show 0 ≤ -n by omega)
    rw [Int.neg_tmod] at this
    omega
  have d0 : (d == 0) = false := by simp; omega
  have e2 : decide (d < 0) = false := by simp; omega
  generalize hq : n.tdiv d = q at *
  generalize hr : n.tmod d = r at *
  have w1 : IntKind.i64.wrap q = q := IntWalk.i64_in _ (by omega)
  have w2 : IntKind.i64.wrap r = r := IntWalk.i64_in _ (by omega)
  by_cases h0 : r = 0
  · have h1 : (r != 0) = false := by simpa using h0
    rw [if_neg (show ¬ r < 0 by omega)]
    clear h0 hs
    go_enter Tryz.func106, Tryz.ntmps106
    go_wp2
    go_ret
    exact ⟨rfl, rfl⟩
  · have h1 : (r != 0) = true := by simpa using h0
    by_cases hn : n < 0
    · rw [if_pos (show r < 0 by have := hs.2 hn; omega)]
      have e1 : decide (n < 0) = true := by simpa using hn
      clear h0 hs
      go_enter Tryz.func106, Tryz.ntmps106
      go_wp2
      go_ret
      exact ⟨rfl, rfl⟩
    · rw [if_neg (show ¬ r < 0 by have := hs.1 (by omega); omega)]
      have e1 : decide (n < 0) = false := by simpa using hn
      clear h0 hs
      go_enter Tryz.func106, Tryz.ntmps106
      go_wp2
      go_ret
      exact ⟨rfl, rfl⟩
/-- What holds of a list on its way. -/
def OutI (w : World) (base : Nat) (out : List Int) (v : Value) (wr : World) : Prop :=
  wr.ownsRow base 2 1 v out.length (out.map (Value.int .i64)) ∧ Below w.heap.size w wr ∧ base ≤ wr.heap.size
end Go.Proofs.YtpgkellmhlmjeaaGreatDoor
namespace Go.Proofs.YtpgkellmhlmjeaaGreatDoor
open Go.RowKit Go.Sort
/-- A slice of structs of s integers is a row of integers. -/
theorem Wr.of_ownS {α : Type} {enc : α → Value} {w : World} {base s : Nat} {e : TypeId} {v : Value} {n : Nat} {xs : List α} (h : w.ownsRow base e s v n (xs.map enc)) : xs.length = n * s ∧ ∃ A c, v = .slice A n c ∧ Wr enc w base A xs := by
  have hn : xs.length = n * s := by have := h.1; simpa using this
  refine ⟨hn, ?_⟩
  rcases h.2 with ⟨rfl, h0⟩ | ⟨g, cap, cur, rfl, hg, hh, hc, hm, hsz, ht⟩
  · exact ⟨none, 0, by rw [h0], fun hp => by
      exfalso
      rw [hn, h0] at hp
      simp at hp⟩
  · refine ⟨_, _, rfl, fun _ => ⟨g, 0, rfl, hg, ?_, fun j x hx => ?_, fun j => ?_⟩⟩
    · rcases Nat.lt_or_ge g w.heap.size with h1 | h1
      · exact h1
      · rw [Array.getElem?_eq_none h1] at hh; cases hh
    · have hx' : (xs.map enc)[j]? = some (enc x) := by rw [List.getElem?_map, hx]; rfl
      have := h.cells (g := g) rfl j _ hx'
      have ea : (⟨g, 0, none⟩ : Addr).add j = ⟨g, 0 + j, none⟩ := by
        unfold Addr.add
        by_cases hj : j = 0 <;> simp [hj]
      rw [ea] at this
      exact this
    · simp [World.frozen?, hh]
def frL (ps : List (Int × Int)) : List Int := ps.flatMap fun p => [p.1, p.2]
theorem frL_length (ps : List (Int × Int)) : (frL ps).length = ps.length * 2 := by
  induction ps with
  | nil => rfl
  | cons p ps ih => simp only [frL, List.flatMap_cons, List.length_append, List.length_cons, List.length_nil] at *; omega
theorem frL_get {ps : List (Int × Int)} {j : Nat} {p : Int × Int} (h : ps[j]? = some p) : (frL ps)[j * 2]? = some p.1 ∧ (frL ps)[j * 2 + 1]? = some p.2 := by
  induction ps generalizing j with
  | nil => simp at h
  | cons a ps ih =>
    cases j with
    | zero =>
      simp at h
      subst h
      simp [frL]
    | succ j =>
      have := ih (j := j) (by simpa using h)
      have e1 : (j + 1) * 2 = j * 2 + 1 + 1 := by omega
      simp only [frL, List.flatMap_cons] at *
      rw [e1]
      exact this
def bil (n : Int) : Prop := -1000000000 ≤ n ∧ n ≤ 1000000000
/-- The cells of a new block, one by one. -/
theorem news_row (w : World) {C : Array Value} (T : TypeId) (vs : List Value) (h : C.toList = vs) : ∀ j u, vs[j]? = some u → (w.alloc (.cells C T)).cell? ((⟨w.heap.size, 0, none⟩ : Addr).add j) = some u := fun j u hu => by
  have ea : (⟨w.heap.size, 0, none⟩ : Addr).add j = ⟨w.heap.size, 0 + j, none⟩ := by
    unfold Addr.add
    by_cases hj : j = 0 <;> simp [hj]
  rw [ea, Nat.zero_add, cell_one, ← Array.getElem?_toList, h]
  exact hu
@[reducible] def cvV (p q x y : Int) : Value := .agg #[.int .i64 p, .int .i64 q, .int .i64 x, .int .i64 y]
theorem l03New_any (w : World) : Calls Tryz.prog 88 #[] w fun e w' => e = .returned (cvV 1 0 0 1) ∧ Below w.heap.size w w' := by
  go_enter Tryz.func88, Tryz.ntmps88
  go_wp2
  exact bodyPost_ret (v := cvV 1 0 0 1) (by simp [results, Tryz.results88, go_sem]; done) rfl ⟨rfl, ext1 _ _⟩
theorem l03Next_any (p q x y t : Int) (w : World) (hp : bil p) (hq : bil q) (hx : bil x) (hy : bil y) (ht : bil t) :
    Calls Tryz.prog 135 #[cvV p q x y, .int .i64 t] w fun e w' => e = .returned (cvV (t * p + x) (t * q + y) p q) ∧ Below w.heap.size w w' := by
  obtain ⟨p1, p2⟩ := hp
  obtain ⟨q1, q2⟩ := hq
  obtain ⟨x1, x2⟩ := hx
  obtain ⟨y1, y2⟩ := hy
  obtain ⟨t1, t2⟩ := ht
  obtain ⟨u1, u2⟩ := mul_bd (x := t) (y := p) (M := 1000000000) (N := 1000000000) (by omega) t2 (by omega) p2 t1 p1
  obtain ⟨u3, u4⟩ := mul_bd (x := t) (y := q) (M := 1000000000) (N := 1000000000) (by omega) t2 (by omega) q2 t1 q1
  unfold cvV
  go_enter Tryz.func135, Tryz.ntmps135
  go_wp2
  exact bodyPost_ret (v := cvV (t * p + x) (t * q + y) p q) (by simp [results, Tryz.results135, go_sem]; done) rfl ⟨rfl, ext_alloc (ext1 _ _) _⟩
end Go.Proofs.YtpgkellmhlmjeaaGreatDoor
namespace Go.Proofs.YtpgkellmhlmjeaaGreatDoor
open Go.RowKit Go.Sort
/-- A number's decimal text. -/
def decB (n : Int) : ByteArray := ⟨(Lib.itoa n).toArray⟩
theorem decB_size {n : Int} (h0 : -9223372036854775808 ≤ n) (h1 : n ≤ 9223372036854775807) : (decB n).size ≤ 21 := by
  have := Lib.itoa_length_le n h0 h1
  show (Lib.itoa n).toArray.size ≤ 21
  simpa using this
end Go.Proofs.YtpgkellmhlmjeaaGreatDoor
