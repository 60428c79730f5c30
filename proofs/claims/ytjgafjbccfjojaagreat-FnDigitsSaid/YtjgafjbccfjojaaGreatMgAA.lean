/- Parts of the proof, merged: Base FracW DigP Slices. No condition but those that each theorem names. -/
import Derived.Test.YtjgafjbccfjojaaGreatRows
import Derived.WalkKit
import Derived.WalkLawsBesides
import Derived.WalkSpells
import Derived.Outline
import Derived.Lib.Hide
import Derived.Deep.QuietTactic
import Derived.BigQuiet
import Derived.Lib.QuietBelow
import Derived.Below
import Derived.RegionTactic
import Derived.Maps.AppendAt
import Derived.Deep.AppendLies
import Derived.OwnWalk
namespace Go.Proofs.YtjgafjbccfjojaaGreat
open Go.RowKit Go.Sort
theorem ret_bool {a b : Bool} (h : a = b) : Ending.returned (.bool a) = .returned (.bool b) := by rw [h]
theorem ret_int {k : IntKind} {a b : Int} (h : a = b) : Ending.returned (.int k a) = .returned (.int k b) := by rw [h]
theorem val_int {k : IntKind} {a b : Int} (h : a = b) : Value.int k a = .int k b := by rw [h]
theorem bcell {W w1 : World} (hb : Below W.heap.size W w1) : (∀ b o, b < W.heap.size → w1.cell? ⟨b, o, none⟩ = W.cell? ⟨b, o, none⟩) ∧ (∀ b o, b < W.heap.size → w1.frozen? ⟨b, o, none⟩ = W.frozen? ⟨b, o, none⟩) :=
  ⟨fun b o h => hb.cell (p := ⟨b, o, none⟩) h, fun b o h => hb.frozen (p := ⟨b, o, none⟩) h⟩
theorem ext_trans {a b c : World} (h : Below a.heap.size a b) (k : Below b.heap.size b c) : Below a.heap.size a c := h.trans (k.mono h.size)
theorem ext_alloc {a b : World} (h : Below a.heap.size a b) (o : Obj) : Below a.heap.size a (b.alloc o) := h.alloc h.size o
theorem ext_drew {a b : World} (h : Below a.heap.size a b) : Below a.heap.size a b.drew := h.drew
theorem ext_set {a b : World} (h : Below a.heap.size a b) {p : Addr} (hp : a.heap.size ≤ p.block) (u : Value) : Below a.heap.size a (b.setCell p u) := h.setCell hp u
/-- A callee that leaves the world alone, met in a region's class of worlds. -/
theorem regrown_same {P : Program} {f : FuncId} {args : Array Value} {w : World} {d : Nat} {os : Array Obj} {v : Value}
    (h : Calls P f args (grow (redrawn w d) os) fun e w' => e = .returned v ∧ grow (redrawn w d) os = w') : Calls P f args (grow (redrawn w d) os) fun e w'' => e = .returned v ∧ ∃ p : Regrown, w'' = grow (redrawn w p.d) p.os :=
  h.mono fun _ _ ⟨he, hw⟩ => ⟨he, ⟨d, os⟩, hw.symm⟩
theorem cell_one (w : World) (C : Array Value) (s : TypeId) (j : Nat) : (w.alloc (.cells C s)).cell? ⟨w.heap.size, j, none⟩ = C[j]? := World.cell?_alloc_at _ _ _ _ rfl
/-- A struct's result: its cells behind the stores. -/
theorem set_two {w : World} {b : Nat} {x y : Value} (h0 : w.cell? ⟨b, 0, none⟩ = some x) (h1 : w.cell? ⟨b, 1, none⟩ = some y) :
    (∀ v, (w.setCell ⟨b, 0, none⟩ v).cell? ⟨b, 0, none⟩ = some v) ∧ (∀ u v, ((w.setCell ⟨b, 0, none⟩ u).setCell ⟨b, 1, none⟩ v).cell? ⟨b, 1, none⟩ = some v) :=
  ⟨fun v => World.cell?_setCell_same _ _ _ h0, fun u v => World.cell?_setCell_same (v := v) _ _ ((World.cell?_setCell_other _ ⟨b, 0, none⟩ ⟨b, 1, none⟩ _ (by simp)).trans h1)⟩
theorem ext1 (W : World) (o : Obj) : Below W.heap.size W (W.alloc o) := ext_alloc (Below.refl _ _) o
/-- lo ≤ n ≤ hi, as a Bool. -/
def inR (n lo hi : Int) : Bool := decide (lo ≤ n) && decide (n ≤ hi)
theorem inR_true {n lo hi : Int} : inR n lo hi = true ↔ lo ≤ n ∧ n ≤ hi := by simp [inR]
theorem within_any (n lo hi : Int) (w : World) :
    Calls Tryz.prog 24 #[.int .i64 n, .int .i64 lo, .int .i64 hi] w fun e w' => e = .returned (.bool (inR n lo hi)) ∧ w = w' := by
  go_enter Tryz.func24, Tryz.ntmps24
  go_wp2
  all_goals
    go_ret
    exact ⟨ret_bool (by simp [inR]; omega), rfl⟩
theorem within_is {n lo hi : Int} {b : Bool} (h : inR n lo hi = b) (w : World) :
    Calls Tryz.prog 24 #[.int .i64 n, .int .i64 lo, .int .i64 hi] w fun e w' => e = .returned (.bool b) ∧ w = w' := h ▸ within_any n lo hi w
theorem l00In_any (n lo hi : Int) (w : World) :
    Calls Tryz.prog 40 #[.int .i64 n, .int .i64 lo, .int .i64 hi] w fun e w' => e = .returned (.bool (inR n lo hi)) ∧ w = w' := by
  go_enter Tryz.func40, Tryz.ntmps40
  go_wp2
  all_goals
    go_ret
    exact ⟨ret_bool (by simp [inR]; omega), rfl⟩
theorem l00In_is {n lo hi : Int} {b : Bool} (h : inR n lo hi = b) (w : World) :
    Calls Tryz.prog 40 #[.int .i64 n, .int .i64 lo, .int .i64 hi] w fun e w' => e = .returned (.bool b) ∧ w = w' := h ▸ l00In_any n lo hi w
end Go.Proofs.YtjgafjbccfjojaaGreat
namespace Go.Proofs.YtjgafjbccfjojaaGreat
open Go.RowKit Go.Sort
@[reducible] def fracV (n d : Int) : Value := .agg #[.int .i64 n, .int .i64 d]
/-- A product of bounded numbers. -/
theorem mul_bd {x y M N : Int} (hM : 0 ≤ M) (h2 : x ≤ M) (hN : 0 ≤ N) (h4 : y ≤ N) (h1 : -M ≤ x) (h3 : -N ≤ y) : -(M * N) ≤ x * y ∧ x * y ≤ M * N := by
  have a : (x * y).natAbs ≤ (M * N).natAbs := by
    rw [Int.natAbs_mul, Int.natAbs_mul]
    exact Nat.mul_le_mul (by omega) (by omega)
  have p : 0 ≤ M * N := Int.mul_nonneg hM hN
  omega
def fracOk (n d : Int) : Bool := inR d 1 1000000000 && inR n (-1000000000) 1000000000 && decide (Int.gcd n d = 1)
theorem fracOk_true {n d : Int} : fracOk n d = true ↔ 1 ≤ d ∧ d ≤ 1000000000 ∧ -1000000000 ≤ n ∧ n ≤ 1000000000 ∧ Int.gcd n d = 1 := by
  unfold fracOk; rw [Bool.and_eq_true, Bool.and_eq_true, inR_true, inR_true, decide_eq_true_iff]; omega
theorem abs_any (n : Int) (w : World) (h1 : -9223372036854775807 ≤ n) (h2 : n ≤ 9223372036854775807) :
    Calls Tryz.prog 81 #[.int .i64 n] w fun e w' => e = .returned (.int .i64 (n.natAbs : Int)) ∧ w = w' := by
  by_cases h : n < 0
  all_goals
    go_enter Tryz.func81, Tryz.ntmps81
    go_wp2
    go_ret
    exact ⟨ret_int (by omega), rfl⟩
theorem l02Size_any (n : Int) (w : World) (h1 : -9223372036854775807 ≤ n) (h2 : n ≤ 9223372036854775807) :
    Calls Tryz.prog 71 #[.int .i64 n] w fun e w' => e = .returned (.int .i64 (n.natAbs : Int)) ∧ w = w' := by
  by_cases h : n < 0
  all_goals
    go_enter Tryz.func71, Tryz.ntmps71
    go_wp2
    go_ret
    exact ⟨ret_int (by omega), rfl⟩
theorem beq_one (x : Nat) : ((x : Int) == 1) = decide (x = 1) := by rw [Bool.eq_iff_iff]; simp; omega
theorem gcd_step (x y : Nat) (_ : 0 < y) : Nat.gcd y (x % y) = Nat.gcd x y := by
  rw [Nat.gcd_comm x y, Nat.gcd_rec y x, Nat.gcd_comm]
theorem gcd_any (a b : Int) (w : World) (a1 : -9223372036854775807 ≤ a) (a2 : a ≤ 9223372036854775807) (b1 : -9223372036854775807 ≤ b) (b2 : b ≤ 9223372036854775807) :
    Calls Tryz.prog 68 #[.int .i64 a, .int .i64 b] w fun e w' => e = .returned (.int .i64 (Int.gcd a b : Int)) ∧ Below w.heap.size w w' := by
  go_enter Tryz.func68, Tryz.ntmps68
  go_wp2_with fail
  refine (abs_any a _ a1 a2).mono ?_
  rintro e w' ⟨rfl, rfl⟩
  go_wp2_with fail
  refine (abs_any b _ b1 b2).mono ?_
  rintro e w' ⟨rfl, rfl⟩
  go_wp2_with fail
  go_loopw [0, 1] (fun s t wr => ∃ x y : Nat, x ≤ 9223372036854775807 ∧ y ≤ 9223372036854775807 ∧ Hid (Nat.gcd x y = Int.gcd a b) ∧ s = .int .i64 x ∧ t = .int .i64 y ∧ ∃ n, wr = w.drewN n) (fun _ t _ => (intOf t).toNat)
  case atStart => exact ⟨a.natAbs, b.natAbs, by omega, by omega, rfl, rfl, rfl, 0, rfl⟩
  case round =>
    obtain ⟨x, y, hx, hy, HG, rfl, rfl, nn, rfl⟩ := hrel
    by_cases h0 : 0 < y
    · have e1 : ((y : Int) != 0) = true := by rw [bne_iff_ne]; omega
      have e2 : ((y : Int) == 0) = false := by simp; omega
      have hlt : x % y < y := Nat.mod_lt _ h0
      have HS := Lib.hid (gcd_step x y h0)
      go_wp2_with fail
      go_quiet (fail)
      go_wp2
      go_roundw
      case rel => exact ⟨y, x % y, hy, by omega, by have h := HS.out; have g := HG.out; unfold Hid; omega, rfl, val_int (by simp), _, World.drewN_drewN _ _ _⟩
      case measure =>
        have : (intOf (.int .i64 ((x : Int) % y))).toNat = x % y := by simp only [intOf]; omega
        simp only [intOf] at this ⊢
        omega
    · obtain rfl : y = 0 := by omega
      have e1 : (((0 : Nat) : Int) != 0) = false := by simp
      go_wp2
      go_ret
      exact ⟨ret_int (by have h := HG.out; simp at h; omega), ⟨rfl, rfl, rfl, Nat.le_refl _, fun _ _ => rfl⟩⟩
theorem l02Gcd_any (a b : Nat) (w : World) (ha : a ≤ 9223372036854775807) (hb : b ≤ 9223372036854775807) :
    Calls Tryz.prog 70 #[.int .i64 a, .int .i64 b] w fun e w' => e = .returned (.int .i64 (Nat.gcd a b : Int)) ∧ w = w' := by
  go_enter Tryz.func70, Tryz.ntmps70
  go_wp2_with fail
  go_loop [0, 1] (fun s t => ∃ x y : Nat, x ≤ 9223372036854775807 ∧ y ≤ 9223372036854775807 ∧ Hid (Nat.gcd x y = Nat.gcd a b) ∧ s = .int .i64 x ∧ t = .int .i64 y) (fun _ t => (intOf t).toNat)
  case atStart => exact ⟨a, b, ha, hb, rfl, rfl, rfl⟩
  case round =>
    obtain ⟨x, y, hx, hy, HG, rfl, rfl⟩ := hrel
    by_cases h0 : 0 < y
    · have e1 : ((y : Int) != 0) = true := by rw [bne_iff_ne]; omega
      have e2 : ((y : Int) == 0) = false := by simp; omega
      have hlt : x % y < y := Nat.mod_lt _ h0
      have HS := Lib.hid (gcd_step x y h0)
      go_wp2
      go_round
      case rel => exact ⟨y, x % y, hy, by omega, by have h := HS.out; have g := HG.out; unfold Hid; omega, rfl, val_int (by simp)⟩
      case measure =>
        have : (intOf (.int .i64 ((x : Int) % y))).toNat = x % y := by simp only [intOf]; omega
        simp only [intOf] at this ⊢
        omega
    · obtain rfl : y = 0 := by omega
      have e1 : (((0 : Nat) : Int) != 0) = false := by simp
      go_wp2
      go_ret
      exact ⟨ret_int (by have h := HG.out; simp at h; omega), rfl⟩
theorem ValidFraction_any (n d : Int) (w : World) :
    Calls Tryz.prog 36 #[fracV n d] w fun e w' => e = .returned (.bool (fracOk n d)) ∧ Below w.heap.size w w' := by
  unfold fracV fracOk
  cases h1 : inR d 1 1000000000
  · go_enter Tryz.func36, Tryz.ntmps36
    go_wp2_with (go_at_call 24; refine (within_any _ _ _ _).mono ?_; rintro e w' ⟨rfl, rfl⟩)
    go_ret
    exact ⟨rfl, ext_alloc (Below.refl _ _) _⟩
  · obtain ⟨d1, d2⟩ := inR_true.1 h1
    cases h2 : inR n (-1000000000) 1000000000
    · go_enter Tryz.func36, Tryz.ntmps36
      go_wp2_with (go_at_call 24; refine (within_any _ _ _ _).mono ?_; rintro e w' ⟨rfl, rfl⟩)
      go_ret
      exact ⟨rfl, ext_alloc (Below.refl _ _) _⟩
    · obtain ⟨n1, n2⟩ := inR_true.1 h2
      go_enter Tryz.func36, Tryz.ntmps36
      go_wp2_with (first | (go_at_call 24; refine (within_any _ _ _ _).mono ?_; rintro e w' ⟨rfl, rfl⟩) | (go_at_call 68; refine (gcd_any _ _ _ (by omega) (by omega) (by omega) (by omega)).mono ?_; rintro e w1 ⟨rfl, hb1⟩))
      go_ret
      refine ⟨ret_bool ?_, ext_trans (ext_alloc (Below.refl _ _) _) hb1⟩
      rw [Bool.eq_iff_iff]; simp; omega
theorem l02Ok_any (n d : Int) (w : World) :
    Calls Tryz.prog 38 #[fracV n d] w fun e w' => e = .returned (.bool (fracOk n d)) ∧ Below w.heap.size w w' := by
  unfold fracV fracOk
  cases h2 : inR n (-1000000000) 1000000000
  · rw [Bool.and_false, Bool.false_and]
    go_enter Tryz.func38, Tryz.ntmps38
    go_wp2
    generalize hW : w.alloc _ = W
    have hb0 : Below w.heap.size w W := by rw [← hW]; exact ext_alloc (Below.refl _ _) _
    have k0 : ∀ d' os, (grow (redrawn W d') os).cell? ⟨w.heap.size, 0, none⟩ = some (.int .i64 n) := cell_regrown (by rw [← hW, cell_one]; rfl)
    have k1 : ∀ d' os, (grow (redrawn W d') os).cell? ⟨w.heap.size, 1, none⟩ = some (.int .i64 d) := cell_regrown (by rw [← hW, cell_one]; rfl)
    clear hW
    refine wp_region_quiet_below (by kernel_rfl) (by kernel_rfl) ?_
    repeat (first | go_big_quiet_step ((with_reducible exact regrown_same (l00In_is h2 _))) | quiet_step ((with_reducible exact regrown_same (l00In_is h2 _))))
    refine wpQuiet_nil ?_
    intro _ hw'
    obtain ⟨⟨dq, oq⟩, hw''⟩ := hw'
    subst hw''
    go_wp2
    go_ret
    exact ⟨rfl, ext_trans hb0 (below_regrown W dq oq)⟩
  · obtain ⟨n1, n2⟩ := inR_true.1 h2
    cases h1 : inR d 1 1000000000
    · rw [Bool.false_and, Bool.false_and]
      go_enter Tryz.func38, Tryz.ntmps38
      go_wp2
      generalize hW : w.alloc _ = W
      have hb0 : Below w.heap.size w W := by rw [← hW]; exact ext_alloc (Below.refl _ _) _
      have k0 : ∀ d' os, (grow (redrawn W d') os).cell? ⟨w.heap.size, 0, none⟩ = some (.int .i64 n) := cell_regrown (by rw [← hW, cell_one]; rfl)
      have k1 : ∀ d' os, (grow (redrawn W d') os).cell? ⟨w.heap.size, 1, none⟩ = some (.int .i64 d) := cell_regrown (by rw [← hW, cell_one]; rfl)
      clear hW
      refine wp_region_quiet_below (by kernel_rfl) (by kernel_rfl) ?_
      repeat (first | go_big_quiet_step ((first | (with_reducible exact regrown_same (l00In_is h2 _)) | (with_reducible exact regrown_same (l00In_is h1 _)))) | quiet_step ((first | (with_reducible exact regrown_same (l00In_is h2 _)) | (with_reducible exact regrown_same (l00In_is h1 _)))))
      refine wpQuiet_nil ?_
      intro _ hw'
      obtain ⟨⟨dq, oq⟩, hw''⟩ := hw'
      subst hw''
      go_wp2
      go_ret
      exact ⟨rfl, ext_trans hb0 (below_regrown W dq oq)⟩
    · obtain ⟨d1, d2⟩ := inR_true.1 h1
      obtain ⟨m, rfl⟩ := Int.eq_ofNat_of_zero_le (a := d) (by omega)
      go_enter Tryz.func38, Tryz.ntmps38
      go_wp2
      generalize hW : w.alloc _ = W
      have hb0 : Below w.heap.size w W := by rw [← hW]; exact ext_alloc (Below.refl _ _) _
      have k0 : ∀ d' os, (grow (redrawn W d') os).cell? ⟨w.heap.size, 0, none⟩ = some (.int .i64 n) := cell_regrown (by rw [← hW, cell_one]; rfl)
      have k1 : ∀ d' os, (grow (redrawn W d') os).cell? ⟨w.heap.size, 1, none⟩ = some (.int .i64 m) := cell_regrown (by rw [← hW, cell_one]; rfl)
      clear hW
      refine wp_region_quiet_below (by kernel_rfl) (by kernel_rfl) ?_
      repeat (first | go_big_quiet_step ((first | (with_reducible exact regrown_same (l00In_is h2 _)) | (with_reducible exact regrown_same (l00In_is h1 _)) | (with_reducible exact regrown_same (l02Size_any n _ (by omega) (by omega))) | (with_reducible exact regrown_same (l02Gcd_any n.natAbs m _ (by omega) (by omega))))) | quiet_step ((first | (with_reducible exact regrown_same (l00In_is h2 _)) | (with_reducible exact regrown_same (l00In_is h1 _)) | (with_reducible exact regrown_same (l02Size_any n _ (by omega) (by omega))) | (with_reducible exact regrown_same (l02Gcd_any n.natAbs m _ (by omega) (by omega))))))
      refine wpQuiet_nil ?_
      intro _ hw'
      obtain ⟨⟨dq, oq⟩, hw''⟩ := hw'
      subst hw''
      go_wp2
      go_ret
      refine ⟨ret_bool ?_, ext_trans hb0 (below_regrown W dq oq)⟩
      exact (beq_one _).trans (Bool.true_and _).symm
/-- A fraction in lowest terms, its denominator positive. -/
def qN (n d : Int) : Int := (if d < 0 then -n else n) / (Int.gcd n d : Int)
def qD (n d : Int) : Int := (d.natAbs : Int) / (Int.gcd n d : Int)
theorem gcd_pos' {n d : Int} (hd : d ≠ 0) : 0 < (Int.gcd n d : Int) := by
  have : 0 < Int.gcd n d := Int.gcd_pos_of_ne_zero_right _ hd
  omega
theorem tdiv_gcd {n d : Int} : n.tdiv (Int.gcd n d : Int) = n / (Int.gcd n d : Int) ∧ d.tdiv (Int.gcd n d : Int) = d / (Int.gcd n d : Int) :=
  ⟨Int.tdiv_eq_ediv_of_dvd (Int.gcd_dvd_left ..), Int.tdiv_eq_ediv_of_dvd (Int.gcd_dvd_right ..)⟩
theorem ediv_bd {n g M : Int} (hg : 0 < g) (h1 : -M ≤ n) (h2 : n ≤ M) : -M ≤ n / g ∧ n / g ≤ M := by
  constructor
  · have : (-M) / g ≤ n / g := Int.ediv_le_ediv hg h1
    have h3 : -M ≤ (-M) / g := by
      rw [Int.le_ediv_iff_mul_le hg]
      have : M * 1 ≤ M * g := Int.mul_le_mul_of_nonneg_left (by omega) (by omega)
      rw [Int.neg_mul]; omega
    omega
  · have : n / g ≤ M / g := Int.ediv_le_ediv hg h2
    have := Int.ediv_le_self g (show 0 ≤ M by omega)
    omega
set_option maxHeartbeats 1000000 in
theorem l02Make_any (n d : Int) (w : World) (n1 : -9223372036854775807 ≤ n) (n2 : n ≤ 9223372036854775807) (d1 : 1 ≤ d) (d2 : d ≤ 9223372036854775807) :
    Calls Tryz.prog 66 #[.int .i64 n, .int .i64 d] w fun e w' => e = .returned (fracV (qN n d) (qD n d)) ∧ Below w.heap.size w w' := by
  have hg := gcd_pos' (n := n) (d := d) (by omega)
  obtain ⟨t1, t2⟩ := tdiv_gcd (n := n) (d := d)
  have hgm : (Int.gcd n d : Int) ≤ 9223372036854775807 := by
    have : Int.gcd n d ≤ d.natAbs := Nat.le_of_dvd (by omega) (by exact Nat.gcd_dvd_right _ _)
    omega
  obtain ⟨q1, q2⟩ := ediv_bd (M := 9223372036854775807) hg n1 n2
  obtain ⟨q3, q4⟩ := ediv_bd (M := 9223372036854775807) hg (show -9223372036854775807 ≤ d by omega) d2
  have e1 : qN n d = n.tdiv (Int.gcd n d : Int) := by rw [t1, qN, if_neg (by omega)]
  have e2 : qD n d = d / (Int.gcd n d : Int) := by rw [qD]; congr 1; omega
  rw [e1, e2]
  rw [← t1] at q1 q2
  clear e1 e2 t1 t2
  obtain ⟨m, rfl⟩ := Int.eq_ofNat_of_zero_le (a := d) (by omega)
  obtain ⟨g, hgd⟩ : ∃ g : Int, g = Int.gcd n m := ⟨_, rfl⟩
  rw [← hgd] at hg hgm q1 q2 q3 q4 ⊢
  have HG := Lib.hid hgd
  clear hgd
  have q3' : 0 ≤ (m : Int) / g := Int.ediv_nonneg (by omega) (by omega)
  generalize ha : n.tdiv g = a at q1 q2 ⊢
  generalize hb : (m : Int) / g = b at q3 q4 q3' ⊢
  have g0 : (g == 0) = false := by simp; omega
  have w1 : IntKind.i64.wrap a = a := IntWalk.i64_in _ (by omega)
  have w2 : IntKind.i64.wrap b = b := IntWalk.i64_in _ (by omega)
  have hb2 : (m : Int).tdiv g = b := by rw [Int.tdiv_eq_ediv_of_nonneg (by omega)]; exact hb
  go_enter Tryz.func66, Tryz.ntmps66
  go_wp2_with fail
  refine (l02Size_any n _ n1 n2).mono ?_
  rintro e w' ⟨rfl, rfl⟩
  go_wp2_with fail
  refine (l02Gcd_any n.natAbs m _ (by omega) (by omega)).mono ?_
  rw [show (Nat.gcd n.natAbs m : Int) = g by rw [HG.out]; simp [Int.gcd]]
  rintro e w' ⟨rfl, rfl⟩
  go_wp2
  go_region
  go_wp2
  exact bodyPost_ret (v := fracV a b) (by simp [results, Tryz.results66, go_sem]; done) rfl ⟨rfl, ext_drew (ext_alloc (Below.refl _ _) _)⟩
end Go.Proofs.YtjgafjbccfjojaaGreat
namespace Go.Proofs.YtjgafjbccfjojaaGreat
open Go.RowKit Go.Sort
/-- The state (a x + b) / (c x + d). -/
structure S4 where
  a : Int
  b : Int
  c : Int
  d : Int
def S4.g (s : S4) : Nat := Nat.gcd (Int.gcd s.a s.b) (Int.gcd s.c s.d)
def S4.nrm (s : S4) : S4 := ⟨s.a.tdiv s.g, s.b.tdiv s.g, s.c.tdiv s.g, s.d.tdiv s.g⟩
/-- Not above 10^17 in absolute value. -/
def lowI (n : Int) : Bool := decide (-100000000000000000 ≤ n) && decide (n ≤ 100000000000000000)
theorem lowI_true {n : Int} : lowI n = true ↔ -100000000000000000 ≤ n ∧ n ≤ 100000000000000000 := by simp [lowI]
def S4.low (s : S4) : Bool := lowI s.a && lowI s.b && lowI s.c && lowI s.d
theorem S4.low_true {s : S4} : s.low = true ↔ (-100000000000000000 ≤ s.a ∧ s.a ≤ 100000000000000000) ∧ (-100000000000000000 ≤ s.b ∧ s.b ≤ 100000000000000000) ∧ (-100000000000000000 ≤ s.c ∧ s.c ≤ 100000000000000000) ∧ (-100000000000000000 ≤ s.d ∧ s.d ≤ 100000000000000000) := by
  unfold S4.low
  simp only [Bool.and_eq_true, lowI_true, and_assoc]
/-- The floor that is known. -/
def S4.q (s : S4) : Int := s.a / s.c
def S4.kn (s : S4) : Bool := decide (0 < s.c) && decide (s.a / s.c = (s.a + s.b) / (s.c + s.d))
/-- x * y stays small. -/
def fitI (x y : Int) : Bool := lowI (x * y)
/-- A floor taken out, the rest times the base. -/
def S4.tkS (s : S4) (base : Int) : S4 := ⟨base * (s.a - s.q * s.c), base * (s.b - s.q * s.d), s.c, s.d⟩
def S4.tkF (s : S4) (base : Int) : Bool := fitI s.q s.c && fitI s.q s.d && fitI base (s.a - s.q * s.c) && fitI base (s.b - s.q * s.d)
def S4.tk (s : S4) (base : Int) : Option S4 := if (s.tkF base && (s.tkS base).nrm.low) = true then some (s.tkS base).nrm else none
/-- A term fed. -/
def S4.fdS (s : S4) (t : Int) : S4 := ⟨s.a * t + s.b, s.a, s.c * t + s.d, s.c⟩
def S4.fdF (s : S4) (t : Int) : Bool := fitI s.a t && fitI s.c t
def S4.fd (s : S4) (t : Int) : Option S4 := if (s.fdF t && (s.fdS t).nrm.low) = true then some (s.fdS t).nrm else none
/-- No term left. -/
def S4.enS (s : S4) : S4 := ⟨s.a, s.a, s.c, s.c⟩
/-- Digits, so many rounds at most: the numbers, the terms that were fed, the code. -/
def dg (T : Nat → Option Int) (base : Int) (count : Nat) : Nat → S4 → Nat → List Int → Option (List Int × Nat × Int)
  | 0, _, _, _ => none
  | n + 1, s, k, out =>
    if (decide (0 < k) && s.kn) = true then
      if count < out.length + 1 then some (out ++ [s.q], k, 0)
      else match s.tk base with
        | none => some ([], 0, 5)
        | some s' => dg T base count n s' k (out ++ [s.q])
    else match T k with
      | none => dg T base count n s.enS.nrm k out
      | some t => if 1000 ≤ k then some ([], 0, 10) else match s.fd t with
        | none => some ([], 0, 5)
        | some s' => dg T base count n s' (k + 1) out
/-- What holds of the state at every round's head. -/
structure SInv (s : S4) (k : Nat) : Prop where
  low : s.low = true
  pos : (k = 0 ∧ s = ⟨1, 0, 0, 1⟩) ∨ (0 < k ∧ 1 ≤ s.c ∧ 0 ≤ s.d)
  kle : k ≤ 1000
theorem tdiv_dvd {x : Int} {g : Nat} (h : (g : Int) ∣ x) : x.tdiv g * g = x := Int.tdiv_mul_cancel h
theorem S4.g_dvd (s : S4) : (s.g : Int) ∣ s.a ∧ (s.g : Int) ∣ s.b ∧ (s.g : Int) ∣ s.c ∧ (s.g : Int) ∣ s.d := by
  have h1 : s.g ∣ Int.gcd s.a s.b := Nat.gcd_dvd_left _ _
  have h2 : s.g ∣ Int.gcd s.c s.d := Nat.gcd_dvd_right _ _
  have k1 : (s.g : Int) ∣ (Int.gcd s.a s.b : Int) := Int.natCast_dvd_natCast.2 h1
  have k2 : (s.g : Int) ∣ (Int.gcd s.c s.d : Int) := Int.natCast_dvd_natCast.2 h2
  exact ⟨Int.dvd_trans k1 (Int.gcd_dvd_left ..), Int.dvd_trans k1 (Int.gcd_dvd_right ..), Int.dvd_trans k2 (Int.gcd_dvd_left ..), Int.dvd_trans k2 (Int.gcd_dvd_right ..)⟩
theorem S4.g_pos {s : S4} (h : 1 ≤ s.c) : 0 < s.g := by
  rcases Nat.eq_zero_or_pos s.g with e | e
  · have := (s.g_dvd).2.2.1
    rw [e] at this
    have := Int.zero_dvd.1 this
    omega
  · exact e
theorem tdiv_le {x : Int} {g : Nat} : (x.tdiv g).natAbs ≤ x.natAbs := by
  rw [Int.natAbs_tdiv]
  exact Nat.div_le_self _ _
theorem tdiv_pos {x : Int} {g : Nat} (h : (g : Int) ∣ x) (hx : 1 ≤ x) : 1 ≤ x.tdiv g := by
  have := tdiv_dvd h
  rcases Int.lt_or_le 0 (x.tdiv g) with e | e
  · omega
  · have := Int.mul_nonpos_of_nonpos_of_nonneg e (Int.natCast_nonneg g)
    omega
theorem tdiv_nn {x : Int} {g : Nat} (hx : 0 ≤ x) : 0 ≤ x.tdiv g := Int.tdiv_nonneg hx (Int.natCast_nonneg g)
theorem lowI_of_abs {x y : Int} (h : x.natAbs ≤ y.natAbs) (hy : lowI y = true) : lowI x = true := by
  rw [lowI_true] at *
  omega
theorem S4.nrm_at {s : S4} (h1 : 1 ≤ s.c) (h2 : 0 ≤ s.d) : 1 ≤ s.nrm.c ∧ 0 ≤ s.nrm.d :=
  ⟨tdiv_pos (s.g_dvd).2.2.1 h1, tdiv_nn h2⟩
theorem S4.nrm_low {s : S4} (h : s.low = true) : s.nrm.low = true := by
  unfold S4.low at *
  simp only [Bool.and_eq_true] at *
  obtain ⟨⟨⟨a, b⟩, c⟩, d⟩ := h
  exact ⟨⟨⟨lowI_of_abs (tdiv_le) a, lowI_of_abs (tdiv_le) b⟩, lowI_of_abs (tdiv_le) c⟩, lowI_of_abs (tdiv_le) d⟩
/-- The state is the same for all x. -/
def S4.flat (s : S4) : Prop := s.a = s.b ∧ s.c = s.d
theorem S4.flat_nrm {s : S4} (h : s.flat) : s.nrm.flat := by
  obtain ⟨h1, h2⟩ := h
  unfold S4.flat S4.nrm
  simp only
  rw [h1, h2]
  exact ⟨rfl, rfl⟩
theorem S4.flat_tk {s : S4} {base : Int} (h : s.flat) : (s.tkS base).flat := by
  obtain ⟨h1, h2⟩ := h
  unfold S4.flat S4.tkS
  simp only
  rw [h1, h2]
  exact ⟨rfl, rfl⟩
theorem S4.flat_kn {s : S4} (h : s.flat) (hc : 1 ≤ s.c) : s.kn = true := by
  obtain ⟨h1, h2⟩ := h
  unfold S4.kn
  rw [← h1, ← h2]
  have e : (s.a + s.a) / (s.c + s.c) = s.a / s.c := by
    rw [show s.a + s.a = 2 * s.a by omega, show s.c + s.c = 2 * s.c by omega]
    exact Int.mul_ediv_mul_of_pos _ _ (by omega)
  rw [e]
  simp
  omega
section
variable {T : Nat → Option Int} {base : Int} {count : Nat}
theorem SInv.tk {s s' : S4} {k : Nat} (h : SInv s k) (hk : 0 < k) (ht : s.tk base = some s') : SInv s' k ∧ (s.flat → s'.flat) := by
  unfold S4.tk at ht
  split at ht
  · rename_i hh
    injection ht with ht
    rw [Bool.and_eq_true] at hh
    subst ht
    rcases h.pos with ⟨h1, _⟩ | ⟨_, h2, h3⟩
    · omega
    · exact ⟨⟨hh.2, .inr ⟨hk, S4.nrm_at (s := s.tkS base) h2 h3⟩, h.kle⟩, fun hf => S4.flat_nrm (S4.flat_tk hf)⟩
  · cases ht
theorem SInv.fd {s s' : S4} {k : Nat} {t : Int} (h : SInv s k) (hk : k < 1000) (hT : 0 < k → 1 ≤ t) (ht : s.fd t = some s') : SInv s' (k + 1) := by
  unfold S4.fd at ht
  split at ht
  · rename_i hh
    injection ht with ht
    rw [Bool.and_eq_true] at hh
    subst ht
    have hc : 1 ≤ (s.fdS t).c ∧ 0 ≤ (s.fdS t).d := by
      rcases h.pos with ⟨h1, rfl⟩ | ⟨h0, h2, h3⟩
      · unfold S4.fdS; simp
      · unfold S4.fdS
        simp only
        have := hT h0
        have := Int.mul_le_mul h2 this (by omega) (by omega)
        exact ⟨by omega, by omega⟩
    exact ⟨hh.2, .inr ⟨by omega, S4.nrm_at hc.1 hc.2⟩, by omega⟩
  · cases ht
theorem S4.en_low {s : S4} (h : s.low = true) : s.enS.low = true := by
  unfold S4.low S4.enS at *
  simp only [Bool.and_eq_true] at *
  exact ⟨⟨⟨h.1.1.1, h.1.1.1⟩, h.1.2⟩, h.1.2⟩
theorem SInv.en {s : S4} {k : Nat} (h : SInv s k) (hk : 0 < k) : SInv s.enS.nrm k ∧ s.enS.nrm.flat := by
  rcases h.pos with ⟨h1, _⟩ | ⟨_, h2, h3⟩
  · omega
  · exact ⟨⟨S4.nrm_low (s := s.enS) (S4.en_low h.low), .inr ⟨hk, S4.nrm_at (s := s.enS) h2 (show (0 : Int) ≤ s.c by omega)⟩, h.kle⟩, S4.flat_nrm (s := s.enS) ⟨rfl, rfl⟩⟩
/-- How many rounds are left at most. -/
noncomputable def muS (count : Nat) (s : S4) (k : Nat) (out : List Int) : Nat := by
  classical exact 2 * (count + 1 - out.length) + (1000 - k) + (if s.flat then 0 else 1)
theorem dg_some (hT0 : T 0 ≠ none) (hT : ∀ k t, T k = some t → 0 < k → 1 ≤ t) : ∀ (n : Nat) (s : S4) (k : Nat) (out : List Int), SInv s k → out.length ≤ count → muS count s k out < n → ∃ R, dg T base count n s k out = some R
  | 0, s, k, out, _, _, hm => by omega
  | n + 1, s, k, out, hi, ho, hm => by
    rw [dg]
    by_cases h1 : (decide (0 < k) && s.kn) = true
    · rw [if_pos h1]
      by_cases h2 : count < out.length + 1
      · rw [if_pos h2]; exact ⟨_, rfl⟩
      · rw [if_neg h2]
        cases ht : s.tk base with
        | none => exact ⟨_, rfl⟩
        | some s' =>
          have hk : 0 < k := by simp at h1; exact h1.1
          obtain ⟨i1, i2⟩ := hi.tk hk ht
          refine dg_some hT0 hT n s' k _ i1 (by simp; omega) ?_
          unfold muS at *
          simp only [List.length_append, List.length_cons, List.length_nil]
          by_cases hf : s.flat
          · rw [if_pos (i2 hf)]; rw [if_pos hf] at hm; omega
          · rw [if_neg hf] at hm
            split <;> omega
    · rw [if_neg h1]
      cases hTk : T k with
      | none =>
        have hk : 0 < k := by
          rcases Nat.eq_zero_or_pos k with e | e
          · subst e; exact absurd hTk hT0
          · exact e
        obtain ⟨i1, i2⟩ := hi.en hk
        refine dg_some hT0 hT n _ k out i1 ho ?_
        have hnf : ¬ s.flat := fun hf => by
          rcases hi.pos with ⟨e, _⟩ | ⟨_, h2, _⟩
          · omega
          · have := S4.flat_kn hf h2
            rw [this] at h1
            simp at h1
            omega
        unfold muS at *
        rw [if_pos i2]
        rw [if_neg hnf] at hm
        omega
      | some t =>
        by_cases h2 : 1000 ≤ k
        · simp only [if_pos h2]; exact ⟨_, rfl⟩
        · simp only [if_neg h2]
          cases ht : s.fd t with
          | none => exact ⟨_, rfl⟩
          | some s' =>
            have i1 := hi.fd (by omega) (fun h0 => hT k t hTk h0) ht
            refine dg_some hT0 hT n s' (k + 1) out i1 ho ?_
            unfold muS at *
            have hnf : 0 < k → ¬ s.flat := fun hk hf => by
              rcases hi.pos with ⟨e, _⟩ | ⟨_, h2, _⟩
              · omega
              · have := S4.flat_kn hf h2
                rw [this] at h1
                simp at h1
                omega
            have hnf0 : ¬ s.flat := by
              rcases Nat.eq_zero_or_pos k with e | e
              · rcases hi.pos with ⟨_, rfl⟩ | ⟨e', _⟩
                · unfold S4.flat; simp
                · omega
              · exact hnf e
            rw [if_neg hnf0] at hm
            split <;> omega
/-- The run from the start: it always ends. -/
theorem dg_run (hT0 : T 0 ≠ none) (hT : ∀ k t, T k = some t → 0 < k → 1 ≤ t) (hc : count ≤ 30) : ∃ R, dg T base count 1100 ⟨1, 0, 0, 1⟩ 0 [] = some R := by
  refine dg_some hT0 hT 1100 _ 0 [] ⟨rfl, .inl ⟨rfl, rfl⟩, by omega⟩ (by simp) ?_
  unfold muS
  simp only [List.length_nil]
  split <;> omega
end
end Go.Proofs.YtjgafjbccfjojaaGreat
namespace Go.Proofs.YtjgafjbccfjojaaGreat
open Go.RowKit Go.Sort
/-- A slice's address A leads to cells that read as the list xs, in a block below B. -/
def Rd {α : Type} (enc : α → Value) (w : World) (B : Nat) (A : Option Addr) (xs : List α) : Prop :=
  0 < xs.length → ∃ b off, A = some ⟨b, off, none⟩ ∧ b < B ∧ ∀ j x, xs[j]? = some x → w.cell? ⟨b, off + j, none⟩ = some (enc x)
/-- .. to cells in a block from base on, of which none is frozen. -/
def Wr {α : Type} (enc : α → Value) (w : World) (base : Nat) (A : Option Addr) (xs : List α) : Prop :=
  0 < xs.length → ∃ b off, A = some ⟨b, off, none⟩ ∧ base ≤ b ∧ b < w.heap.size ∧ (∀ j x, xs[j]? = some x → w.cell? ⟨b, off + j, none⟩ = some (enc x)) ∧ ∀ j, w.frozen? ⟨b, j, none⟩ = false
section
variable {α : Type} {enc : α → Value} {w w' : World} {B B' : Nat} {A : Option Addr} {xs : List α}
theorem Rd.nil_ : Rd enc w B A ([] : List α) := fun h => absurd h (by simp)
theorem Rd.below (h : Rd enc w B A xs) (hb : Below B w w') : Rd enc w' B A xs := fun hn => by
  obtain ⟨b, off, e, hlt, hc⟩ := h hn
  exact ⟨b, off, e, hlt, fun j x hx => (hb.cell (p := ⟨b, off + j, none⟩) hlt).trans (hc j x hx)⟩
theorem Rd.more (h : Rd enc w B A xs) (hB : B ≤ B') : Rd enc w B' A xs := fun hn => by
  obtain ⟨b, off, e, hlt, hc⟩ := h hn
  exact ⟨b, off, e, by omega, hc⟩
theorem Wr.rd (h : Wr enc w B A xs) : Rd enc w w.heap.size A xs := fun hn => by
  obtain ⟨b, off, e, _, hlt, hc, _⟩ := h hn
  exact ⟨b, off, e, hlt, hc⟩
theorem Wr.more (h : Wr enc w B A xs) (hB : B' ≤ B) : Wr enc w B' A xs := fun hn => by
  obtain ⟨b, off, e, h1, h2, hc⟩ := h hn
  exact ⟨b, off, e, by omega, h2, hc⟩
theorem Wr.below (h : Wr enc w B A xs) (hb : Below w.heap.size w w') : Wr enc w' B A xs := fun hn => by
  obtain ⟨b, off, e, h1, h2, hc, hf⟩ := h hn
  exact ⟨b, off, e, h1, Nat.lt_of_lt_of_le h2 hb.size, fun j x hx => (hb.cell (p := ⟨b, off + j, none⟩) h2).trans (hc j x hx), fun j => (hb.frozen (p := ⟨b, j, none⟩) h2).trans (hf j)⟩
theorem Wr.setLow (h : Wr enc w B A xs) {p : Addr} (hp : p.block < B) (u : Value) : Wr enc (w.setCell p u) B A xs := fun hn => by
  obtain ⟨b, off, e, h1, h2, hc, hf⟩ := h hn
  refine ⟨b, off, e, h1, by simpa using h2, fun j x hx => ?_, fun j => (World.frozen?_setCell _ _ _ _).trans (hf j)⟩
  refine (World.cell?_setCell_other w p ⟨b, off + j, none⟩ u ?_).trans (hc j x hx)
  intro e
  subst e
  exact absurd hp (Nat.not_lt.2 h1)
theorem Wr.of_own {base : Nat} {e : TypeId} {v : Value} {n : Nat} (h : w.ownsRow base e 1 v n (xs.map enc)) : n = xs.length ∧ ∃ A c, v = .slice A n c ∧ Wr enc w base A xs := by
  have hn : n = xs.length := by have := h.1; simp at this; omega
  refine ⟨hn, ?_⟩
  rcases h.2 with ⟨rfl, h0⟩ | ⟨g, cap, cur, rfl, hg, hh, hc, hm, hs, ht⟩
  · exact ⟨none, 0, by rw [h0], fun hp => by omega⟩
  · refine ⟨_, _, rfl, fun _ => ⟨g, 0, rfl, hg, ?_, fun j x hx => ?_, fun j => ?_⟩⟩
    · rcases Nat.lt_or_ge g w.heap.size with h1 | h1
      · exact h1
      · rw [Array.getElem?_eq_none h1] at hh; cases hh
    · have hx' : (xs.map enc)[j]? = some (enc x) := by rw [List.getElem?_map, hx]; rfl
      have := h.cells (g := g) rfl j _ hx'
      have ea : (⟨g, 0, none⟩ : Addr).add j = ⟨g, 0 + j, none⟩ := by
        unfold Addr.add
        by_cases hj : j = 0 <;> simp [hj]
      rw [ea] at this
      exact this
    · simp [World.frozen?, hh]
end
theorem own_below {w w' : World} {base : Nat} {e : TypeId} {size n : Nat} {v : Value} {xs : List Value} (h : w.ownsRow base e size v n xs) (hb : Below w.heap.size w w') : w'.ownsRow base e size v n xs := by
  obtain ⟨h1, h2⟩ := h
  refine ⟨h1, ?_⟩
  rcases h2 with h2 | ⟨g, cap, cur, hv, hg, hh, r⟩
  · exact .inl h2
  · have hlt : g < w.heap.size := by
      rcases Nat.lt_or_ge g w.heap.size with h | h
      · exact h
      · rw [Array.getElem?_eq_none h] at hh; cases hh
    exact .inr ⟨g, cap, cur, hv, hg, (hb.block g hlt).trans hh, r⟩
/-- Behind an append: what lay below the row's base is as it was. -/
theorem below_grown {w0 w w' : World} {base : Nat} {e : TypeId} {size n : Nat} {v : Value} {xs : List Value} (h : Below w0.heap.size w0 w) (hown : w.ownsRow base e size v n xs) (hbase : w0.heap.size ≤ base) (hg : w.grownBy w' v.ownBlock) : Below w0.heap.size w0 w' :=
  h.grown hg h.size (fun k hk => Nat.le_trans hbase (hown.lt k hk).1)
theorem own_slice {w : World} {base : Nat} {e : TypeId} {size n : Nat} {v : Value} {xs : List Value} (h : w.ownsRow base e size v n xs) : ∃ A c, v = .slice A n c := by
  rcases h.2 with ⟨rfl, rfl⟩ | ⟨g, cap, cur, rfl, _⟩
  · exact ⟨_, _, rfl⟩
  · exact ⟨_, _, rfl⟩
theorem own_nil {w : World} {base : Nat} {e : TypeId} {size : Nat} : w.ownsRow base e size (.slice none 0 0) 0 [] := World.ownsRow_nil _ _ _ _
theorem info64 : (Tryz.prog.info? 2).map (fun i => (i.zero, i.size, i.bytes)) = some (some (.int .i64 0), 1, 8) := by kernel_rfl
theorem take_eq_succ {α : Type} {xs ys : List α} {k : Nat} {x : α} (h : xs.take k = ys.take k) (hx : xs[k]? = some x) (hy : ys[k]? = some x) : xs.take (k + 1) = ys.take (k + 1) := by
  rw [List.take_add_one, List.take_add_one, h, hx, hy]
set_option maxHeartbeats 400000 in
theorem f6ints_any (A B : Option Addr) (c d : Nat) (xs ys : List Int) (w : World) (hx : Rd (Value.int .i64) w w.heap.size A xs) (hy : Rd (Value.int .i64) w w.heap.size B ys) (hm : xs.length ≤ maxLen) (hm' : ys.length ≤ maxLen) :
    Calls Tryz.prog 17 #[.slice A xs.length c, .slice B ys.length d] w fun e w' => e = .returned (.bool (decide (xs = ys))) ∧ Below w.heap.size w w' := by
  unfold maxLen at hm hm'
  by_cases hl : xs.length = ys.length
  · have hl0 : ((xs.length : Int) != (ys.length : Int)) = false := by simp [hl]
    have HL := Lib.hid hl
    have hl1 : xs.length ≤ ys.length := by omega
    have hl2 : ys.length ≤ xs.length := by omega
    clear hl
    go_enter Tryz.func17, Tryz.ntmps17
    go_wp2
    go_loopw [5] (fun t wr => ∃ k : Nat, k ≤ xs.length ∧ t = .int .i64 k ∧ xs.take k = ys.take k ∧ ∃ n, wr = w.drewN n) (fun t _ => xs.length - (intOf t).toNat)
    case atStart => exact ⟨0, by omega, rfl, by simp, 0, rfl⟩
    case round =>
      obtain ⟨k, hk, rfl, ht, nn, rfl⟩ := hrel
      have HT := Lib.hid ht
      clear ht
      by_cases hlt : k < xs.length
      · obtain ⟨b, off, rfl, hb, hc⟩ := hx (by omega)
        obtain ⟨b', off', rfl, hb', hc'⟩ := hy (by omega)
        obtain ⟨x, hxk⟩ : ∃ x, xs[k]? = some x := ⟨_, List.getElem?_eq_getElem hlt⟩
        obtain ⟨y, hyk⟩ : ∃ y, ys[k]? = some y := ⟨_, List.getElem?_eq_getElem (by omega)⟩
        have c1 := hc k x hxk
        have c2 := hc' k y hyk
        have HX := Lib.hid hxk
        have HY := Lib.hid hyk
        clear hc hc' hxk hyk
        have i0 : (0 : Int) ≤ (k : Int) := by omega
        have i1 : (k : Int) < (xs.length : Int) := by omega
        have i2 : (k : Int) < (ys.length : Int) := by omega
        by_cases hxy : x = y
        · subst hxy
          go_wp2_with fail
          go_quiet (fail)
          go_wp2
          go_roundw
          case rel => exact ⟨k + 1, by omega, by go_num, take_eq_succ HT.out HX.out HY.out, _, rfl⟩
          case measure => simp [intOf]; omega
        · have hne : (x != y) = true := by simpa using hxy
          have hne' : (x == y) = false := by simpa using hxy
          go_wp2_with fail
          go_quiet (fail)
          go_wp2
          go_ret
          refine ⟨ret_bool ?_, ⟨rfl, rfl, rfl, Nat.le_refl _, fun _ _ => rfl⟩⟩
          symm
          rw [decide_eq_false_iff_not]
          rintro rfl
          exact hxy (Option.some.inj (HX.out.symm.trans HY.out))
      · go_wp2
        go_ret
        refine ⟨ret_bool ?_, ⟨rfl, rfl, rfl, Nat.le_refl _, fun _ _ => rfl⟩⟩
        symm
        rw [decide_eq_true_iff]
        have h := HT.out
        rw [List.take_of_length_le (by omega), List.take_of_length_le (by omega)] at h
        exact h
  · have hl0 : ((xs.length : Int) != (ys.length : Int)) = true := by simp; omega
    have hl1 : ((xs.length : Int) == (ys.length : Int)) = false := by simp; omega
    go_enter Tryz.func17, Tryz.ntmps17
    go_wp2
    go_ret
    exact ⟨ret_bool (by symm; rw [decide_eq_false_iff_not]; rintro rfl; exact hl rfl), Below.refl _ _⟩
end Go.Proofs.YtjgafjbccfjojaaGreat
