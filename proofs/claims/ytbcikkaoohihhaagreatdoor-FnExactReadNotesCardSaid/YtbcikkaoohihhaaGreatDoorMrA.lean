/- XBase XFracW XCalW XDriftW XSlices XExpW XPutL XConvW in one text. No condition but those that each theorem names. -/
import Derived.Test.YtbcikkaoohihhaaGreatDoorRows
import Derived.WalkKit
import Derived.WalkLawsBesides
import Derived.WalkSpells
import Derived.Outline
import Derived.Lib.Hide
import Derived.Deep.QuietTactic
import Derived.BigQuiet
import Derived.Lib.QuietBelow
import Derived.Below
import Derived.RegionTactic
import Derived.Maps.AppendAt
import Derived.Deep.AppendLies
import Derived.OwnWalk
import Derived.Deep.RegionHeld3
import Derived.Deep.RegionWith
/- Words that all texts of this seat share: results, hidden facts, worlds. No condition. -/
namespace Go.Proofs.YtbcikkaoohihhaaGreatDoor
open Go.RowKit Go.Sort

theorem ret_bool {a b : Bool} (h : a = b) : Ending.returned (.bool a) = .returned (.bool b) := by rw [h]
theorem ret_int {k : IntKind} {a b : Int} (h : a = b) : Ending.returned (.int k a) = .returned (.int k b) := by rw [h]
theorem val_int {k : IntKind} {a b : Int} (h : a = b) : Value.int k a = .int k b := by rw [h]
theorem val_bool {a b : Bool} (h : a = b) : Value.bool a = .bool b := by rw [h]
theorem bcell {W w1 : World} (hb : Below W.heap.size W w1) : (∀ b o, b < W.heap.size → w1.cell? ⟨b, o, none⟩ = W.cell? ⟨b, o, none⟩) ∧ (∀ b o, b < W.heap.size → w1.frozen? ⟨b, o, none⟩ = W.frozen? ⟨b, o, none⟩) :=
  ⟨fun b o h => hb.cell (p := ⟨b, o, none⟩) h, fun b o h => hb.frozen (p := ⟨b, o, none⟩) h⟩

theorem ext_trans {a b c : World} (h : Below a.heap.size a b) (k : Below b.heap.size b c) : Below a.heap.size a c := h.trans (k.mono h.size)
theorem ext_alloc {a b : World} (h : Below a.heap.size a b) (o : Obj) : Below a.heap.size a (b.alloc o) := h.alloc h.size o
theorem ext_drew {a b : World} (h : Below a.heap.size a b) : Below a.heap.size a b.drew := h.drew
theorem ext_set {a b : World} (h : Below a.heap.size a b) {p : Addr} (hp : a.heap.size ≤ p.block) (u : Value) : Below a.heap.size a (b.setCell p u) := h.setCell hp u

/-- A callee that leaves the world alone, met in a region's class of worlds. -/
theorem regrown_same {P : Program} {f : FuncId} {args : Array Value} {w : World} {d : Nat} {os : Array Obj} {v : Value}
    (h : Calls P f args (grow (redrawn w d) os) fun e w' => e = .returned v ∧ grow (redrawn w d) os = w') : Calls P f args (grow (redrawn w d) os) fun e w'' => e = .returned v ∧ ∃ p : Regrown, w'' = grow (redrawn w p.d) p.os :=
  h.mono fun _ _ ⟨he, hw⟩ => ⟨he, ⟨d, os⟩, hw.symm⟩

theorem bcellB {B : Nat} {W w1 : World} (hb : Below B W w1) : (∀ b o, b < B → w1.cell? ⟨b, o, none⟩ = W.cell? ⟨b, o, none⟩) ∧ (∀ b o, b < B → w1.frozen? ⟨b, o, none⟩ = W.frozen? ⟨b, o, none⟩) :=
  ⟨fun b o h => hb.cell (p := ⟨b, o, none⟩) h, fun b o h => hb.frozen (p := ⟨b, o, none⟩) h⟩

theorem cell_one (w : World) (C : Array Value) (s : TypeId) (j : Nat) : (w.alloc (.cells C s)).cell? ⟨w.heap.size, j, none⟩ = C[j]? := World.cell?_alloc_at _ _ _ _ rfl
theorem cell_two_fst (w : World) (C D : Array Value) (s t : TypeId) (j : Nat) : ((w.alloc (.cells C s)).alloc (.cells D t)).cell? ⟨w.heap.size, j, none⟩ = C[j]? :=
  (World.cell?_alloc_lt _ _ _ (by simp)).trans (cell_one w C s j)
theorem cell_two_snd (w : World) (C D : Array Value) (s t : TypeId) (j : Nat) : ((w.alloc (.cells C s)).alloc (.cells D t)).cell? ⟨w.heap.size + 1, j, none⟩ = D[j]? :=
  World.cell?_alloc_at _ _ _ _ (by simp)

/-- A struct's result: its cells behind the stores. -/
theorem set_two {w : World} {b : Nat} {x y : Value} (h0 : w.cell? ⟨b, 0, none⟩ = some x) (h1 : w.cell? ⟨b, 1, none⟩ = some y) :
    (∀ v, (w.setCell ⟨b, 0, none⟩ v).cell? ⟨b, 0, none⟩ = some v) ∧ (∀ u v, ((w.setCell ⟨b, 0, none⟩ u).setCell ⟨b, 1, none⟩ v).cell? ⟨b, 1, none⟩ = some v) :=
  ⟨fun v => World.cell?_setCell_same _ _ _ h0, fun u v => World.cell?_setCell_same (v := v) _ _ ((World.cell?_setCell_other _ ⟨b, 0, none⟩ ⟨b, 1, none⟩ _ (by simp)).trans h1)⟩

theorem ext1 (W : World) (o : Obj) : Below W.heap.size W (W.alloc o) := ext_alloc (Below.refl _ _) o

/-- lo ≤ n ≤ hi, as a Bool. -/
def inR (n lo hi : Int) : Bool := decide (lo ≤ n) && decide (n ≤ hi)
theorem inR_true {n lo hi : Int} : inR n lo hi = true ↔ lo ≤ n ∧ n ≤ hi := by simp [inR]
theorem inR_false {n lo hi : Int} : inR n lo hi = false ↔ n < lo ∨ hi < n := by simp [inR]; omega

theorem within_any (n lo hi : Int) (w : World) :
    Calls Tryz.prog 137 #[.int .i64 n, .int .i64 lo, .int .i64 hi] w fun e w' => e = .returned (.bool (inR n lo hi)) ∧ w = w' := by
  go_enter Tryz.func137, Tryz.ntmps137
  go_wp2
  all_goals
    go_ret
    exact ⟨ret_bool (by simp [inR]; omega), rfl⟩

theorem within_is {n lo hi : Int} {b : Bool} (h : inR n lo hi = b) (w : World) :
    Calls Tryz.prog 137 #[.int .i64 n, .int .i64 lo, .int .i64 hi] w fun e w' => e = .returned (.bool b) ∧ w = w' := h ▸ within_any n lo hi w

theorem l00In_any (n lo hi : Int) (w : World) :
    Calls Tryz.prog 146 #[.int .i64 n, .int .i64 lo, .int .i64 hi] w fun e w' => e = .returned (.bool (inR n lo hi)) ∧ w = w' := by
  go_enter Tryz.func146, Tryz.ntmps146
  go_wp2
  all_goals
    go_ret
    exact ⟨ret_bool (by simp [inR]; omega), rfl⟩
theorem l00In_is {n lo hi : Int} {b : Bool} (h : inR n lo hi = b) (w : World) :
    Calls Tryz.prog 146 #[.int .i64 n, .int .i64 lo, .int .i64 hi] w fun e w' => e = .returned (.bool b) ∧ w = w' := h ▸ l00In_any n lo hi w
end Go.Proofs.YtbcikkaoohihhaaGreatDoor

/- Fractions: absolute values, greatest common divisors, plain fractions. No condition but those that each theorem names. -/
namespace Go.Proofs.YtbcikkaoohihhaaGreatDoor
open Go.RowKit Go.Sort

@[reducible] def fracV (n d : Int) : Value := .agg #[.int .i64 n, .int .i64 d]
theorem fracF0 (a b : Int) (w : World) : (Instr.field 31 (.agg #[.int .i64 a, .int .i64 b]) 0).run Tryz.prog w = .ok (.int .i64 a) w := by kernel_rfl
theorem fracF1 (a b : Int) (w : World) : (Instr.field 31 (.agg #[.int .i64 a, .int .i64 b]) 1).run Tryz.prog w = .ok (.int .i64 b) w := by kernel_rfl
/-- A product of bounded numbers. -/
theorem mul_bd {x y M N : Int} (hM : 0 ≤ M) (h2 : x ≤ M) (hN : 0 ≤ N) (h4 : y ≤ N) (h1 : -M ≤ x) (h3 : -N ≤ y) : -(M * N) ≤ x * y ∧ x * y ≤ M * N := by
  have a : (x * y).natAbs ≤ (M * N).natAbs := by
    rw [Int.natAbs_mul, Int.natAbs_mul]
    exact Nat.mul_le_mul (by omega) (by omega)
  have p : 0 ≤ M * N := Int.mul_nonneg hM hN
  omega
def fracOk (n d : Int) : Bool := inR d 1 1000000000 && inR n (-1000000000) 1000000000 && decide (Int.gcd n d = 1)
theorem fracOk_true {n d : Int} : fracOk n d = true ↔ 1 ≤ d ∧ d ≤ 1000000000 ∧ -1000000000 ≤ n ∧ n ≤ 1000000000 ∧ Int.gcd n d = 1 := by
  unfold fracOk; rw [Bool.and_eq_true, Bool.and_eq_true, inR_true, inR_true, decide_eq_true_iff]; omega

theorem abs_any (n : Int) (w : World) (h1 : -9223372036854775807 ≤ n) (h2 : n ≤ 9223372036854775807) :
    Calls Tryz.prog 173 #[.int .i64 n] w fun e w' => e = .returned (.int .i64 (n.natAbs : Int)) ∧ w = w' := by
  by_cases h : n < 0
  all_goals
    go_enter Tryz.func173, Tryz.ntmps173
    go_wp2
    go_ret
    exact ⟨ret_int (by omega), rfl⟩
theorem l02Size_any (n : Int) (w : World) (h1 : -9223372036854775807 ≤ n) (h2 : n ≤ 9223372036854775807) :
    Calls Tryz.prog 148 #[.int .i64 n] w fun e w' => e = .returned (.int .i64 (n.natAbs : Int)) ∧ w = w' := by
  by_cases h : n < 0
  all_goals
    go_enter Tryz.func148, Tryz.ntmps148
    go_wp2
    go_ret
    exact ⟨ret_int (by omega), rfl⟩

theorem beq_one (x : Nat) : ((x : Int) == 1) = decide (x = 1) := by rw [Bool.eq_iff_iff]; simp; omega
theorem gcd_step (x y : Nat) (_ : 0 < y) : Nat.gcd y (x % y) = Nat.gcd x y := by
  rw [Nat.gcd_comm x y, Nat.gcd_rec y x, Nat.gcd_comm]

theorem gcd_any (a b : Int) (w : World) (a1 : -9223372036854775807 ≤ a) (a2 : a ≤ 9223372036854775807) (b1 : -9223372036854775807 ≤ b) (b2 : b ≤ 9223372036854775807) :
    Calls Tryz.prog 138 #[.int .i64 a, .int .i64 b] w fun e w' => e = .returned (.int .i64 (Int.gcd a b : Int)) ∧ Below w.heap.size w w' := by
  go_enter Tryz.func138, Tryz.ntmps138
  go_wp2_with fail
  refine (abs_any a _ a1 a2).mono ?_
  rintro e w' ⟨rfl, rfl⟩
  go_wp2_with fail
  refine (abs_any b _ b1 b2).mono ?_
  rintro e w' ⟨rfl, rfl⟩
  go_wp2_with fail
  go_loopw [0, 1] (fun s t wr => ∃ x y : Nat, x ≤ 9223372036854775807 ∧ y ≤ 9223372036854775807 ∧ Hid (Nat.gcd x y = Int.gcd a b) ∧ s = .int .i64 x ∧ t = .int .i64 y ∧ ∃ n, wr = w.drewN n) (fun _ t _ => (intOf t).toNat)
  case atStart => exact ⟨a.natAbs, b.natAbs, by omega, by omega, rfl, rfl, rfl, 0, rfl⟩
  case round =>
    obtain ⟨x, y, hx, hy, HG, rfl, rfl, nn, rfl⟩ := hrel
    by_cases h0 : 0 < y
    · have e1 : ((y : Int) != 0) = true := by rw [bne_iff_ne]; omega
      have e2 : ((y : Int) == 0) = false := by simp; omega
      have hlt : x % y < y := Nat.mod_lt _ h0
      have HS := Lib.hid (gcd_step x y h0)
      go_wp2_with fail
      go_quiet (fail)
      go_wp2
      go_roundw
      case rel => exact ⟨y, x % y, hy, by omega, by have h := HS.out; have g := HG.out; unfold Hid; omega, rfl, val_int (by simp), _, World.drewN_drewN _ _ _⟩
      case measure =>
        have : (intOf (.int .i64 ((x : Int) % y))).toNat = x % y := by simp only [intOf]; omega
        simp only [intOf] at this ⊢
        omega
    · obtain rfl : y = 0 := by omega
      have e1 : (((0 : Nat) : Int) != 0) = false := by simp
      go_wp2
      go_ret
      exact ⟨ret_int (by have h := HG.out; simp at h; omega), ⟨rfl, rfl, rfl, Nat.le_refl _, fun _ _ => rfl⟩⟩

theorem l02Gcd_any (a b : Nat) (w : World) (ha : a ≤ 9223372036854775807) (hb : b ≤ 9223372036854775807) :
    Calls Tryz.prog 147 #[.int .i64 a, .int .i64 b] w fun e w' => e = .returned (.int .i64 (Nat.gcd a b : Int)) ∧ w = w' := by
  go_enter Tryz.func147, Tryz.ntmps147
  go_wp2_with fail
  go_loop [0, 1] (fun s t => ∃ x y : Nat, x ≤ 9223372036854775807 ∧ y ≤ 9223372036854775807 ∧ Hid (Nat.gcd x y = Nat.gcd a b) ∧ s = .int .i64 x ∧ t = .int .i64 y) (fun _ t => (intOf t).toNat)
  case atStart => exact ⟨a, b, ha, hb, rfl, rfl, rfl⟩
  case round =>
    obtain ⟨x, y, hx, hy, HG, rfl, rfl⟩ := hrel
    by_cases h0 : 0 < y
    · have e1 : ((y : Int) != 0) = true := by rw [bne_iff_ne]; omega
      have e2 : ((y : Int) == 0) = false := by simp; omega
      have hlt : x % y < y := Nat.mod_lt _ h0
      have HS := Lib.hid (gcd_step x y h0)
      go_wp2
      go_round
      case rel => exact ⟨y, x % y, hy, by omega, by have h := HS.out; have g := HG.out; unfold Hid; omega, rfl, val_int (by simp)⟩
      case measure =>
        have : (intOf (.int .i64 ((x : Int) % y))).toNat = x % y := by simp only [intOf]; omega
        simp only [intOf] at this ⊢
        omega
    · obtain rfl : y = 0 := by omega
      have e1 : (((0 : Nat) : Int) != 0) = false := by simp
      go_wp2
      go_ret
      exact ⟨ret_int (by have h := HG.out; simp at h; omega), rfl⟩

theorem ValidFraction_any (n d : Int) (w : World) :
    Calls Tryz.prog 94 #[fracV n d] w fun e w' => e = .returned (.bool (fracOk n d)) ∧ Below w.heap.size w w' := by
  unfold fracV fracOk
  cases h1 : inR d 1 1000000000
  · go_enter Tryz.func94, Tryz.ntmps94
    go_wp2_with (go_at_call 137; refine (within_any _ _ _ _).mono ?_; rintro e w' ⟨rfl, rfl⟩)
    go_ret
    exact ⟨rfl, ext_alloc (Below.refl _ _) _⟩
  · obtain ⟨d1, d2⟩ := inR_true.1 h1
    cases h2 : inR n (-1000000000) 1000000000
    · go_enter Tryz.func94, Tryz.ntmps94
      go_wp2_with (go_at_call 137; refine (within_any _ _ _ _).mono ?_; rintro e w' ⟨rfl, rfl⟩)
      go_ret
      exact ⟨rfl, ext_alloc (Below.refl _ _) _⟩
    · obtain ⟨n1, n2⟩ := inR_true.1 h2
      go_enter Tryz.func94, Tryz.ntmps94
      go_wp2_with (first | (go_at_call 137; refine (within_any _ _ _ _).mono ?_; rintro e w' ⟨rfl, rfl⟩) | (go_at_call 138; refine (gcd_any _ _ _ (by omega) (by omega) (by omega) (by omega)).mono ?_; rintro e w1 ⟨rfl, hb1⟩))
      go_ret
      refine ⟨ret_bool ?_, ext_trans (ext_alloc (Below.refl _ _) _) hb1⟩
      rw [Bool.eq_iff_iff]; simp; omega

theorem l02Ok_any (n d : Int) (w : World) :
    Calls Tryz.prog 104 #[fracV n d] w fun e w' => e = .returned (.bool (fracOk n d)) ∧ Below w.heap.size w w' := by
  unfold fracV fracOk
  cases h2 : inR n (-1000000000) 1000000000
  · rw [Bool.and_false, Bool.false_and]
    go_enter Tryz.func104, Tryz.ntmps104
    go_wp2
    generalize hW : w.alloc _ = W
    have hb0 : Below w.heap.size w W := by rw [← hW]; exact ext_alloc (Below.refl _ _) _
    have k0 : ∀ d' os, (grow (redrawn W d') os).cell? ⟨w.heap.size, 0, none⟩ = some (.int .i64 n) := cell_regrown (by rw [← hW, cell_one]; rfl)
    have k1 : ∀ d' os, (grow (redrawn W d') os).cell? ⟨w.heap.size, 1, none⟩ = some (.int .i64 d) := cell_regrown (by rw [← hW, cell_one]; rfl)
    clear hW
    refine wp_region_quiet_below (by kernel_rfl) (by kernel_rfl) ?_
    repeat (first | go_big_quiet_step ((with_reducible exact regrown_same (l00In_is h2 _))) | quiet_step ((with_reducible exact regrown_same (l00In_is h2 _))))
    refine wpQuiet_nil ?_
    intro _ hw'
    obtain ⟨⟨dq, oq⟩, hw''⟩ := hw'
    subst hw''
    go_wp2
    go_ret
    exact ⟨rfl, ext_trans hb0 (below_regrown W dq oq)⟩
  · obtain ⟨n1, n2⟩ := inR_true.1 h2
    cases h1 : inR d 1 1000000000
    · rw [Bool.false_and, Bool.false_and]
      go_enter Tryz.func104, Tryz.ntmps104
      go_wp2
      generalize hW : w.alloc _ = W
      have hb0 : Below w.heap.size w W := by rw [← hW]; exact ext_alloc (Below.refl _ _) _
      have k0 : ∀ d' os, (grow (redrawn W d') os).cell? ⟨w.heap.size, 0, none⟩ = some (.int .i64 n) := cell_regrown (by rw [← hW, cell_one]; rfl)
      have k1 : ∀ d' os, (grow (redrawn W d') os).cell? ⟨w.heap.size, 1, none⟩ = some (.int .i64 d) := cell_regrown (by rw [← hW, cell_one]; rfl)
      clear hW
      refine wp_region_quiet_below (by kernel_rfl) (by kernel_rfl) ?_
      repeat (first | go_big_quiet_step ((first | (with_reducible exact regrown_same (l00In_is h2 _)) | (with_reducible exact regrown_same (l00In_is h1 _)))) | quiet_step ((first | (with_reducible exact regrown_same (l00In_is h2 _)) | (with_reducible exact regrown_same (l00In_is h1 _)))))
      refine wpQuiet_nil ?_
      intro _ hw'
      obtain ⟨⟨dq, oq⟩, hw''⟩ := hw'
      subst hw''
      go_wp2
      go_ret
      exact ⟨rfl, ext_trans hb0 (below_regrown W dq oq)⟩
    · obtain ⟨d1, d2⟩ := inR_true.1 h1
      obtain ⟨m, rfl⟩ := Int.eq_ofNat_of_zero_le (a := d) (by omega)
      go_enter Tryz.func104, Tryz.ntmps104
      go_wp2
      generalize hW : w.alloc _ = W
      have hb0 : Below w.heap.size w W := by rw [← hW]; exact ext_alloc (Below.refl _ _) _
      have k0 : ∀ d' os, (grow (redrawn W d') os).cell? ⟨w.heap.size, 0, none⟩ = some (.int .i64 n) := cell_regrown (by rw [← hW, cell_one]; rfl)
      have k1 : ∀ d' os, (grow (redrawn W d') os).cell? ⟨w.heap.size, 1, none⟩ = some (.int .i64 m) := cell_regrown (by rw [← hW, cell_one]; rfl)
      clear hW
      refine wp_region_quiet_below (by kernel_rfl) (by kernel_rfl) ?_
      repeat (first | go_big_quiet_step ((first | (with_reducible exact regrown_same (l00In_is h2 _)) | (with_reducible exact regrown_same (l00In_is h1 _)) | (with_reducible exact regrown_same (l02Size_any n _ (by omega) (by omega))) | (with_reducible exact regrown_same (l02Gcd_any n.natAbs m _ (by omega) (by omega))))) | quiet_step ((first | (with_reducible exact regrown_same (l00In_is h2 _)) | (with_reducible exact regrown_same (l00In_is h1 _)) | (with_reducible exact regrown_same (l02Size_any n _ (by omega) (by omega))) | (with_reducible exact regrown_same (l02Gcd_any n.natAbs m _ (by omega) (by omega))))))
      refine wpQuiet_nil ?_
      intro _ hw'
      obtain ⟨⟨dq, oq⟩, hw''⟩ := hw'
      subst hw''
      go_wp2
      go_ret
      refine ⟨ret_bool ?_, ext_trans hb0 (below_regrown W dq oq)⟩
      exact (beq_one _).trans (Bool.true_and _).symm

/-- A fraction in lowest terms, its denominator positive. -/
def qN (n d : Int) : Int := (if d < 0 then -n else n) / (Int.gcd n d : Int)
def qD (n d : Int) : Int := (d.natAbs : Int) / (Int.gcd n d : Int)
def fullN (n d : Int) : Int := if fracOk (qN n d) (qD n d) = true then qN n d else 0
def fullD (n d : Int) : Int := if fracOk (qN n d) (qD n d) = true then qD n d else 0
def fullC (n d : Int) : Int := if fracOk (qN n d) (qD n d) = true then 0 else 5

theorem gcd_pos' {n d : Int} (hd : d ≠ 0) : 0 < (Int.gcd n d : Int) := by
  have : 0 < Int.gcd n d := Int.gcd_pos_of_ne_zero_right _ hd
  omega
theorem tdiv_gcd {n d : Int} : n.tdiv (Int.gcd n d : Int) = n / (Int.gcd n d : Int) ∧ d.tdiv (Int.gcd n d : Int) = d / (Int.gcd n d : Int) :=
  ⟨Int.tdiv_eq_ediv_of_dvd (Int.gcd_dvd_left ..), Int.tdiv_eq_ediv_of_dvd (Int.gcd_dvd_right ..)⟩
theorem ediv_bd {n g M : Int} (hg : 0 < g) (h1 : -M ≤ n) (h2 : n ≤ M) : -M ≤ n / g ∧ n / g ≤ M := by
  constructor
  · have : (-M) / g ≤ n / g := Int.ediv_le_ediv hg h1
    have h3 : -M ≤ (-M) / g := by
      rw [Int.le_ediv_iff_mul_le hg]
      have : M * 1 ≤ M * g := Int.mul_le_mul_of_nonneg_left (by omega) (by omega)
      rw [Int.neg_mul]; omega
    omega
  · have : n / g ≤ M / g := Int.ediv_le_ediv hg h2
    have := Int.ediv_le_self g (show 0 ≤ M by omega)
    omega

set_option maxHeartbeats 1000000 in
theorem l02Make_any (n d : Int) (w : World) (n1 : -9223372036854775807 ≤ n) (n2 : n ≤ 9223372036854775807) (d1 : 1 ≤ d) (d2 : d ≤ 9223372036854775807) :
    Calls Tryz.prog 134 #[.int .i64 n, .int .i64 d] w fun e w' => e = .returned (fracV (qN n d) (qD n d)) ∧ Below w.heap.size w w' := by
  have hg := gcd_pos' (n := n) (d := d) (by omega)
  obtain ⟨t1, t2⟩ := tdiv_gcd (n := n) (d := d)
  have hgm : (Int.gcd n d : Int) ≤ 9223372036854775807 := by
    have : Int.gcd n d ≤ d.natAbs := Nat.le_of_dvd (by omega) (by exact Nat.gcd_dvd_right _ _)
    omega
  obtain ⟨q1, q2⟩ := ediv_bd (M := 9223372036854775807) hg n1 n2
  obtain ⟨q3, q4⟩ := ediv_bd (M := 9223372036854775807) hg (show -9223372036854775807 ≤ d by omega) d2
  have e1 : qN n d = n.tdiv (Int.gcd n d : Int) := by rw [t1, qN, if_neg (by omega)]
  have e2 : qD n d = d / (Int.gcd n d : Int) := by rw [qD]; congr 1; omega
  rw [e1, e2]
  rw [← t1] at q1 q2
  clear e1 e2 t1 t2
  obtain ⟨m, rfl⟩ := Int.eq_ofNat_of_zero_le (a := d) (by omega)
  obtain ⟨g, hgd⟩ : ∃ g : Int, g = Int.gcd n m := ⟨_, rfl⟩
  rw [← hgd] at hg hgm q1 q2 q3 q4 ⊢
  have HG := Lib.hid hgd
  clear hgd
  have q3' : 0 ≤ (m : Int) / g := Int.ediv_nonneg (by omega) (by omega)
  generalize ha : n.tdiv g = a at q1 q2 ⊢
  generalize hb : (m : Int) / g = b at q3 q4 q3' ⊢
  have g0 : (g == 0) = false := by simp; omega
  have w1 : IntKind.i64.wrap a = a := IntWalk.i64_in _ (by omega)
  have w2 : IntKind.i64.wrap b = b := IntWalk.i64_in _ (by omega)
  have hb2 : (m : Int).tdiv g = b := by rw [Int.tdiv_eq_ediv_of_nonneg (by omega)]; exact hb
  go_enter Tryz.func134, Tryz.ntmps134
  go_wp2_with fail
  refine (l02Size_any n _ n1 n2).mono ?_
  rintro e w' ⟨rfl, rfl⟩
  go_wp2_with fail
  refine (l02Gcd_any n.natAbs m _ (by omega) (by omega)).mono ?_
  rw [show (Nat.gcd n.natAbs m : Int) = g by rw [HG.out]; simp [Int.gcd]]
  rintro e w' ⟨rfl, rfl⟩
  go_wp2
  go_region
  go_wp2
  exact bodyPost_ret (v := fracV a b) (by simp [results, Tryz.results134, go_sem]; done) rfl ⟨rfl, ext_drew (ext_alloc (Below.refl _ _) _)⟩

theorem eqFraction_any (n d : Int) (w : World) :
    Calls Tryz.prog 86 #[fracV n d, fracV n d] w fun e w' => e = .returned (.bool true) ∧ Below w.heap.size w w' := by
  unfold fracV
  go_enter Tryz.func86, Tryz.ntmps86
  go_wp2
  go_ret
  exact ⟨rfl, ext_alloc (ext_alloc (Below.refl _ _) _) _⟩
end Go.Proofs.YtbcikkaoohihhaaGreatDoor

/- The walks of the calendars' small functions. No condition but those that each theorem names. -/
namespace Go.Proofs.YtbcikkaoohihhaaGreatDoor
open Go.RowKit Go.Sort

@[reducible] def ruleV (l c s : Int) : Value := .agg #[.int .i64 l, .int .i64 c, .int .i64 s]
def befV (l c s y : Int) : Int := (y * l + s) / c
def leapB (l c s y : Int) : Bool := decide (befV l c s y < befV l c s (y + 1))
theorem befV_bd {l c s y : Int} (hl : 0 ≤ l) (hl' : l ≤ c) (hc : 1 ≤ c) (hs : 0 ≤ s) (hs' : s ≤ c - 1) (hy : 0 ≤ y) : 0 ≤ befV l c s y ∧ befV l c s y ≤ y := by
  unfold befV
  have h1 : 0 ≤ y * l := Int.mul_nonneg hy hl
  have h2 : y * l ≤ y * c := Int.mul_le_mul_of_nonneg_left hl' hy
  refine ⟨Int.ediv_nonneg (by omega) (by omega), ?_⟩
  have h3 : (y * l + s) / c < y + 1 := Int.ediv_lt_of_lt_mul (by omega) (by rw [Int.add_mul]; omega)
  omega
theorem befV_step {l c s y : Int} (hl : 0 ≤ l) (hl' : l ≤ c) (hc : 1 ≤ c) : befV l c s y ≤ befV l c s (y + 1) ∧ befV l c s (y + 1) ≤ befV l c s y + 1 := by
  unfold befV
  have e : (y + 1) * l + s = y * l + s + l := by rw [Int.add_mul]; omega
  rw [e]
  constructor
  · exact Int.ediv_le_ediv (by omega) (by omega)
  · have : (y * l + s + l) / c ≤ (y * l + s + c) / c := Int.ediv_le_ediv (by omega) (by omega)
    rw [Int.add_ediv_of_dvd_right (Int.dvd_refl c), Int.ediv_self (by omega)] at this
    exact this

/-- A rule is valid. -/
def ruleOk (l c s : Int) : Bool := inR c 1 1000 && inR l 0 c && inR s 0 (c - 1)
theorem ruleOk_true {l c s : Int} : ruleOk l c s = true ↔ 1 ≤ c ∧ c ≤ 1000 ∧ 0 ≤ l ∧ l ≤ c ∧ 0 ≤ s ∧ s ≤ c - 1 := by
  unfold ruleOk; rw [Bool.and_eq_true, Bool.and_eq_true, inR_true, inR_true, inR_true]; omega
/-- The code of a rule and a year. -/
def yearCode (l c s y : Int) : Int := if ruleOk l c s = true then (if inR y 0 100000 = true then 0 else 2) else 1
theorem yearCode_zero {l c s y : Int} (h : yearCode l c s y = 0) : 0 ≤ l ∧ l ≤ c ∧ 1 ≤ c ∧ c ≤ 1000 ∧ 0 ≤ s ∧ s ≤ c - 1 ∧ 0 ≤ y ∧ y ≤ 100000 := by
  unfold yearCode at h
  split at h
  · split at h
    · rename_i h1 h2
      have h1 := ruleOk_true.1 h1
      have h2 := inR_true.1 h2
      omega
    · cases h
  · cases h


/-- How many days a year has; the code and the number of a day. -/
def daysV (l c s y : Int) : Int := 365 + (befV l c s (y + 1) - befV l c s y)
def dayC (l c s y d : Int) : Int := if yearCode l c s y = 0 then (if inR d 0 (daysV l c s y - 1) = true then 0 else 2) else yearCode l c s y
def dayA (l c s y d : Int) : Int := if dayC l c s y d = 0 then 365 * y + befV l c s y + d else 0

theorem daysV_leap {l c s y : Int} (hl : 0 ≤ l) (hl' : l ≤ c) (hc : 1 ≤ c) : daysV l c s y = if leapB l c s y = true then 366 else 365 := by
  have hst := befV_step (s := s) (y := y) hl hl' hc
  unfold daysV leapB
  split
  · rename_i h
    have h := of_decide_eq_true h
    omega
  · rename_i h
    have h := of_decide_eq_false (Bool.eq_false_iff.2 h)
    omega

end Go.Proofs.YtbcikkaoohihhaaGreatDoor

/- Lengths of years and drifts: the walks. No condition but those that each theorem names. -/
namespace Go.Proofs.YtbcikkaoohihhaaGreatDoor
open Go.RowKit Go.Sort

theorem floor_eq {n d : Int} (hd : 0 < d) : n / d = if n.tmod d < 0 then n.tdiv d - 1 else n.tdiv d := by
  rcases Int.lt_or_le n 0 with h | h
  · have e1 : n.tmod d = -((-n) % d) := by
      rw [← Int.tmod_eq_emod_of_nonneg (by omega), Int.neg_tmod]; omega
    have e2 : n.tdiv d = -((-n) / d) := by
      rw [← Int.tdiv_eq_ediv_of_nonneg (by omega), Int.neg_tdiv]; omega
    have h1 := Int.emod_nonneg (-n) (b := d) (by omega)
    have h2 := Int.emod_lt_of_pos (-n) hd
    have h3 := Int.mul_ediv_add_emod (-n) d
    have h4 := Int.mul_ediv_add_emod n d
    have h5 := Int.emod_nonneg n (b := d) (by omega)
    have h6 := Int.emod_lt_of_pos n hd
    rw [e1, e2]
    generalize (-n) / d = q at *
    generalize (-n) % d = r at *
    generalize n / d = q' at *
    generalize n % d = r' at *
    by_cases hr : r = 0
    · rw [if_neg (by omega)]
      have : d * (q + q') + r' = 0 := by rw [Int.mul_add]; omega
      have hq : q + q' = 0 := by
        rcases Int.lt_trichotomy (q + q') 0 with hh | hh | hh
        · have := Int.mul_le_mul_of_nonneg_left (show q + q' ≤ -1 by omega) (show 0 ≤ d by omega); omega
        · exact hh
        · have := Int.mul_le_mul_of_nonneg_left (show 1 ≤ q + q' by omega) (show 0 ≤ d by omega); omega
      omega
    · rw [if_pos (by omega)]
      have : d * (q + q') + r + r' = 0 := by rw [Int.mul_add]; omega
      have hq : q + q' = -1 := by
        rcases Int.lt_trichotomy (q + q') (-1) with hh | hh | hh
        · have := Int.mul_le_mul_of_nonneg_left (show q + q' ≤ -2 by omega) (show 0 ≤ d by omega); omega
        · exact hh
        · have := Int.mul_le_mul_of_nonneg_left (show 0 ≤ q + q' by omega) (show 0 ≤ d by omega); omega
      omega
  · rw [Int.tmod_eq_emod_of_nonneg h, Int.tdiv_eq_ediv_of_nonneg h, if_neg (by have := Int.emod_nonneg n (b := d) (by omega); omega)]

theorem tdiv_bd {n d M : Int} (hd : 0 < d) (h1 : -M ≤ n) (h2 : n ≤ M) : -M ≤ n.tdiv d ∧ n.tdiv d ≤ M := by
  have h := ediv_bd hd h1 h2
  rcases Int.lt_or_le n 0 with hn | hn
  · have h' := ediv_bd (n := -n) (M := M) hd (by omega) (by omega)
    have e2 : n.tdiv d = -((-n) / d) := by
      rw [← Int.tdiv_eq_ediv_of_nonneg (by omega), Int.neg_tdiv]; omega
    omega
  · rw [Int.tdiv_eq_ediv_of_nonneg hn]; exact h
theorem tmod_bd {n d : Int} (hd : 0 < d) : -d < n.tmod d ∧ n.tmod d < d := by
  have := Int.tmod_lt_of_pos n hd
  have := Int.tmod_lt_of_pos (-n) hd
  rw [Int.neg_tmod] at this
  omega

end Go.Proofs.YtbcikkaoohihhaaGreatDoor

/- Slices that read as lists; the statements' own comparing, marking and looking at slices of integers. No condition. -/
namespace Go.Proofs.YtbcikkaoohihhaaGreatDoor
open Go.RowKit Go.Sort

/-- A slice's address A leads to cells that read as the list xs, in a block below B. -/
def Rd {α : Type} (enc : α → Value) (w : World) (B : Nat) (A : Option Addr) (xs : List α) : Prop :=
  0 < xs.length → ∃ b off, A = some ⟨b, off, none⟩ ∧ b < B ∧ ∀ j x, xs[j]? = some x → w.cell? ⟨b, off + j, none⟩ = some (enc x)
/-- .. to cells in a block from base on, of which none is frozen. -/
def Wr {α : Type} (enc : α → Value) (w : World) (base : Nat) (A : Option Addr) (xs : List α) : Prop :=
  0 < xs.length → ∃ b off, A = some ⟨b, off, none⟩ ∧ base ≤ b ∧ b < w.heap.size ∧ (∀ j x, xs[j]? = some x → w.cell? ⟨b, off + j, none⟩ = some (enc x)) ∧ ∀ j, w.frozen? ⟨b, j, none⟩ = false

section
variable {α : Type} {enc : α → Value} {w w' : World} {B B' : Nat} {A : Option Addr} {xs : List α}
theorem Rd.nil_ : Rd enc w B A ([] : List α) := fun h => absurd h (by simp)
theorem Rd.below (h : Rd enc w B A xs) (hb : Below B w w') : Rd enc w' B A xs := fun hn => by
  obtain ⟨b, off, e, hlt, hc⟩ := h hn
  exact ⟨b, off, e, hlt, fun j x hx => (hb.cell (p := ⟨b, off + j, none⟩) hlt).trans (hc j x hx)⟩
theorem Rd.more (h : Rd enc w B A xs) (hB : B ≤ B') : Rd enc w B' A xs := fun hn => by
  obtain ⟨b, off, e, hlt, hc⟩ := h hn
  exact ⟨b, off, e, by omega, hc⟩
theorem Wr.rd (h : Wr enc w B A xs) : Rd enc w w.heap.size A xs := fun hn => by
  obtain ⟨b, off, e, _, hlt, hc, _⟩ := h hn
  exact ⟨b, off, e, hlt, hc⟩
theorem Wr.more (h : Wr enc w B A xs) (hB : B' ≤ B) : Wr enc w B' A xs := fun hn => by
  obtain ⟨b, off, e, h1, h2, hc⟩ := h hn
  exact ⟨b, off, e, by omega, h2, hc⟩
theorem Wr.below (h : Wr enc w B A xs) (hb : Below w.heap.size w w') : Wr enc w' B A xs := fun hn => by
  obtain ⟨b, off, e, h1, h2, hc, hf⟩ := h hn
  exact ⟨b, off, e, h1, Nat.lt_of_lt_of_le h2 hb.size, fun j x hx => (hb.cell (p := ⟨b, off + j, none⟩) h2).trans (hc j x hx), fun j => (hb.frozen (p := ⟨b, j, none⟩) h2).trans (hf j)⟩
theorem Wr.drew_ (h : Wr enc w B A xs) : Wr enc w.drew B A xs := h
theorem Wr.setLow (h : Wr enc w B A xs) {p : Addr} (hp : p.block < B) (u : Value) : Wr enc (w.setCell p u) B A xs := fun hn => by
  obtain ⟨b, off, e, h1, h2, hc, hf⟩ := h hn
  refine ⟨b, off, e, h1, by simpa using h2, fun j x hx => ?_, fun j => (World.frozen?_setCell _ _ _ _).trans (hf j)⟩
  refine (World.cell?_setCell_other w p ⟨b, off + j, none⟩ u ?_).trans (hc j x hx)
  intro e
  subst e
  exact absurd hp (Nat.not_lt.2 h1)
theorem Wr.of_own {base : Nat} {e : TypeId} {v : Value} {n : Nat} (h : w.ownsRow base e 1 v n (xs.map enc)) : n = xs.length ∧ ∃ A c, v = .slice A n c ∧ Wr enc w base A xs := by
  have hn : n = xs.length := by have := h.1; simp at this; omega
  refine ⟨hn, ?_⟩
  rcases h.2 with ⟨rfl, h0⟩ | ⟨g, cap, cur, rfl, hg, hh, hc, hm, hs, ht⟩
  · exact ⟨none, 0, by rw [h0], fun hp => by omega⟩
  · refine ⟨_, _, rfl, fun _ => ⟨g, 0, rfl, hg, ?_, fun j x hx => ?_, fun j => ?_⟩⟩
    · rcases Nat.lt_or_ge g w.heap.size with h1 | h1
      · exact h1
      · rw [Array.getElem?_eq_none h1] at hh; cases hh
    · have hx' : (xs.map enc)[j]? = some (enc x) := by rw [List.getElem?_map, hx]; rfl
      have := h.cells (g := g) rfl j _ hx'
      have ea : (⟨g, 0, none⟩ : Addr).add j = ⟨g, 0 + j, none⟩ := by
        unfold Addr.add
        by_cases hj : j = 0 <;> simp [hj]
      rw [ea] at this
      exact this
    · simp [World.frozen?, hh]
end

theorem own_below {w w' : World} {base : Nat} {e : TypeId} {size n : Nat} {v : Value} {xs : List Value} (h : w.ownsRow base e size v n xs) (hb : Below w.heap.size w w') : w'.ownsRow base e size v n xs := by
  obtain ⟨h1, h2⟩ := h
  refine ⟨h1, ?_⟩
  rcases h2 with h2 | ⟨g, cap, cur, hv, hg, hh, r⟩
  · exact .inl h2
  · have hlt : g < w.heap.size := by
      rcases Nat.lt_or_ge g w.heap.size with h | h
      · exact h
      · rw [Array.getElem?_eq_none h] at hh; cases hh
    exact .inr ⟨g, cap, cur, hv, hg, (hb.block g hlt).trans hh, r⟩
/-- Behind an append: what lay below the row's base is as it was. -/
theorem below_grown {w0 w w' : World} {base : Nat} {e : TypeId} {size n : Nat} {v : Value} {xs : List Value} (h : Below w0.heap.size w0 w) (hown : w.ownsRow base e size v n xs) (hbase : w0.heap.size ≤ base) (hg : w.grownBy w' v.ownBlock) : Below w0.heap.size w0 w' :=
  h.grown hg h.size (fun k hk => Nat.le_trans hbase (hown.lt k hk).1)
theorem own_cell {w w' : World} {base : Nat} {e : TypeId} {size n : Nat} {v : Value} {xs : List Value} (hown : w.ownsRow base e size v n xs) (hg : w.grownBy w' v.ownBlock) {p : Addr} (hp : p.block < base) (hs : p.block < w.heap.size) : w'.cell? p = w.cell? p :=
  World.cell?_of_block (hg.block p.block hs (fun e => by have := (hown.lt p.block e.symm).1; omega))
theorem own_slice {w : World} {base : Nat} {e : TypeId} {size n : Nat} {v : Value} {xs : List Value} (h : w.ownsRow base e size v n xs) : ∃ A c, v = .slice A n c := by
  rcases h.2 with ⟨rfl, rfl⟩ | ⟨g, cap, cur, rfl, _⟩
  · exact ⟨_, _, rfl⟩
  · exact ⟨_, _, rfl⟩
theorem own_nil {w : World} {base : Nat} {e : TypeId} {size : Nat} : w.ownsRow base e size (.slice none 0 0) 0 [] := World.ownsRow_nil _ _ _ _

theorem info64 : (Tryz.prog.info? 2).map (fun i => (i.zero, i.size, i.bytes)) = some (some (.int .i64 0), 1, 8) := by kernel_rfl

/-- What a call returns that makes a slice of integers, and a code. -/
def RetInts (w : World) (xs : List Int) (code : Int) (e : Ending) (w' : World) : Prop :=
  ∃ A c, e = .returned (.tuple #[.slice A xs.length c, .int .i64 code]) ∧ Wr (Value.int .i64) w' w.heap.size A xs ∧ Below w.heap.size w w'

/-- The marks that a statement lays: k, k + 1, .. -/
def marks (k : Int) : Nat → List Int
  | 0 => []
  | n + 1 => k :: marks (k + 1) n
theorem marks_length (k : Int) (n : Nat) : (marks k n).length = n := by
  induction n generalizing k with
  | zero => rfl
  | succ n ih => simp [marks, ih]
theorem marks_get (k : Int) (n j : Nat) (h : j < n) : (marks k n)[j]? = some (k + j) := by
  induction n generalizing k j with
  | zero => omega
  | succ n ih =>
    cases j with
    | zero => simp [marks]
    | succ j =>
      simp only [marks, List.getElem?_cons_succ]
      rw [ih (k + 1) j (by omega)]
      congr 1
      omega

theorem take_eq_succ {α : Type} {xs ys : List α} {k : Nat} {x : α} (h : xs.take k = ys.take k) (hx : xs[k]? = some x) (hy : ys[k]? = some x) : xs.take (k + 1) = ys.take (k + 1) := by
  rw [List.take_add_one, List.take_add_one, h, hx, hy]

set_option maxHeartbeats 400000 in
theorem eqInt64S_any (A B : Option Addr) (c d : Nat) (xs ys : List Int) (w : World) (hx : Rd (Value.int .i64) w w.heap.size A xs) (hy : Rd (Value.int .i64) w w.heap.size B ys) (hm : xs.length ≤ maxLen) (hm' : ys.length ≤ maxLen) :
    Calls Tryz.prog 87 #[.slice A xs.length c, .slice B ys.length d] w fun e w' => e = .returned (.bool (decide (xs = ys))) ∧ Below w.heap.size w w' := by
  unfold maxLen at hm hm'
  by_cases hl : xs.length = ys.length
  · have hl0 : ((xs.length : Int) != (ys.length : Int)) = false := by simp [hl]
    have HL := Lib.hid hl
    have hl1 : xs.length ≤ ys.length := by omega
    have hl2 : ys.length ≤ xs.length := by omega
    clear hl
    go_enter Tryz.func87, Tryz.ntmps87
    go_wp2
    go_loopw [5] (fun t wr => ∃ k : Nat, k ≤ xs.length ∧ t = .int .i64 k ∧ xs.take k = ys.take k ∧ ∃ n, wr = w.drewN n) (fun t _ => xs.length - (intOf t).toNat)
    case atStart => exact ⟨0, by omega, rfl, by simp, 0, rfl⟩
    case round =>
      obtain ⟨k, hk, rfl, ht, nn, rfl⟩ := hrel
      have HT := Lib.hid ht
      clear ht
      by_cases hlt : k < xs.length
      · obtain ⟨b, off, rfl, hb, hc⟩ := hx (by omega)
        obtain ⟨b', off', rfl, hb', hc'⟩ := hy (by omega)
        obtain ⟨x, hxk⟩ : ∃ x, xs[k]? = some x := ⟨_, List.getElem?_eq_getElem hlt⟩
        obtain ⟨y, hyk⟩ : ∃ y, ys[k]? = some y := ⟨_, List.getElem?_eq_getElem (by omega)⟩
        have c1 := hc k x hxk
        have c2 := hc' k y hyk
        have HX := Lib.hid hxk
        have HY := Lib.hid hyk
        clear hc hc' hxk hyk
        have i0 : (0 : Int) ≤ (k : Int) := by omega
        have i1 : (k : Int) < (xs.length : Int) := by omega
        have i2 : (k : Int) < (ys.length : Int) := by omega
        by_cases hxy : x = y
        · subst hxy
          go_wp2_with fail
          go_quiet (fail)
          go_wp2
          go_roundw
          case rel => exact ⟨k + 1, by omega, by go_num, take_eq_succ HT.out HX.out HY.out, _, rfl⟩
          case measure => simp [intOf]; omega
        · have hne : (x != y) = true := by simpa using hxy
          have hne' : (x == y) = false := by simpa using hxy
          go_wp2_with fail
          go_quiet (fail)
          go_wp2
          go_ret
          refine ⟨ret_bool ?_, ⟨rfl, rfl, rfl, Nat.le_refl _, fun _ _ => rfl⟩⟩
          symm
          rw [decide_eq_false_iff_not]
          rintro rfl
          exact hxy (Option.some.inj (HX.out.symm.trans HY.out))
      · go_wp2
        go_ret
        refine ⟨ret_bool ?_, ⟨rfl, rfl, rfl, Nat.le_refl _, fun _ _ => rfl⟩⟩
        symm
        rw [decide_eq_true_iff]
        have h := HT.out
        rw [List.take_of_length_le (by omega), List.take_of_length_le (by omega)] at h
        exact h
  · have hl0 : ((xs.length : Int) != (ys.length : Int)) = true := by simp; omega
    have hl1 : ((xs.length : Int) == (ys.length : Int)) = false := by simp; omega
    go_enter Tryz.func87, Tryz.ntmps87
    go_wp2
    go_ret
    exact ⟨ret_bool (by symm; rw [decide_eq_false_iff_not]; rintro rfl; exact hl rfl), Below.refl _ _⟩
set_option maxHeartbeats 400000 in
theorem l00Same_any (A B : Option Addr) (c d : Nat) (xs ys : List Int) (w : World) (hx : Rd (Value.int .i64) w w.heap.size A xs) (hy : Rd (Value.int .i64) w w.heap.size B ys) (hm : xs.length ≤ maxLen) (hm' : ys.length ≤ maxLen) :
    Calls Tryz.prog 120 #[.slice A xs.length c, .slice B ys.length d] w fun e w' => e = .returned (.bool (decide (xs = ys))) ∧ Below w.heap.size w w' := by
  unfold maxLen at hm hm'
  by_cases hl : xs.length = ys.length
  · have hl0 : ((xs.length : Int) != (ys.length : Int)) = false := by simp [hl]
    have HL := Lib.hid hl
    have hl1 : xs.length ≤ ys.length := by omega
    have hl2 : ys.length ≤ xs.length := by omega
    clear hl
    go_enter Tryz.func120, Tryz.ntmps120
    go_wp2
    go_loopw [5] (fun t wr => ∃ k : Nat, k ≤ xs.length ∧ t = .int .i64 k ∧ xs.take k = ys.take k ∧ ∃ n, wr = w.drewN n) (fun t _ => xs.length - (intOf t).toNat)
    case atStart => exact ⟨0, by omega, rfl, by simp, 0, rfl⟩
    case round =>
      obtain ⟨k, hk, rfl, ht, nn, rfl⟩ := hrel
      have HT := Lib.hid ht
      clear ht
      by_cases hlt : k < xs.length
      · obtain ⟨b, off, rfl, hb, hc⟩ := hx (by omega)
        obtain ⟨b', off', rfl, hb', hc'⟩ := hy (by omega)
        obtain ⟨x, hxk⟩ : ∃ x, xs[k]? = some x := ⟨_, List.getElem?_eq_getElem hlt⟩
        obtain ⟨y, hyk⟩ : ∃ y, ys[k]? = some y := ⟨_, List.getElem?_eq_getElem (by omega)⟩
        have c1 := hc k x hxk
        have c2 := hc' k y hyk
        have HX := Lib.hid hxk
        have HY := Lib.hid hyk
        clear hc hc' hxk hyk
        have i0 : (0 : Int) ≤ (k : Int) := by omega
        have i1 : (k : Int) < (xs.length : Int) := by omega
        have i2 : (k : Int) < (ys.length : Int) := by omega
        by_cases hxy : x = y
        · subst hxy
          go_wp2_with fail
          go_quiet (fail)
          go_wp2
          go_roundw
          case rel => exact ⟨k + 1, by omega, by go_num, take_eq_succ HT.out HX.out HY.out, _, rfl⟩
          case measure => simp [intOf]; omega
        · have hne : (x != y) = true := by simpa using hxy
          have hne' : (x == y) = false := by simpa using hxy
          go_wp2_with fail
          go_quiet (fail)
          go_wp2
          go_ret
          refine ⟨ret_bool ?_, ⟨rfl, rfl, rfl, Nat.le_refl _, fun _ _ => rfl⟩⟩
          symm
          rw [decide_eq_false_iff_not]
          rintro rfl
          exact hxy (Option.some.inj (HX.out.symm.trans HY.out))
      · go_wp2
        go_ret
        refine ⟨ret_bool ?_, ⟨rfl, rfl, rfl, Nat.le_refl _, fun _ _ => rfl⟩⟩
        symm
        rw [decide_eq_true_iff]
        have h := HT.out
        rw [List.take_of_length_le (by omega), List.take_of_length_le (by omega)] at h
        exact h
  · have hl0 : ((xs.length : Int) != (ys.length : Int)) = true := by simp; omega
    have hl1 : ((xs.length : Int) == (ys.length : Int)) = false := by simp; omega
    go_enter Tryz.func120, Tryz.ntmps120
    go_wp2
    go_ret
    exact ⟨ret_bool (by symm; rw [decide_eq_false_iff_not]; rintro rfl; exact hl rfl), Below.refl _ _⟩
set_option maxHeartbeats 400000 in
theorem slicesEqual_any (A B : Option Addr) (c d : Nat) (xs ys : List Int) (w : World) (hx : Rd (Value.int .i64) w w.heap.size A xs) (hy : Rd (Value.int .i64) w w.heap.size B ys) (hm : xs.length ≤ maxLen) (hm' : ys.length ≤ maxLen) :
    Calls Tryz.prog 121 #[.slice A xs.length c, .slice B ys.length d] w fun e w' => e = .returned (.bool (decide (xs = ys))) ∧ Below w.heap.size w w' := by
  unfold maxLen at hm hm'
  by_cases hl : xs.length = ys.length
  · have hl0 : ((xs.length : Int) != (ys.length : Int)) = false := by simp [hl]
    have HL := Lib.hid hl
    have hl1 : xs.length ≤ ys.length := by omega
    have hl2 : ys.length ≤ xs.length := by omega
    clear hl
    go_enter Tryz.func121, Tryz.ntmps121
    go_wp2
    go_loopw [13] (fun t wr => ∃ k : Nat, k ≤ xs.length ∧ t = .int .i64 k ∧ xs.take k = ys.take k ∧ ∃ n, wr = w.drewN n) (fun t _ => xs.length - (intOf t).toNat)
    case atStart => exact ⟨0, by omega, rfl, by simp, 0, rfl⟩
    case round =>
      obtain ⟨k, hk, rfl, ht, nn, rfl⟩ := hrel
      have HT := Lib.hid ht
      clear ht
      by_cases hlt : k < xs.length
      · obtain ⟨b, off, rfl, hb, hc⟩ := hx (by omega)
        obtain ⟨b', off', rfl, hb', hc'⟩ := hy (by omega)
        obtain ⟨x, hxk⟩ : ∃ x, xs[k]? = some x := ⟨_, List.getElem?_eq_getElem hlt⟩
        obtain ⟨y, hyk⟩ : ∃ y, ys[k]? = some y := ⟨_, List.getElem?_eq_getElem (by omega)⟩
        have c1 := hc k x hxk
        have c2 := hc' k y hyk
        have HX := Lib.hid hxk
        have HY := Lib.hid hyk
        clear hc hc' hxk hyk
        have i0 : (0 : Int) ≤ (k : Int) := by omega
        have i1 : (k : Int) < (xs.length : Int) := by omega
        have i2 : (k : Int) < (ys.length : Int) := by omega
        by_cases hxy : x = y
        · subst hxy
          go_wp2_with fail
          go_quiet (fail)
          go_wp2
          go_roundw
          case rel => exact ⟨k + 1, by omega, by go_num, take_eq_succ HT.out HX.out HY.out, _, rfl⟩
          case measure => simp [intOf]; omega
        · have hne : (x != y) = true := by simpa using hxy
          have hne' : (x == y) = false := by simpa using hxy
          go_wp2_with fail
          go_quiet (fail)
          go_wp2
          go_ret
          refine ⟨ret_bool ?_, ⟨rfl, rfl, rfl, Nat.le_refl _, fun _ _ => rfl⟩⟩
          symm
          rw [decide_eq_false_iff_not]
          rintro rfl
          exact hxy (Option.some.inj (HX.out.symm.trans HY.out))
      · go_wp2
        go_ret
        refine ⟨ret_bool ?_, ⟨rfl, rfl, rfl, Nat.le_refl _, fun _ _ => rfl⟩⟩
        symm
        rw [decide_eq_true_iff]
        have h := HT.out
        rw [List.take_of_length_le (by omega), List.take_of_length_le (by omega)] at h
        exact h
  · have hl0 : ((xs.length : Int) != (ys.length : Int)) = true := by simp; omega
    have hl1 : ((xs.length : Int) == (ys.length : Int)) = false := by simp; omega
    go_enter Tryz.func121, Tryz.ntmps121
    go_wp2
    go_ret
    exact ⟨ret_bool (by symm; rw [decide_eq_false_iff_not]; rintro rfl; exact hl rfl), Below.refl _ _⟩
/-- All blocks but that of a slice of n elements are as they were. -/
def Others (A : Option Addr) (n : Nat) (w w' : World) : Prop := ∀ B', (0 < n → ∃ b off, A = some ⟨b, off, none⟩ ∧ B' ≠ b) → w'.heap[B']? = w.heap[B']?
theorem Wr.apart {α : Type} {enc : α → Value} {w : World} {B : Nat} {A : Option Addr} {xs : List α} (h : Wr enc w B A xs) {B' : Nat} (hB : w.heap.size ≤ B') : 0 < xs.length → ∃ b off, A = some ⟨b, off, none⟩ ∧ B' ≠ b := fun hn => by
  obtain ⟨b, off, e, _, h2, _⟩ := h hn
  exact ⟨b, off, e, by omega⟩
theorem Others.cell {A : Option Addr} {n : Nat} {w w' : World} (h : Others A n w w') {B' : Nat} (hB : 0 < n → ∃ b off, A = some ⟨b, off, none⟩ ∧ B' ≠ b) (o : Nat) : w'.cell? ⟨B', o, none⟩ = w.cell? ⟨B', o, none⟩ :=
  World.cell?_of_block (a := ⟨B', o, none⟩) (h B' hB)

theorem markInt64S_any (A : Option Addr) (c : Nat) (xs : List Int) (base : Nat) (k : Int) (w : World) (hx : Wr (Value.int .i64) w base A xs) (hm : xs.length ≤ 1000000000000000) (hk : 0 ≤ k) (hk' : k ≤ 1000000000) :
    Calls Tryz.prog 41 #[.slice A xs.length c, .int .i64 k] w fun e w' => e = .returned (.int .i64 (k + xs.length)) ∧ Wr (Value.int .i64) w' base A (marks k xs.length) ∧ Below base w w' ∧ w'.heap.size = w.heap.size ∧ Others A xs.length w w' := by
  rcases Nat.eq_zero_or_pos xs.length with h0 | h0
  · obtain rfl : xs = [] := List.eq_nil_of_length_eq_zero h0
    go_enter Tryz.func41, Tryz.ntmps41
    go_wp2
    refine wp_loop_rounds 1 ?_
    rw [rounds_succ]
    go_wp2
    go_ret
    exact ⟨by simp, fun h => absurd h (by simp [marks]), Below.refl _ _, rfl, fun _ _ => rfl⟩
  · obtain ⟨b, off, rfl, hb0, hb, hc, hf⟩ := hx h0
    have hfr : ∀ j, w.frozen? ⟨b, off + j, none⟩ = false := fun j => hf _
    have HC := Lib.hid hc
    have HF := Lib.hid hf
    have HFR := Lib.hid hfr
    clear hc hf hfr
    have HN : Hid (∀ (w' : World) (i : Nat), i ≤ xs.length → True) := fun _ _ _ => trivial
    go_enter Tryz.func41, Tryz.ntmps41
    go_wp2
    go_loopw [5, 1] (fun t m wr => ∃ i : Nat, i ≤ xs.length ∧ t = .int .i64 i ∧ m = .int .i64 (k + i) ∧ Hid ((∀ j, j < i → wr.cell? ⟨b, off + j, none⟩ = some (.int .i64 (k + j))) ∧ (∀ j, j < xs.length → ∃ v, wr.cell? ⟨b, off + j, none⟩ = some v) ∧ (∀ j, wr.frozen? ⟨b, j, none⟩ = false) ∧ Below base w wr ∧ wr.heap.size = w.heap.size ∧ ∀ B', B' ≠ b → wr.heap[B']? = w.heap[B']?)) (fun t _ _ => xs.length - (intOf t).toNat)
    case atStart => exact ⟨0, by omega, rfl, by simp, fun _ h => absurd h (by omega), fun j hj => ⟨_, HC.out j _ (List.getElem?_eq_getElem hj)⟩, HF.out, Below.refl _ _, rfl, fun _ _ => rfl⟩
    case round =>
      obtain ⟨i, hi, rfl, rfl, HR⟩ := hrel
      by_cases hlt : i < xs.length
      · obtain ⟨v, hv⟩ := HR.out.2.1 i hlt
        have hfi : wr.frozen? ⟨b, off + i, none⟩ = false := HR.out.2.2.1 _
        have i0 : (0 : Int) ≤ (i : Int) := by omega
        have i1 : (i : Int) < (xs.length : Int) := by omega
        go_wp2
        go_roundw
        case rel =>
          obtain ⟨r1, r2, r3, r4, r5, r6⟩ := HR.out
          refine ⟨i + 1, by omega, by go_num, val_int (by omega), fun j hj => ?_, fun j hj => ?_, fun j => ?_, r4.setCell (by exact hb0) _, by simp [r5], fun B' hB => (Below.heap_setCell wr ⟨b, off + i, none⟩ _ B' hB).trans (r6 B' hB)⟩
          · rcases Nat.lt_or_ge j i with h | h
            · refine (World.cell?_setCell_other wr ⟨b, off + i, none⟩ ⟨b, off + j, none⟩ _ ?_).trans (r1 j h)
              intro e; injection e; omega
            · obtain rfl : j = i := by omega
              exact World.cell?_setCell_same _ _ _ hv
          · by_cases h : j = i
            · subst h; exact ⟨_, World.cell?_setCell_same _ _ _ hv⟩
            · obtain ⟨u, hu⟩ := r2 j hj
              refine ⟨u, (World.cell?_setCell_other wr ⟨b, off + i, none⟩ ⟨b, off + j, none⟩ _ ?_).trans hu⟩
              intro e; injection e; omega
          · exact (World.frozen?_setCell _ _ _ _).trans (r3 j)
        case measure => simp [intOf]; omega
      · go_wp2
        go_ret
        obtain ⟨r1, r2, r3, r4, r5, r6⟩ := HR.out
        refine ⟨ret_int (by omega), fun _ => ⟨b, off, rfl, hb0, by omega, fun j x hx => ?_, r3⟩, r4, r5, fun B' hB => r6 B' (by
          obtain ⟨b', off', e, hne⟩ := hB h0
          injection e with e
          injection e with e1
          omega)⟩
        have hj : j < xs.length := by
          have := (List.getElem?_eq_some_iff.1 hx).1
          rwa [marks_length] at this
        rw [marks_get k _ j hj] at hx
        injection hx with hx
        subst hx
        exact r1 j (by omega)

theorem heldInt64S_any (A : Option Addr) (c : Nat) (n : Nat) (k : Int) (w : World) (hx : Rd (Value.int .i64) w w.heap.size A (marks k n)) (hm : n ≤ 1000000000000000) (hk : 0 ≤ k) (hk' : k ≤ 1000000000) :
    Calls Tryz.prog 42 #[.slice A n c, .int .i64 k] w fun e w' => e = .returned (.int .i64 (k + n)) ∧ w = w' := by
  go_enter Tryz.func42, Tryz.ntmps42
  go_wp2
  go_loop [5, 1] (fun t m => ∃ i : Nat, i ≤ n ∧ t = .int .i64 i ∧ m = .int .i64 (k + i)) (fun t _ => n - (intOf t).toNat)
  case atStart => exact ⟨0, by omega, rfl, by simp⟩
  case round =>
    obtain ⟨i, hi, rfl, rfl⟩ := hrel
    by_cases hlt : i < n
    · obtain ⟨b, off, rfl, hb, hc⟩ := hx (by rw [marks_length]; omega)
      have hci := hc i _ (marks_get k n i hlt)
      clear hc
      have i0 : (0 : Int) ≤ (i : Int) := by omega
      have i1 : (i : Int) < (n : Int) := by omega
      go_wp2
      go_round
      case rel => exact ⟨i + 1, by omega, by go_num, val_int (by omega)⟩
      case measure => simp [intOf]; omega
    · go_wp2
      go_ret
      exact ⟨ret_int (by omega), rfl⟩
theorem madeCell {w : World} {C : Array Value} {E : TypeId} {j : Nat} (h : j < C.size) : ∃ v, (w.alloc (.cells C E)).cell? ⟨w.heap.size, j, none⟩ = some v := by
  refine ⟨C[j], ?_⟩
  rw [World.cell?_alloc_at _ _ _ _ rfl]
  exact Array.getElem?_eq_getElem h

end Go.Proofs.YtbcikkaoohihhaaGreatDoor

/- The terms of a fraction: both walks. No condition but those that each theorem names. -/
namespace Go.Proofs.YtbcikkaoohihhaaGreatDoor
open Go.RowKit Go.Sort


/-- The short terms of n / d, k at most. -/
def expT : Nat → Int → Int → List Int
  | 0, _, _ => []
  | k + 1, n, d => if d = 0 then [] else n / d :: expT k d (n % d)
def termsOf (n d : Int) : List Int := expT d.toNat n d
theorem expT_zero (k : Nat) (n : Int) : expT k n 0 = [] := by cases k <;> simp [expT]
theorem expT_step {k : Nat} {n d : Int} (h : 1 ≤ d) (hk : d ≤ k) : ∃ j : Nat, k = j + 1 ∧ n % d ≤ j ∧ 0 ≤ n % d ∧ n % d < d ∧ expT k n d = n / d :: expT j d (n % d) := by
  have h1 := Int.emod_nonneg n (b := d) (by omega)
  have h2 := Int.emod_lt_of_pos n (show 0 < d by omega)
  refine ⟨k - 1, by omega, by omega, h1, h2, ?_⟩
  obtain ⟨j, rfl⟩ : ∃ j, k = j + 1 := ⟨k - 1, by omega⟩
  rw [expT, if_neg (by omega)]; rfl
theorem expT_length : ∀ (k : Nat) (n d : Int), (expT k n d).length ≤ k
  | 0, _, _ => by simp [expT]
  | k + 1, n, d => by
    unfold expT
    split
    · simp
    · have := expT_length k d (n % d)
      simp; omega
theorem ediv_rng {n d : Int} (d1 : 1 ≤ d) (n1 : -1000000000 ≤ n) (n2 : n ≤ 1000000000) : -1000000000 ≤ n / d ∧ n / d ≤ 1000000000 := ediv_bd (by omega) n1 n2
theorem expT_bd : ∀ (k : Nat) (n d : Int), -1000000000 ≤ n → n ≤ 1000000000 → 0 ≤ d → d ≤ 1000000000 → ∀ t ∈ expT k n d, -1000000000 ≤ t ∧ t ≤ 1000000000
  | 0, _, _, _, _, _, _, t, ht => by simp [expT] at ht
  | k + 1, n, d, n1, n2, d1, d2, t, ht => by
    unfold expT at ht
    split at ht
    · simp at ht
    · rename_i h0
      rcases List.mem_cons.1 ht with rfl | ht
      · exact ediv_rng (by omega) n1 n2
      · have h1 := Int.emod_nonneg n (b := d) (by omega)
        have h2 := Int.emod_lt_of_pos n (show 0 < d by omega)
        exact expT_bd k d (n % d) (by omega) d2 h1 (by omega) t ht

/-- What a call returns that makes a slice of integers. -/
def RetList (w : World) (xs : List Int) (e : Ending) (w' : World) : Prop :=
  ∃ A c, e = .returned (.slice A xs.length c) ∧ Wr (Value.int .i64) w' w.heap.size A xs ∧ Below w.heap.size w w'

/-- What holds of a list on its way. -/
def OutI (w : World) (base : Nat) (out : List Int) (v : Value) (wr : World) : Prop :=
  wr.ownsRow base 2 1 v out.length (out.map (Value.int .i64)) ∧ Below w.heap.size w wr ∧ base ≤ wr.heap.size
theorem OutI.push {w : World} {base : Nat} {out : List Int} {v : Value} {wr : World} (h : OutI w base out v wr) (hbase : w.heap.size ≤ base) {t : Int} (v' : Value) (w3 : World) {o : Obj}
    (hown3 : w3.ownsRow base 2 1 v' (out.length + 1) (out.map (Value.int .i64) ++ [.int .i64 t])) (hg : (wr.alloc o).grownBy w3 v.ownBlock) : OutI w base (out ++ [t]) v' w3 := by
  obtain ⟨hown, hbel, hsz⟩ := h
  refine ⟨by simpa using hown3, below_grown (ext_alloc hbel o) (hown.alloc o) hbase hg, ?_⟩
  have := hg.size
  simp at this
  omega

theorem outI_start (w : World) (o : Obj) : OutI w (w.heap.size + 1) [] (.slice (some ⟨w.heap.size + 1, 0, none⟩) 0 0) ((w.alloc o).alloc (.cells #[] 2)) := by
  refine ⟨?_, ext_alloc (ext1 _ _) _, by simp⟩
  have h := World.ownsRow_lit (base := w.heap.size + 1) (e := 2) (size := 1) (w.alloc o) #[] 0 (by simp) (by simp) rfl
  simpa using h
end Go.Proofs.YtbcikkaoohihhaaGreatDoor

/- Rows of values that are stored one after the other. No condition. -/
namespace Go.Proofs.YtbcikkaoohihhaaGreatDoor
open Go.RowKit Go.Sort

/-- A row of values stored one after the other. -/
def putL (h o : Nat) : Nat → List Value → World → World
  | _, [], W => W
  | i, v :: vs, W => putL h o (i + 1) vs (W.setCell ⟨h, o + i, none⟩ v)
theorem putL_size (h o : Nat) : ∀ (i : Nat) (vs : List Value) (W : World), (putL h o i vs W).heap.size = W.heap.size
  | _, [], _ => rfl
  | i, v :: vs, W => by rw [putL, putL_size h o (i + 1) vs]; simp
theorem putL_frozen (h o : Nat) (p : Addr) : ∀ (i : Nat) (vs : List Value) (W : World), (putL h o i vs W).frozen? p = W.frozen? p
  | _, [], _ => rfl
  | i, v :: vs, W => by rw [putL, putL_frozen h o p (i + 1) vs]; exact World.frozen?_setCell _ _ _ _
theorem putL_below (h o : Nat) {B : Nat} (hB : B ≤ h) : ∀ (i : Nat) (vs : List Value) {V W : World}, Below B V W → Below B V (putL h o i vs W)
  | _, [], _, _, k => k
  | i, v :: vs, _, _, k => putL_below h o hB (i + 1) vs (k.setCell (by exact hB) _)
theorem putL_other (h o : Nat) {p : Addr} : ∀ (i : Nat) (vs : List Value) (W : World), (∀ j, j < vs.length → p ≠ ⟨h, o + i + j, none⟩) → (putL h o i vs W).cell? p = W.cell? p
  | _, [], _, _ => rfl
  | i, v :: vs, W, hp => by
    rw [putL, putL_other h o (i + 1) vs _ (fun j hj => by
      have := hp (j + 1) (by simp; omega)
      rwa [show o + i + (j + 1) = o + (i + 1) + j by omega] at this)]
    exact World.cell?_setCell_other _ _ _ _ (by
      have := hp 0 (by simp)
      intro e; exact this (by rw [Nat.add_zero]; exact e.symm))
theorem putL_same (h o : Nat) : ∀ (i : Nat) (vs : List Value) (W : World), (∀ j, j < vs.length → ∃ v, W.cell? ⟨h, o + i + j, none⟩ = some v) → ∀ j v, vs[j]? = some v → (putL h o i vs W).cell? ⟨h, o + i + j, none⟩ = some v
  | _, [], _, _, j, v, hv => by simp at hv
  | i, u :: vs, W, hex, 0, v, hv => by
    simp at hv
    subst hv
    rw [putL, putL_other h o (i + 1) vs _ (fun j hj => by intro e; injection e; omega)]
    obtain ⟨x, hx⟩ := hex 0 (by simp)
    exact World.cell?_setCell_same _ _ _ hx
  | i, u :: vs, W, hex, j + 1, v, hv => by
    rw [putL, show o + i + (j + 1) = o + (i + 1) + j by omega]
    refine putL_same h o (i + 1) vs _ (fun m hm => ?_) j v (by simpa using hv)
    obtain ⟨x, hx⟩ := hex (m + 1) (by simp; omega)
    rw [show o + i + (m + 1) = o + (i + 1) + m by omega] at hx
    exact ⟨x, (World.cell?_setCell_other _ _ _ _ (by intro e; injection e; omega)).trans hx⟩
theorem putL_wr {α : Type} {enc : α → Value} (h o : Nat) {B : Nat} (hB : h < B) {A : Option Addr} {xs : List α} : ∀ (i : Nat) (vs : List Value) {W : World}, Wr enc W B A xs → Wr enc (putL h o i vs W) B A xs
  | _, [], _, k => k
  | i, v :: vs, _, k => putL_wr h o hB (i + 1) vs (k.setLow (by exact hB) _)
end Go.Proofs.YtbcikkaoohihhaaGreatDoor

/- Convergents: both walks. No condition but those that each theorem names. -/
namespace Go.Proofs.YtbcikkaoohihhaaGreatDoor
open Go.RowKit Go.Sort

/-- A slice of structs of s integers is a row of integers. -/
theorem Wr.of_ownS {α : Type} {enc : α → Value} {w : World} {base s : Nat} {e : TypeId} {v : Value} {n : Nat} {xs : List α} (h : w.ownsRow base e s v n (xs.map enc)) : xs.length = n * s ∧ ∃ A c, v = .slice A n c ∧ Wr enc w base A xs := by
  have hn : xs.length = n * s := by have := h.1; simpa using this
  refine ⟨hn, ?_⟩
  rcases h.2 with ⟨rfl, h0⟩ | ⟨g, cap, cur, rfl, hg, hh, hc, hm, hsz, ht⟩
  · exact ⟨none, 0, by rw [h0], fun hp => by
      exfalso
      rw [hn, h0] at hp
      simp at hp⟩
  · refine ⟨_, _, rfl, fun _ => ⟨g, 0, rfl, hg, ?_, fun j x hx => ?_, fun j => ?_⟩⟩
    · rcases Nat.lt_or_ge g w.heap.size with h1 | h1
      · exact h1
      · rw [Array.getElem?_eq_none h1] at hh; cases hh
    · have hx' : (xs.map enc)[j]? = some (enc x) := by rw [List.getElem?_map, hx]; rfl
      have := h.cells (g := g) rfl j _ hx'
      have ea : (⟨g, 0, none⟩ : Addr).add j = ⟨g, 0 + j, none⟩ := by
        unfold Addr.add
        by_cases hj : j = 0 <;> simp [hj]
      rw [ea] at this
      exact this
    · simp [World.frozen?, hh]

def frL (ps : List (Int × Int)) : List Int := ps.flatMap fun p => [p.1, p.2]
theorem frL_length (ps : List (Int × Int)) : (frL ps).length = ps.length * 2 := by
  induction ps with
  | nil => rfl
  | cons p ps ih => simp only [frL, List.flatMap_cons, List.length_append, List.length_cons, List.length_nil] at *; omega
theorem frL_snoc (ps : List (Int × Int)) (p q : Int) : frL (ps ++ [(p, q)]) = frL ps ++ [p, q] := by simp [frL]
theorem frL_get {ps : List (Int × Int)} {j : Nat} {p : Int × Int} (h : ps[j]? = some p) : (frL ps)[j * 2]? = some p.1 ∧ (frL ps)[j * 2 + 1]? = some p.2 := by
  induction ps generalizing j with
  | nil => simp at h
  | cons a ps ih =>
    cases j with
    | zero =>
      simp at h
      subst h
      simp [frL]
    | succ j =>
      have := ih (j := j) (by simpa using h)
      have e1 : (j + 1) * 2 = j * 2 + 1 + 1 := by omega
      simp only [frL, List.flatMap_cons] at *
      rw [e1]
      exact this

/-- The convergents that follow; none if one is no fraction. -/
def cvG : List Int → Int → Int → Int → Int → Option (List (Int × Int))
  | [], _, _, _, _ => some []
  | t :: ts, p, q, p0, q0 => if fracOk (t * p + p0) (t * q + q0) = true then (cvG ts (t * p + p0) (t * q + q0) p q).map ((t * p + p0, t * q + q0) :: ·) else none
def convs (ts : List Int) : Option (List (Int × Int)) := cvG ts 1 0 0 1
theorem cvG_step {ts : List Int} {k : Nat} {t p q p0 q0 : Int} (h : ts[k]? = some t) : cvG (ts.drop k) p q p0 q0 = if fracOk (t * p + p0) (t * q + q0) = true then (cvG (ts.drop (k + 1)) (t * p + p0) (t * q + q0) p q).map ((t * p + p0, t * q + q0) :: ·) else none := by
  obtain ⟨h1, h2⟩ := List.getElem?_eq_some_iff.1 h
  rw [List.drop_eq_getElem_cons h1, h2]; rfl
theorem cvG_end {ts : List Int} {k : Nat} {p q p0 q0 : Int} (h : ¬ k < ts.length) : cvG (ts.drop k) p q p0 q0 = some [] := by
  rw [List.drop_eq_nil_of_le (by omega)]; rfl
def bil (n : Int) : Prop := -1000000000 ≤ n ∧ n ≤ 1000000000

/-- What a call returns that makes a slice of fractions, and whether all went well. -/
def RetCv (w : World) (R : Option (List (Int × Int))) (e : Ending) (w' : World) : Prop :=
  ∃ A c, e = .returned (.tuple #[.slice A (R.getD []).length c, .bool R.isSome]) ∧ Wr (Value.int .i64) w' w.heap.size A (frL (R.getD [])) ∧ Below w.heap.size w w'
theorem RetCv.none_ {w w' : World} (h : Below w.heap.size w w') : RetCv w none (.returned (.tuple #[.slice none 0 0, .bool false])) w' := ⟨none, 0, rfl, fun h => absurd h (by simp [frL]), h⟩

/-- What holds of a list of fractions on its way. -/
def OutF (w : World) (base : Nat) (out : List (Int × Int)) (v : Value) (wr : World) : Prop :=
  wr.ownsRow base 31 2 v out.length ((frL out).map (Value.int .i64)) ∧ Below w.heap.size w wr ∧ base ≤ wr.heap.size
theorem OutF.next {w : World} {base : Nat} {out : List (Int × Int)} {v : Value} {wr w2 : World} (h : OutF w base out v wr) (hb : Below wr.heap.size wr w2) : OutF w base out v w2 :=
  ⟨own_below h.1 hb, ext_trans h.2.1 hb, Nat.le_trans h.2.2 hb.size⟩
theorem OutF.push {w : World} {base : Nat} {out : List (Int × Int)} {v : Value} {wr : World} (h : OutF w base out v wr) (hbase : w.heap.size ≤ base) {p q : Int} (v' : Value) (w3 : World) {o : Obj}
    (hown3 : w3.ownsRow base 31 2 v' (out.length + 1) ((frL out).map (Value.int .i64) ++ [.int .i64 p, .int .i64 q])) (hg : (wr.alloc o).grownBy w3 v.ownBlock) : OutF w base (out ++ [(p, q)]) v' w3 := by
  obtain ⟨hown, hbel, hsz⟩ := h
  refine ⟨by simpa [frL_snoc] using hown3, below_grown (ext_alloc hbel o) (hown.alloc o) hbase hg, ?_⟩
  have := hg.size
  simp at this
  omega
theorem infoFr : (Tryz.prog.info? 31).map (fun i => (i.zero, i.size, i.bytes)) = some (some (fracV 0 0), 2, 16) := by kernel_rfl

/-- The cells of a new block, one by one. -/
theorem news_row (w : World) {C : Array Value} (T : TypeId) (vs : List Value) (h : C.toList = vs) : ∀ j u, vs[j]? = some u → (w.alloc (.cells C T)).cell? ((⟨w.heap.size, 0, none⟩ : Addr).add j) = some u := fun j u hu => by
  have ea : (⟨w.heap.size, 0, none⟩ : Addr).add j = ⟨w.heap.size, 0 + j, none⟩ := by
    unfold Addr.add
    by_cases hj : j = 0 <;> simp [hj]
  rw [ea, Nat.zero_add, cell_one, ← Array.getElem?_toList, h]
  exact hu
theorem map_snoc (out : List (Int × Int)) (x : Int × Int) (o : Option (List (Int × Int))) : o.map ((out ++ [x]) ++ ·) = (o.map (x :: ·)).map (out ++ ·) := by cases o <;> simp
end Go.Proofs.YtbcikkaoohihhaaGreatDoor
