/- Parts of the proof, merged: RootW Named ErrW Notes SurdW PerP. No condition but those that each theorem names. -/
import Derived.Test.YtpgkellmhlmjeaaGreatDoorMgAB
import Derived.Test.YtpgkellmhlmjeaaGreatDoorMgAD
import Derived.Test.YtpgkellmhlmjeaaGreatDoorMgAC
namespace Go.Proofs.YtpgkellmhlmjeaaGreatDoor
open Go.RowKit Go.Sort
/-- The square root, rounded down. -/
def rt : Nat → Nat
  | 0 => 0
  | n + 1 => if (rt n + 1) * (rt n + 1) ≤ n + 1 then rt n + 1 else rt n
theorem rt_spec : ∀ n : Nat, rt n * rt n ≤ n ∧ n < (rt n + 1) * (rt n + 1)
  | 0 => by simp [rt]
  | n + 1 => by
    obtain ⟨h1, h2⟩ := rt_spec n
    unfold rt
    generalize rt n = r at *
    split
    · rename_i h
      refine ⟨h, ?_⟩
      have e : (r + 1 + 1) * (r + 1 + 1) = (r + 1) * (r + 1) + 2 * r + 3 := by
        rw [Nat.add_mul (r + 1) 1, Nat.mul_add (r + 1) (r + 1) 1]; omega
      omega
    · exact ⟨by omega, by omega⟩
def rtI (n : Int) : Int := (rt n.toNat : Int)
/-- r is n's root. -/
def IsRt (n r : Int) : Prop := 0 ≤ r ∧ r * r ≤ n ∧ n < (r + 1) * (r + 1)
theorem rtI_is {n : Int} (h : 0 ≤ n) : IsRt n (rtI n) := by
  obtain ⟨m, rfl⟩ := Int.eq_ofNat_of_zero_le h
  obtain ⟨h1, h2⟩ := rt_spec m
  unfold rtI
  rw [Int.toNat_natCast]
  refine ⟨Int.natCast_nonneg _, ?_, ?_⟩
  · exact_mod_cast h1
  · exact_mod_cast h2
theorem sq_mono {a b : Int} (h0 : 0 ≤ a) (h : a ≤ b) : a * a ≤ b * b := Int.mul_le_mul h h h0 (by omega)
theorem IsRt.uniq {n r s : Int} (h : IsRt n r) (k : IsRt n s) : r = s := by
  obtain ⟨a1, a2, a3⟩ := h
  obtain ⟨b1, b2, b3⟩ := k
  rcases Int.lt_trichotomy r s with g | g | g
  · have := sq_mono (a := r + 1) (b := s) (by omega) (by omega); omega
  · exact g
  · have := sq_mono (a := s + 1) (b := r) (by omega) (by omega); omega
theorem l07Root_any (n : Int) (w : World) (h0 : 0 ≤ n) (h1 : n ≤ 1000000000000000000) :
    Calls Tryz.prog 39 #[.int .i64 n] w fun e w' => e = .returned (.int .i64 (rtI n)) ∧ w = w' := by
  have HR := Lib.hid (rtI_is h0)
  generalize rtI n = R at *
  go_enter Tryz.func39, Tryz.ntmps39
  go_wp2_with fail
  go_loop [3, 4] (fun s t => ∃ l h : Int, s = .int .i64 l ∧ t = .int .i64 h ∧ 0 ≤ l ∧ l < h ∧ h ≤ 1000000001 ∧ Hid (l * l ≤ n ∧ n < h * h)) (fun s t => (intOf t - intOf s).toNat)
  case atStart => exact ⟨0, 1000000001, rfl, rfl, by omega, by omega, by omega, by omega, by omega⟩
  case round =>
    obtain ⟨l, h, rfl, rfl, l0, lh, h1', HL⟩ := hrel
    by_cases hlt : 1 < h - l
    · obtain ⟨m, hm⟩ : ∃ m, (l + h) / 2 = m := ⟨_, rfl⟩
      have m1 : l < m ∧ m < h := by omega
      obtain ⟨m1, m2⟩ := m1
      have m3 : 0 ≤ m * m ∧ m * m ≤ 1000000001 * 1000000001 := ⟨Int.mul_nonneg (by omega) (by omega), Int.mul_le_mul (by omega) (by omega) (by omega) (by omega)⟩
      obtain ⟨m3, m4⟩ := m3
      by_cases hc : m * m ≤ n
      · have HC := Lib.hid hc
        go_wp2
        go_round
        case rel => exact ⟨m, h, val_int (by omega), rfl, by omega, by omega, by omega, HC.out, HL.out.2⟩
        case measure => simp [intOf]; omega
      · have HC := Lib.hid hc
        go_wp2
        go_round
        case rel => exact ⟨l, m, rfl, val_int (by omega), by omega, by omega, by omega, HL.out.1, by have := HC.out; omega⟩
        case measure => simp [intOf]; omega
    · have e : h = l + 1 := by omega
      have HE : Hid (l = R) := by
        have h2 := HL.out
        rw [e] at h2
        exact IsRt.uniq ⟨l0, h2.1, h2.2⟩ HR.out
      clear e
      go_wp2
      go_ret
      exact ⟨ret_int HE.out, rfl⟩
/-- A number is a square. -/
def sqB (n : Int) : Bool := decide (rtI n * rtI n = n)
theorem rtI_bd {n M : Int} (h0 : 0 ≤ n) (hM : 0 ≤ M) (h : n < M * M) : 0 ≤ rtI n ∧ rtI n < M := by
  obtain ⟨a, b, c⟩ := rtI_is h0
  refine ⟨a, ?_⟩
  rcases Int.lt_or_le (rtI n) M with g | g
  · exact g
  · have := sq_mono hM g; omega
theorem l07Square_any (n : Int) (w : World) (h0 : 0 ≤ n) (h1 : n ≤ 1000000000000000000) :
    Calls Tryz.prog 86 #[.int .i64 n] w fun e w' => e = .returned (.bool (sqB n)) ∧ w = w' := by
  obtain ⟨r1, r2⟩ := rtI_bd (n := n) (M := 1000000001) h0 (by omega) (by omega)
  have HR := Lib.hid (l07Root_any n · h0 h1)
  unfold sqB
  generalize rtI n = r at *
  have m3 : 0 ≤ r * r ∧ r * r ≤ 1000000001 * 1000000001 := ⟨Int.mul_nonneg (by omega) (by omega), Int.mul_le_mul (by omega) (by omega) (by omega) (by omega)⟩
  obtain ⟨m3, m4⟩ := m3
  go_enter Tryz.func86, Tryz.ntmps86
  go_wp2_with fail
  refine (HR.out _).mono ?_
  rintro e w' ⟨rfl, rfl⟩
  go_wp2
  go_ret
  exact ⟨ret_bool (by rw [Bool.eq_iff_iff]; simp), rfl⟩
theorem sqrtEx (x r : Nat) (W : World) (h : Ieee.double.sqrt x = some r) : (callFunc 141 #[.float .f64 x]).run Tryz.prog W = .ok (.value (.float .f64 r)) W := by
  rw [run_callFunc_extern Tryz.func141 (by kernel_rfl) (by kernel_rfl) (by kernel_rfl) (e := Extern.MathSqrt.sqrt) (by kernel_rfl)]
  have h' : FloatKind.f64.format.sqrt x = some r := h
  have e : Extern.MathSqrt.sqrt #[.float .f64 x] = pure (Value.float .f64 r) := by
    change (match FloatKind.f64.format.sqrt x with | some r => pure (Value.float .f64 r) | none => (do pure (Value.float .f64 (← choose (.nanBits .f64 x x))) : Sem Value)) = _
    rw [h']
  rw [e]
  rfl
theorem Sqrt_any (x r : Nat) (w : World) (h : Ieee.double.sqrt x = some r) : Calls Tryz.prog 99 #[.float .f64 x] w fun e w' => e = .returned (.float .f64 r) ∧ w = w' := by
  have hs := fun W => sqrtEx x r W h
  clear h
  go_enter Tryz.func99, Tryz.ntmps99
  go_wp2
  go_ret
  exact ⟨rfl, rfl⟩
theorem sqrt_zero : ∃ b r, Ieee.double.sqrt (Ieee.double.write (.number false 0 0)) = some b ∧ Go.floatToIntVal .f64 b .i64 = some r ∧ 0 ≤ r ∧ r ≤ 2 ^ 30 := ⟨_, 0, rfl, by decide +kernel, by omega, by omega⟩
theorem sqrt_all {n : Nat} (hb : n < 2 ^ 53) : ∃ b r, Ieee.double.sqrt (Ieee.double.write (.number false n 0)) = some b ∧ Go.floatToIntVal .f64 b .i64 = some r ∧ 0 ≤ r ∧ r ≤ 2 ^ 30 := by
  rcases Nat.eq_zero_or_pos n with rfl | h
  · exact sqrt_zero
  · exact sqrt_int h hb
theorem toFloat (n : Nat) (W : World) : (convert 2 121 (.int .i64 (n : Int))).run Tryz.prog W = .ok (.float .f64 (Ieee.double.write (.number false n 0))) W := by
  have e : FloatKind.f64.nearest (n : Int) = Ieee.double.write (.number false n 0) := by
    unfold FloatKind.nearest FloatKind.encode
    rw [decide_eq_false (by omega), Int.natAbs_natCast]
    rfl
  simp [convert, run_underlying Tryz.underlying2, run_underlying Tryz.underlying121, Conv.intToFloat, e]
set_option maxHeartbeats 1000000 in
theorem root_any (n : Int) (w : World) (h0 : 0 ≤ n) (h1 : n ≤ 1000000000000000) :
    Calls Tryz.prog 54 #[.int .i64 n] w fun e w' => e = .returned (.int .i64 (rtI n)) ∧ w = w' := by
  have HR := Lib.hid (rtI_is h0)
  generalize rtI n = R at *
  obtain ⟨m, rfl⟩ := Int.eq_ofNat_of_zero_le h0
  obtain ⟨b, r, hs, hf, r0, r1⟩ := sqrt_all (n := m) (by omega)
  have r1' : r ≤ 1073741824 := by omega
  have c1 := toFloat m
  have c2 : ∀ W, (convert 121 2 (.float .f64 b)).run Tryz.prog W = .ok (.int .i64 r) W := fun W => run_convert_float_int W 121 2 .f64 .i64 b r (by kernel_rfl) Tryz.underlying2 hf
  have HS := Lib.hid (Sqrt_any _ b · hs)
  clear hs hf r1
  generalize Ieee.double.write (.number false m 0) = x at *
  go_enter Tryz.func54, Tryz.ntmps54
  go_wp2_with fail
  refine (HS.out _).mono ?_
  rintro e w' ⟨rfl, rfl⟩
  go_wp2_with fail
  clear c1 c2
  go_loop [3] (fun t => ∃ s : Int, 0 ≤ s ∧ s ≤ 1073741824 ∧ t = .int .i64 s) (fun t => (intOf t).toNat)
  case atStart => exact ⟨r, by omega, by omega, rfl⟩
  case round =>
    obtain ⟨s, s0, s1, rfl⟩ := hrel
    obtain ⟨p1, p2⟩ : 0 ≤ s * s ∧ s * s ≤ 1073741824 * 1073741824 := ⟨Int.mul_nonneg (by omega) (by omega), Int.mul_le_mul (by omega) (by omega) (by omega) (by omega)⟩
    by_cases hc : (m : Int) < s * s
    · have hs0 : 0 < s := by
        rcases Int.lt_or_le 0 s with g | g
        · exact g
        · obtain rfl : s = 0 := by omega
          omega
      go_wp2
      go_round
      case rel => exact ⟨s - 1, by omega, by omega, rfl⟩
      case measure => simp [intOf]; omega
    · have HC : Hid (s * s ≤ (m : Int)) := by unfold Hid; omega
      go_wp2_with fail
      clear p1 p2
      go_loop [3] (fun t => ∃ s : Int, 0 ≤ s ∧ s ≤ 1073741824 ∧ Hid (s * s ≤ (m : Int)) ∧ t = .int .i64 s) (fun t => (m + 1 - intOf t).toNat)
      case atStart => exact ⟨s, by omega, by omega, HC.out, rfl⟩
      case round =>
        obtain ⟨u, u0, u1, HU, rfl⟩ := hrel
        obtain ⟨p1, p2⟩ : 0 ≤ (u + 1) * (u + 1) ∧ (u + 1) * (u + 1) ≤ 1073741825 * 1073741825 := ⟨Int.mul_nonneg (by omega) (by omega), Int.mul_le_mul (by omega) (by omega) (by omega) (by omega)⟩
        by_cases hc : (u + 1) * (u + 1) ≤ (m : Int)
        · have hu : u + 1 ≤ 40000000 := by
            rcases Int.lt_or_le 40000000 (u + 1) with g | g
            · have := sq_mono (a := 40000000) (b := u + 1) (by omega) (by omega); omega
            · exact g
          have hum : u + 1 ≤ (m : Int) := by
            have := Int.mul_le_mul_of_nonneg_left (show 1 ≤ u + 1 by omega) (show 0 ≤ u + 1 by omega)
            omega
          have HC2 := Lib.hid hc
          go_wp2
          go_round
          case rel => exact ⟨u + 1, by omega, by omega, HC2.out, rfl⟩
          case measure => simp [intOf]; omega
        · have HE : Hid (u = R) := IsRt.uniq ⟨u0, HU.out, by omega⟩ HR.out
          go_wp2
          go_ret
          exact ⟨ret_int HE.out, rfl⟩
theorem isSquare_any (n : Int) (w : World) (h0 : 0 ≤ n) (h1 : n ≤ 1000000000000000) :
    Calls Tryz.prog 53 #[.int .i64 n] w fun e w' => e = .returned (.bool (sqB n)) ∧ w = w' := by
  obtain ⟨r1, r2⟩ := rtI_bd (n := n) (M := 1000000001) h0 (by omega) (by omega)
  have HR := Lib.hid (root_any n · h0 h1)
  unfold sqB
  generalize rtI n = r at *
  have m3 : 0 ≤ r * r ∧ r * r ≤ 1000000001 * 1000000001 := ⟨Int.mul_nonneg (by omega) (by omega), Int.mul_le_mul (by omega) (by omega) (by omega) (by omega)⟩
  obtain ⟨m3, m4⟩ := m3
  go_enter Tryz.func53, Tryz.ntmps53
  go_wp2_with fail
  refine (HR.out _).mono ?_
  rintro e w' ⟨rfl, rfl⟩
  go_wp2
  go_ret
  exact ⟨ret_bool (by rw [Bool.eq_iff_iff]; simp), rfl⟩
end Go.Proofs.YtpgkellmhlmjeaaGreatDoor
namespace Go.Proofs.YtpgkellmhlmjeaaGreatDoor
open Go.RowKit Go.Sort
/-- A name with its terms. -/
structure Nd where
  name : ByteArray
  terms : List Int
instance : Inhabited Nd := ⟨⟨ByteArray.empty, []⟩⟩
section
variable {w w' : World} {B B' : Nat} {T : Option Addr} {c : Nat} {xs : List Int}
end
section
variable {w w' : World} {B B' : Nat} {A : Option Addr} {xs : List Nd}
end
section
variable {w w' : World} {B B' : Nat} {A : Option Addr} {xs : List Nd}
end
end Go.Proofs.YtpgkellmhlmjeaaGreatDoor
namespace Go.Proofs.YtpgkellmhlmjeaaGreatDoor
open Go.RowKit Go.Sort
/-- -1, 0 or 1. -/
def cmp3 (a b : Int) : Int := if a < b then -1 else if b < a then 1 else 0
theorem cmp3_neg {a b : Int} : cmp3 a b < 0 ↔ a < b := by unfold cmp3; split <;> (try split) <;> omega
/-- The error of a / b for n / d, times both denominators. -/
def errV (n d a b : Int) : Int := ((n * b - a * d).natAbs : Int)
def big6 (n : Int) : Prop := -1000000 ≤ n ∧ n ≤ 1000000
theorem errV_bd {n d a b : Int} (hn : big6 n) (hd : big6 d) (ha : big6 a) (hb : big6 b) : -1000000000000 ≤ n * b ∧ n * b ≤ 1000000000000 ∧ -1000000000000 ≤ a * d ∧ a * d ≤ 1000000000000 ∧ 0 ≤ errV n d a b ∧ errV n d a b ≤ 2000000000000 := by
  obtain ⟨n1, n2⟩ := hn
  obtain ⟨d1, d2⟩ := hd
  obtain ⟨a1, a2⟩ := ha
  obtain ⟨b1, b2⟩ := hb
  obtain ⟨p1, p2⟩ := mul_bd (x := n) (y := b) (M := 1000000) (N := 1000000) (by omega) n2 (by omega) b2 n1 b1
  obtain ⟨p3, p4⟩ := mul_bd (x := a) (y := d) (M := 1000000) (N := 1000000) (by omega) a2 (by omega) d2 a1 d1
  unfold errV
  omega
theorem compare_any (a b : Int) (w : World) : Calls Tryz.prog 123 #[.int .i64 a, .int .i64 b] w fun e w' => e = .returned (.int .i64 (cmp3 a b)) ∧ w = w' := by
  by_cases h1 : a < b
  · go_enter Tryz.func123, Tryz.ntmps123
    go_wp2
    go_ret
    exact ⟨ret_int (by rw [cmp3, if_pos h1]), rfl⟩
  · by_cases h2 : b < a
    all_goals
      go_enter Tryz.func123, Tryz.ntmps123
      go_wp2
      go_ret
      exact ⟨ret_int (by unfold cmp3; split <;> (try split) <;> omega), rfl⟩
theorem errorOf_any (n d a b : Int) (w : World) (hn : big6 n) (hd : big6 d) (ha : big6 a) (hb : big6 b) :
    Calls Tryz.prog 107 #[fracV n d, fracV a b] w fun e w' => e = .returned (.int .i64 (errV n d a b)) ∧ Below w.heap.size w w' := by
  obtain ⟨p1, p2, p3, p4, _, _⟩ := errV_bd hn hd ha hb
  unfold fracV
  go_enter Tryz.func107, Tryz.ntmps107
  go_wp2_with fail
  refine (abs_any (n * b - a * d) _ (by omega) (by omega)).mono ?_
  rintro e w' ⟨rfl, rfl⟩
  go_wp2
  go_ret
  exact ⟨rfl, ext_alloc (ext_alloc (Below.refl _ _) _) _⟩
theorem cell_three_1 (w : World) (C D E : Array Value) (s t u : TypeId) (j : Nat) : (((w.alloc (.cells C s)).alloc (.cells D t)).alloc (.cells E u)).cell? ⟨w.heap.size, j, none⟩ = C[j]? :=
  (World.cell?_alloc_lt _ _ _ (by simp; omega)).trans (cell_two_fst w C D s t j)
theorem cell_three_2 (w : World) (C D E : Array Value) (s t u : TypeId) (j : Nat) : (((w.alloc (.cells C s)).alloc (.cells D t)).alloc (.cells E u)).cell? ⟨w.heap.size + 1, j, none⟩ = D[j]? :=
  (World.cell?_alloc_lt _ _ _ (by simp)).trans (cell_two_snd w C D s t j)
theorem cell_three_3 (w : World) (C D E : Array Value) (s t u : TypeId) (j : Nat) : (((w.alloc (.cells C s)).alloc (.cells D t)).alloc (.cells E u)).cell? ⟨w.heap.size + 2, j, none⟩ = E[j]? :=
  World.cell?_alloc_at _ _ _ _ (by simp)
set_option maxHeartbeats 1000000 in
theorem compareErrors_any (n d a b c f : Int) (w : World) (hn : big6 n) (hd : big6 d) (ha : big6 a) (hb : big6 b) (hc : big6 c) (hf : big6 f) :
    Calls Tryz.prog 75 #[fracV n d, fracV a b, fracV c f] w fun e w' => e = .returned (.int .i64 (cmp3 (errV n d a b * f) (errV n d c f * b))) ∧ Below w.heap.size w w' := by
  obtain ⟨_, _, _, _, x1, x2⟩ := errV_bd hn hd ha hb
  obtain ⟨_, _, _, _, y1, y2⟩ := errV_bd hn hd hc hf
  have HX := Lib.hid (errorOf_any n d a b · hn hd ha hb)
  have HY := Lib.hid (errorOf_any n d c f · hn hd hc hf)
  obtain ⟨f1, f2⟩ := hf
  obtain ⟨b1, b2⟩ := hb
  clear hn hd ha hc
  generalize errV n d a b = x at *
  generalize errV n d c f = y at *
  obtain ⟨p1, p2⟩ := mul_bd (x := x) (y := f) (M := 2000000000000) (N := 1000000) (by omega) x2 (by omega) f2 (by omega) f1
  obtain ⟨p3, p4⟩ := mul_bd (x := y) (y := b) (M := 2000000000000) (N := 1000000) (by omega) y2 (by omega) b2 (by omega) b1
  have w1 : IntKind.i64.wrap (x * f) = x * f := IntWalk.i64_in _ (by omega)
  have w2 : IntKind.i64.wrap (y * b) = y * b := IntWalk.i64_in _ (by omega)
  unfold fracV at *
  go_enter Tryz.func75, Tryz.ntmps75
  go_wp2_with fail
  have hb0 : Below w.heap.size w (((w.alloc (.cells #[.int .i64 n, .int .i64 d] 41)).alloc (.cells #[.int .i64 a, .int .i64 b] 41)).alloc (.cells #[.int .i64 c, .int .i64 f] 41)) := ext_alloc (ext_alloc (ext_alloc (Below.refl _ _) _) _) _
  have q1 := cell_three_1 w #[.int .i64 n, .int .i64 d] #[.int .i64 a, .int .i64 b] #[.int .i64 c, .int .i64 f] 41 41 41
  have q2 := cell_three_2 w #[.int .i64 n, .int .i64 d] #[.int .i64 a, .int .i64 b] #[.int .i64 c, .int .i64 f] 41 41 41
  have q3 := cell_three_3 w #[.int .i64 n, .int .i64 d] #[.int .i64 a, .int .i64 b] #[.int .i64 c, .int .i64 f] 41 41 41
  generalize ((w.alloc (.cells #[.int .i64 n, .int .i64 d] 41)).alloc (.cells #[.int .i64 a, .int .i64 b] 41)).alloc (.cells #[.int .i64 c, .int .i64 f] 41) = W at *
  have k0 : ∀ x os, (grow (redrawn W x) os).cell? ⟨w.heap.size, 0, none⟩ = some (.int .i64 n) := cell_regrown (q1 0)
  have k1 : ∀ x os, (grow (redrawn W x) os).cell? ⟨w.heap.size, 1, none⟩ = some (.int .i64 d) := cell_regrown (q1 1)
  have k2 : ∀ x os, (grow (redrawn W x) os).cell? ⟨w.heap.size + 1, 0, none⟩ = some (.int .i64 a) := cell_regrown (q2 0)
  have k3 : ∀ x os, (grow (redrawn W x) os).cell? ⟨w.heap.size + 1, 1, none⟩ = some (.int .i64 b) := cell_regrown (q2 1)
  have k4 : ∀ x os, (grow (redrawn W x) os).cell? ⟨w.heap.size + 1 + 1, 0, none⟩ = some (.int .i64 c) := cell_regrown (q3 0)
  have k5 : ∀ x os, (grow (redrawn W x) os).cell? ⟨w.heap.size + 1 + 1, 1, none⟩ = some (.int .i64 f) := cell_regrown (q3 1)
  clear q1 q2 q3
  refine wp_region_quiet_below (by kernel_rfl) (by kernel_rfl) ?_
  repeat (first | go_big_quiet_step ((first | (with_reducible exact Calls.regrown_of (HX.out _)) | (with_reducible exact Calls.regrown_of (HY.out _)) | (with_reducible exact regrown_same (compare_any (x * f) (y * b) _)))) | quiet_step ((first | (with_reducible exact Calls.regrown_of (HX.out _)) | (with_reducible exact Calls.regrown_of (HY.out _)) | (with_reducible exact regrown_same (compare_any (x * f) (y * b) _)))))
  refine wpQuiet_nil ?_
  intro _ hw'
  obtain ⟨⟨dq, oq⟩, hw''⟩ := hw'
  subst hw''
  go_wp2
  go_ret
  exact ⟨rfl, ext_trans hb0 (below_regrown W dq oq)⟩
end Go.Proofs.YtpgkellmhlmjeaaGreatDoor
namespace Go.Proofs.YtpgkellmhlmjeaaGreatDoor
open Go.RowKit Go.Sort
/-- A note. -/
structure Nt where
  name : ByteArray
  kind : Int
  num : Int
  den : Int
  terms : List Int
  sp : Int
  sd : Int
  sq : Int
instance : Inhabited Nt := ⟨⟨ByteArray.empty, 0, 0, 0, [], 0, 0, 0⟩⟩
@[reducible] def surdV (p d q : Int) : Value := .agg #[.int .i64 p, .int .i64 d, .int .i64 q]
section
variable {w w' : World} {B B' : Nat} {A : Option Addr} {xs : List Nt}
end
end Go.Proofs.YtpgkellmhlmjeaaGreatDoor
namespace Go.Proofs.YtpgkellmhlmjeaaGreatDoor
open Go.RowKit Go.Sort
def surdB (p d q : Int) : Bool := inR d 2 1000000 && (!sqB d && (inR p (-1000000) 1000000 && (inR q (-1000000) 1000000 && (!decide (q = 0) && decide ((d - p * p).tmod q = 0)))))
theorem surdB_true {p d q : Int} : surdB p d q = true ↔ (2 ≤ d ∧ d ≤ 1000000) ∧ sqB d = false ∧ (-1000000 ≤ p ∧ p ≤ 1000000) ∧ (-1000000 ≤ q ∧ q ≤ 1000000) ∧ q ≠ 0 ∧ (d - p * p).tmod q = 0 := by
  simp [surdB, inR]
theorem sq_bd {p : Int} (h : inR p (-1000000) 1000000 = true) : 0 ≤ p * p ∧ p * p ≤ 1000000000000 := by
  obtain ⟨h1, h2⟩ := inR_true.1 h
  rcases Int.le_total 0 p with g | g
  · exact ⟨Int.mul_nonneg g g, Int.le_trans (Int.mul_le_mul h2 h2 g (by omega)) (by omega)⟩
  · have e : p * p = (-p) * (-p) := by rw [Int.neg_mul_neg]
    rw [e]
    exact ⟨Int.mul_nonneg (by omega) (by omega), Int.le_trans (Int.mul_le_mul (show -p ≤ 1000000 by omega) (show -p ≤ 1000000 by omega) (by omega) (by omega)) (by omega)⟩
set_option maxHeartbeats 2000000 in
theorem ValidSurd_any (p d q : Int) (w : World) :
    Calls Tryz.prog 104 #[surdV p d q] w fun e w' => e = .returned (.bool (surdB p d q)) ∧ Below w.heap.size w w' := by
  unfold surdV surdB
  cases h1 : inR d 2 1000000
  · simp only [Bool.false_and]
    go_enter Tryz.func104, Tryz.ntmps104
    go_wp2_with (go_at_call 70; refine (within_any _ _ _ _).mono ?_; rintro e w' ⟨rfl, rfl⟩)
    go_ret
    exact ⟨rfl, ext1 _ _⟩
  · obtain ⟨d1, d2⟩ := inR_true.1 h1
    cases hp : inR p (-1000000) 1000000
    · simp only [Bool.false_and, Bool.and_false]
      cases h2 : sqB d
      all_goals
        go_enter Tryz.func104, Tryz.ntmps104
        go_wp2_with (first | (go_at_call 70; refine (within_any _ _ _ _).mono ?_; rintro e w' ⟨rfl, rfl⟩) | (go_at_call 53; refine (isSquare_any _ _ (by omega) (by omega)).mono ?_; rintro e w' ⟨rfl, rfl⟩))
        go_ret
        exact ⟨rfl, ext1 _ _⟩
    · obtain ⟨m1, m2⟩ := sq_bd hp
      obtain ⟨p1, p2⟩ := inR_true.1 hp
      cases hq : inR q (-1000000) 1000000
      · simp only [Bool.false_and, Bool.and_false]
        cases h2 : sqB d
        all_goals
          go_enter Tryz.func104, Tryz.ntmps104
          go_wp2_with (first | (go_at_call 70; refine (within_any _ _ _ _).mono ?_; rintro e w' ⟨rfl, rfl⟩) | (go_at_call 53; refine (isSquare_any _ _ (by omega) (by omega)).mono ?_; rintro e w' ⟨rfl, rfl⟩))
          go_ret
          exact ⟨rfl, ext1 _ _⟩
      · obtain ⟨q1, q2⟩ := inR_true.1 hq
        by_cases h0 : q = 0
        · subst h0
          simp only [Bool.not_true, decide_true, Bool.false_and, Bool.and_false]
          cases h2 : sqB d
          all_goals
            go_enter Tryz.func104, Tryz.ntmps104
            go_wp2_with (first | (go_at_call 70; refine (within_any _ _ _ _).mono ?_; rintro e w' ⟨rfl, rfl⟩) | (go_at_call 53; refine (isSquare_any _ _ (by omega) (by omega)).mono ?_; rintro e w' ⟨rfl, rfl⟩))
            go_ret
            exact ⟨rfl, ext1 _ _⟩
        · have e1 : (q == 0) = false := by simpa using h0
          have e2 : (q != 0) = true := by simpa using h0
          simp only [Bool.true_and, decide_eq_false h0, Bool.not_false]
          cases h2 : sqB d
          · have hr : -1000001000000 < (d - p * p).tmod q ∧ (d - p * p).tmod q < 1000001000000 := by
              have hlt := Int.natAbs_tmod (d - p * p) q
              have := Nat.mod_lt (d - p * p).natAbs (show 0 < q.natAbs by omega)
              omega
            go_enter Tryz.func104, Tryz.ntmps104
            go_wp2_with (first | (go_at_call 70; refine (within_any _ _ _ _).mono ?_; rintro e w' ⟨rfl, rfl⟩) | (go_at_call 53; refine (isSquare_any _ _ (by omega) (by omega)).mono ?_; rintro e w' ⟨rfl, rfl⟩))
            go_ret
            exact ⟨ret_bool (by rw [Bool.eq_iff_iff]; simp), ext1 _ _⟩
          · simp only [Bool.not_true, Bool.false_and]
            go_enter Tryz.func104, Tryz.ntmps104
            go_wp2_with (first | (go_at_call 70; refine (within_any _ _ _ _).mono ?_; rintro e w' ⟨rfl, rfl⟩) | (go_at_call 53; refine (isSquare_any _ _ (by omega) (by omega)).mono ?_; rintro e w' ⟨rfl, rfl⟩))
            go_ret
            exact ⟨rfl, ext1 _ _⟩
set_option maxHeartbeats 2000000 in
theorem l07Ok_any (p d q : Int) (w : World) :
    Calls Tryz.prog 128 #[surdV p d q] w fun e w' => e = .returned (.bool (surdB p d q)) ∧ Below w.heap.size w w' := by
  unfold surdV surdB
  cases h1 : inR d 2 1000000
  · simp only [Bool.false_and]
    go_enter Tryz.func128, Tryz.ntmps128
    go_wp2_with (go_at_call 38; refine (l00In_any _ _ _ _).mono ?_; rintro e w' ⟨rfl, rfl⟩)
    go_ret
    exact ⟨rfl, ext1 _ _⟩
  · obtain ⟨d1, d2⟩ := inR_true.1 h1
    cases hp : inR p (-1000000) 1000000
    · simp only [Bool.false_and, Bool.and_false]
      cases h2 : sqB d
      all_goals
        go_enter Tryz.func128, Tryz.ntmps128
        go_wp2_with (first | (go_at_call 38; refine (l00In_any _ _ _ _).mono ?_; rintro e w' ⟨rfl, rfl⟩) | (go_at_call 86; refine (l07Square_any _ _ (by omega) (by omega)).mono ?_; rintro e w' ⟨rfl, rfl⟩))
        go_ret
        exact ⟨rfl, ext1 _ _⟩
    · obtain ⟨m1, m2⟩ := sq_bd hp
      obtain ⟨p1, p2⟩ := inR_true.1 hp
      cases hq : inR q (-1000000) 1000000
      · simp only [Bool.false_and, Bool.and_false]
        cases h2 : sqB d
        all_goals
          go_enter Tryz.func128, Tryz.ntmps128
          go_wp2_with (first | (go_at_call 38; refine (l00In_any _ _ _ _).mono ?_; rintro e w' ⟨rfl, rfl⟩) | (go_at_call 86; refine (l07Square_any _ _ (by omega) (by omega)).mono ?_; rintro e w' ⟨rfl, rfl⟩))
          go_ret
          exact ⟨rfl, ext1 _ _⟩
      · obtain ⟨q1, q2⟩ := inR_true.1 hq
        by_cases h0 : q = 0
        · subst h0
          simp only [Bool.not_true, decide_true, Bool.false_and, Bool.and_false]
          cases h2 : sqB d
          all_goals
            go_enter Tryz.func128, Tryz.ntmps128
            go_wp2_with (first | (go_at_call 38; refine (l00In_any _ _ _ _).mono ?_; rintro e w' ⟨rfl, rfl⟩) | (go_at_call 86; refine (l07Square_any _ _ (by omega) (by omega)).mono ?_; rintro e w' ⟨rfl, rfl⟩))
            go_ret
            exact ⟨rfl, ext1 _ _⟩
        · have e1 : (q == 0) = false := by simpa using h0
          have e2 : (q != 0) = true := by simpa using h0
          simp only [Bool.true_and, decide_eq_false h0, Bool.not_false]
          cases h2 : sqB d
          · have hr : -1000001000000 < (d - p * p).tmod q ∧ (d - p * p).tmod q < 1000001000000 := by
              have hlt := Int.natAbs_tmod (d - p * p) q
              have := Nat.mod_lt (d - p * p).natAbs (show 0 < q.natAbs by omega)
              omega
            go_enter Tryz.func128, Tryz.ntmps128
            go_wp2_with (first | (go_at_call 38; refine (l00In_any _ _ _ _).mono ?_; rintro e w' ⟨rfl, rfl⟩) | (go_at_call 86; refine (l07Square_any _ _ (by omega) (by omega)).mono ?_; rintro e w' ⟨rfl, rfl⟩))
            go_ret
            exact ⟨ret_bool (by rw [Bool.eq_iff_iff]; simp), ext1 _ _⟩
          · simp only [Bool.not_true, Bool.false_and]
            go_enter Tryz.func128, Tryz.ntmps128
            go_wp2_with (first | (go_at_call 38; refine (l00In_any _ _ _ _).mono ?_; rintro e w' ⟨rfl, rfl⟩) | (go_at_call 86; refine (l07Square_any _ _ (by omega) (by omega)).mono ?_; rintro e w' ⟨rfl, rfl⟩))
            go_ret
            exact ⟨rfl, ext1 _ _⟩
end Go.Proofs.YtpgkellmhlmjeaaGreatDoor
namespace Go.Proofs.YtpgkellmhlmjeaaGreatDoor
open Go.RowKit Go.Sort
/-- A surd: P, D, Q. -/
abbrev Sd := Int × Int × Int
def sdOk (s : Sd) : Bool := surdB s.1 s.2.1 s.2.2
def flS (s : Sd) : Int := if 0 < s.2.2 then (s.1 + rtI s.2.1) / s.2.2 else -((s.1 + rtI s.2.1) / (-s.2.2)) - 1
def npS (s : Sd) : Int := flS s * s.2.2 - s.1
def nqS (s : Sd) : Int := (s.2.1 - npS s * npS s).tdiv s.2.2
def nxS (s : Sd) : Sd := (npS s, s.2.1, nqS s)
theorem rt_small {d : Int} (h1 : 2 ≤ d) (h2 : d ≤ 1000000) (h3 : sqB d = false) : 1 ≤ rtI d ∧ rtI d ≤ 999 ∧ rtI d * rtI d < d ∧ d < (rtI d + 1) * (rtI d + 1) := by
  obtain ⟨a, b, c⟩ := rtI_is (n := d) (by omega)
  have hne : rtI d * rtI d ≠ d := by simpa [sqB] using h3
  have hlo : 1 ≤ rtI d := by
    rcases Int.lt_or_le (rtI d) 1 with g | g
    · have e : rtI d = 0 := by omega
      rw [e] at c
      omega
    · exact g
  have hhi : rtI d ≤ 999 := by
    rcases Int.lt_or_le 999 (rtI d) with g | g
    · have := sq_mono (a := 1000) (b := rtI d) (by omega) (by omega)
      omega
    · exact g
  exact ⟨hlo, hhi, by omega, c⟩
theorem neg_floor (x m : Int) (hm : 0 < m) : -(x / m) - 1 = (-x - 1) / m := by
  have h1 := Int.mul_ediv_add_emod x m
  have h2 := Int.emod_nonneg x (show m ≠ 0 by omega)
  have h3 := Int.emod_lt_of_pos x hm
  have key : -x - 1 = (-(x / m) - 1) * m + (m - 1 - x % m) := by
    have : (-(x / m) - 1) * m = -(m * (x / m)) - m := by rw [Int.sub_mul, Int.neg_mul, Int.mul_comm (x / m) m, Int.one_mul]
    omega
  have z : (m - 1 - x % m) / m = 0 := Int.ediv_eq_zero_of_lt (by omega) (by omega)
  rw [key, Int.add_comm, Int.add_mul_ediv_right _ _ (show m ≠ 0 by omega), z]
  omega
/-- Where the next P lies. -/
theorem npS_rng {s : Sd} (h : sdOk s = true) : (0 < s.2.2 → rtI s.2.1 - s.2.2 < npS s ∧ npS s ≤ rtI s.2.1) ∧ (s.2.2 < 0 → rtI s.2.1 < npS s ∧ npS s ≤ rtI s.2.1 - s.2.2) := by
  obtain ⟨p, d, q⟩ := s
  refine ⟨fun hq => ?_, fun hq => ?_⟩
  · have hq' : 0 < q := hq
    have h1 := Int.mul_ediv_add_emod (p + rtI d) q
    have h2 := Int.emod_nonneg (p + rtI d) (show q ≠ 0 by omega)
    have h3 := Int.emod_lt_of_pos (p + rtI d) hq'
    have e : flS (p, d, q) = (p + rtI d) / q := by simp [flS, hq']
    simp only [npS, e]
    rw [Int.mul_comm]
    generalize q * ((p + rtI d) / q) = X at *
    omega
  · have hq' : q < 0 := hq
    have h1 := Int.mul_ediv_add_emod (p + rtI d) (-q)
    have h2 := Int.emod_nonneg (p + rtI d) (show -q ≠ 0 by omega)
    have h3 := Int.emod_lt_of_pos (p + rtI d) (show 0 < -q by omega)
    have e : flS (p, d, q) = -((p + rtI d) / (-q)) - 1 := by
      have : ¬ 0 < q := by omega
      simp [flS, this]
    simp only [npS, e]
    have k : (-((p + rtI d) / -q) - 1) * q = -q * ((p + rtI d) / -q) - q := by
      rw [Int.sub_mul, Int.neg_mul, Int.neg_mul, Int.mul_comm q]; omega
    rw [k]
    generalize -q * ((p + rtI d) / -q) = X at *
    omega
/-- All that the walks must know of the numbers on the way to the next surd. -/
theorem step_bds {p d q : Int} (h : surdB p d q = true) : (2 ≤ d ∧ d ≤ 1000000) ∧ (1 ≤ rtI d ∧ rtI d ≤ 999) ∧ (-1000000 ≤ p ∧ p ≤ 1000000) ∧ (-1000000 ≤ q ∧ q ≤ 1000000 ∧ q ≠ 0) ∧
    (-1001001 ≤ flS (p, d, q) ∧ flS (p, d, q) ≤ 1001001) ∧ (-1001000 ≤ npS (p, d, q) ∧ npS (p, d, q) ≤ 1001000) ∧ (0 ≤ npS (p, d, q) * npS (p, d, q) ∧ npS (p, d, q) * npS (p, d, q) ≤ 1002001000000) ∧
    (-2002001 ≤ flS (p, d, q) * q ∧ flS (p, d, q) * q ≤ 2002001) ∧ (-1002001000000 ≤ nqS (p, d, q) ∧ nqS (p, d, q) ≤ 1002001000000) := by
  obtain ⟨⟨d1, d2⟩, hs, ⟨p1, p2⟩, ⟨q1, q2⟩, q0, hm⟩ := surdB_true.1 h
  obtain ⟨r1, r2, r3, r4⟩ := rt_small d1 d2 hs
  have hrng := npS_rng (s := (p, d, q)) h
  have hnp : -1001000 ≤ npS (p, d, q) ∧ npS (p, d, q) ≤ 1001000 := by
    rcases Int.lt_or_lt_of_ne q0 with g | g
    · have := hrng.2 g; simp only at this; omega
    · have := hrng.1 g; simp only at this; omega
  have hfl : -1001001 ≤ flS (p, d, q) ∧ flS (p, d, q) ≤ 1001001 := by
    unfold flS
    simp only
    split
    · rename_i g
      have := ediv_bd (n := p + rtI d) (M := 1001000) g (by omega) (by omega)
      omega
    · rename_i g
      have := ediv_bd (n := p + rtI d) (M := 1001000) (show 0 < -q by omega) (by omega) (by omega)
      omega
  have hsq : 0 ≤ npS (p, d, q) * npS (p, d, q) ∧ npS (p, d, q) * npS (p, d, q) ≤ 1002001000000 := by
    obtain ⟨m1, m2⟩ := hnp
    have := mul_bd (x := npS (p, d, q)) (y := npS (p, d, q)) (M := 1001000) (N := 1001000) (by omega) m2 (by omega) m2 m1 m1
    have h0 : 0 ≤ npS (p, d, q) * npS (p, d, q) := by
      rcases Int.le_total 0 (npS (p, d, q)) with g | g
      · exact Int.mul_nonneg g g
      · exact Int.mul_nonneg_of_nonpos_of_nonpos g g
    omega
  have hnq : -1002001000000 ≤ nqS (p, d, q) ∧ nqS (p, d, q) ≤ 1002001000000 := by
    unfold nqS
    simp only
    generalize npS (p, d, q) * npS (p, d, q) = X at *
    have : ((d - X).tdiv q).natAbs ≤ (d - X).natAbs := by
      rw [Int.natAbs_tdiv]
      exact Nat.div_le_self _ _
    omega
  have hmul : flS (p, d, q) * q = npS (p, d, q) + p := by simp only [npS]; omega
  exact ⟨⟨d1, d2⟩, ⟨r1, r2⟩, ⟨p1, p2⟩, ⟨q1, q2, q0⟩, hfl, hnp, hsq, by omega, hnq⟩
/-- The surds up to the last one before one comes again, and the place of this one; k: how many may still come. -/
def per : Nat → List Sd → Sd → Option (List Sd × Nat)
  | 0, L, s => if s ∈ L then some (L, L.idxOf s) else none
  | k + 1, L, s => if s ∈ L then some (L, L.idxOf s) else if sdOk (nxS s) = true then per k (L ++ [s]) (nxS s) else none
def perOf (s : Sd) : Option (List Sd × Nat) := per 400 [] s
def headOf (R : List Sd × Nat) : List Int := (R.1.take R.2).map flS
def cycOf (R : List Sd × Nat) : List Int := (R.1.drop R.2).map flS
theorem per_facts : ∀ (k : Nat) (L : List Sd) (s : Sd) (R : List Sd × Nat), per k L s = some R → R.2 < R.1.length ∧ R.1.length ≤ L.length + k
  | 0, L, s, R, h => by
    unfold per at h
    split at h
    · rename_i g
      injection h with h; subst h
      exact ⟨List.idxOf_lt_length_of_mem g, by simp⟩
    · cases h
  | k + 1, L, s, R, h => by
    unfold per at h
    split at h
    · rename_i g
      injection h with h; subst h
      exact ⟨List.idxOf_lt_length_of_mem g, by simp⟩
    · split at h
      · have := per_facts k _ _ R h
        simp at this
        omega
      · cases h
end Go.Proofs.YtpgkellmhlmjeaaGreatDoor
