/- Square roots, rounded down: the walks. No condition but those that each theorem names. -/
import Derived.Test.YtmgfceiomfiknaaDoorBase
import Derived.Test.YtmgfceiomfiknaaDoorSqrtP
namespace Go.Proofs.YtmgfceiomfiknaaDoor
open Go.RowKit Go.Sort

/-- The square root, rounded down. -/
def rt : Nat → Nat
  | 0 => 0
  | n + 1 => if (rt n + 1) * (rt n + 1) ≤ n + 1 then rt n + 1 else rt n
theorem rt_spec : ∀ n : Nat, rt n * rt n ≤ n ∧ n < (rt n + 1) * (rt n + 1)
  | 0 => by simp [rt]
  | n + 1 => by
    obtain ⟨h1, h2⟩ := rt_spec n
    unfold rt
    generalize rt n = r at *
    split
    · rename_i h
      refine ⟨h, ?_⟩
      have e : (r + 1 + 1) * (r + 1 + 1) = (r + 1) * (r + 1) + 2 * r + 3 := by
        rw [Nat.add_mul (r + 1) 1, Nat.mul_add (r + 1) (r + 1) 1]; omega
      omega
    · exact ⟨by omega, by omega⟩
def rtI (n : Int) : Int := (rt n.toNat : Int)
/-- r is n's root. -/
def IsRt (n r : Int) : Prop := 0 ≤ r ∧ r * r ≤ n ∧ n < (r + 1) * (r + 1)
theorem rtI_is {n : Int} (h : 0 ≤ n) : IsRt n (rtI n) := by
  obtain ⟨m, rfl⟩ := Int.eq_ofNat_of_zero_le h
  obtain ⟨h1, h2⟩ := rt_spec m
  unfold rtI
  rw [Int.toNat_natCast]
  refine ⟨Int.natCast_nonneg _, ?_, ?_⟩
  · exact_mod_cast h1
  · exact_mod_cast h2
theorem sq_mono {a b : Int} (h0 : 0 ≤ a) (h : a ≤ b) : a * a ≤ b * b := Int.mul_le_mul h h h0 (by omega)
theorem IsRt.uniq {n r s : Int} (h : IsRt n r) (k : IsRt n s) : r = s := by
  obtain ⟨a1, a2, a3⟩ := h
  obtain ⟨b1, b2, b3⟩ := k
  rcases Int.lt_trichotomy r s with g | g | g
  · have := sq_mono (a := r + 1) (b := s) (by omega) (by omega); omega
  · exact g
  · have := sq_mono (a := s + 1) (b := r) (by omega) (by omega); omega

theorem l07Root_any (n : Int) (w : World) (h0 : 0 ≤ n) (h1 : n ≤ 1000000000000000000) :
    Calls Tryd.prog 128 #[.int .i64 n] w fun e w' => e = .returned (.int .i64 (rtI n)) ∧ w = w' := by
  have HR := Lib.hid (rtI_is h0)
  generalize rtI n = R at *
  go_enter Tryd.func128, Tryd.ntmps128
  go_wp2_with fail
  go_loop [3, 4] (fun s t => ∃ l h : Int, s = .int .i64 l ∧ t = .int .i64 h ∧ 0 ≤ l ∧ l < h ∧ h ≤ 1000000001 ∧ Hid (l * l ≤ n ∧ n < h * h)) (fun s t => (intOf t - intOf s).toNat)
  case atStart => exact ⟨0, 1000000001, rfl, rfl, by omega, by omega, by omega, by omega, by omega⟩
  case round =>
    obtain ⟨l, h, rfl, rfl, l0, lh, h1', HL⟩ := hrel
    by_cases hlt : 1 < h - l
    · obtain ⟨m, hm⟩ : ∃ m, (l + h) / 2 = m := ⟨_, rfl⟩
      have m1 : l < m ∧ m < h := by omega
      obtain ⟨m1, m2⟩ := m1
      have m3 : 0 ≤ m * m ∧ m * m ≤ 1000000001 * 1000000001 := ⟨Int.mul_nonneg (by omega) (by omega), Int.mul_le_mul (by omega) (by omega) (by omega) (by omega)⟩
      obtain ⟨m3, m4⟩ := m3
      by_cases hc : m * m ≤ n
      · have HC := Lib.hid hc
        go_wp2
        go_round
        case rel => exact ⟨m, h, val_int (by omega), rfl, by omega, by omega, by omega, HC.out, HL.out.2⟩
        case measure => simp [intOf]; omega
      · have HC := Lib.hid hc
        go_wp2
        go_round
        case rel => exact ⟨l, m, rfl, val_int (by omega), by omega, by omega, by omega, HL.out.1, by have := HC.out; omega⟩
        case measure => simp [intOf]; omega
    · have e : h = l + 1 := by omega
      have HE : Hid (l = R) := by
        have h2 := HL.out
        rw [e] at h2
        exact IsRt.uniq ⟨l0, h2.1, h2.2⟩ HR.out
      clear e
      go_wp2
      go_ret
      exact ⟨ret_int HE.out, rfl⟩

/-- A number is a square. -/
def sqB (n : Int) : Bool := decide (rtI n * rtI n = n)
theorem rtI_bd {n M : Int} (h0 : 0 ≤ n) (hM : 0 ≤ M) (h : n < M * M) : 0 ≤ rtI n ∧ rtI n < M := by
  obtain ⟨a, b, c⟩ := rtI_is h0
  refine ⟨a, ?_⟩
  rcases Int.lt_or_le (rtI n) M with g | g
  · exact g
  · have := sq_mono hM g; omega
theorem l07Square_any (n : Int) (w : World) (h0 : 0 ≤ n) (h1 : n ≤ 1000000000000000000) :
    Calls Tryd.prog 105 #[.int .i64 n] w fun e w' => e = .returned (.bool (sqB n)) ∧ w = w' := by
  obtain ⟨r1, r2⟩ := rtI_bd (n := n) (M := 1000000001) h0 (by omega) (by omega)
  have HR := Lib.hid (l07Root_any n · h0 h1)
  unfold sqB
  generalize rtI n = r at *
  have m3 : 0 ≤ r * r ∧ r * r ≤ 1000000001 * 1000000001 := ⟨Int.mul_nonneg (by omega) (by omega), Int.mul_le_mul (by omega) (by omega) (by omega) (by omega)⟩
  obtain ⟨m3, m4⟩ := m3
  go_enter Tryd.func105, Tryd.ntmps105
  go_wp2_with fail
  refine (HR.out _).mono ?_
  rintro e w' ⟨rfl, rfl⟩
  go_wp2
  go_ret
  exact ⟨ret_bool (by rw [Bool.eq_iff_iff]; simp), rfl⟩

theorem sqrtEx (x r : Nat) (W : World) (h : Ieee.double.sqrt x = some r) : (callFunc 139 #[.float .f64 x]).run Tryd.prog W = .ok (.value (.float .f64 r)) W := by
  rw [run_callFunc_extern Tryd.func139 (by kernel_rfl) (by kernel_rfl) (by kernel_rfl) (e := Extern.MathSqrt.sqrt) (by kernel_rfl)]
  have h' : FloatKind.f64.format.sqrt x = some r := h
  have e : Extern.MathSqrt.sqrt #[.float .f64 x] = pure (Value.float .f64 r) := by
    change (match FloatKind.f64.format.sqrt x with | some r => pure (Value.float .f64 r) | none => (do pure (Value.float .f64 (← choose (.nanBits .f64 x x))) : Sem Value)) = _
    rw [h']
  rw [e]
  rfl
theorem Sqrt_any (x r : Nat) (w : World) (h : Ieee.double.sqrt x = some r) : Calls Tryd.prog 131 #[.float .f64 x] w fun e w' => e = .returned (.float .f64 r) ∧ w = w' := by
  have hs := fun W => sqrtEx x r W h
  clear h
  go_enter Tryd.func131, Tryd.ntmps131
  go_wp2
  go_ret
  exact ⟨rfl, rfl⟩
theorem sqrt_zero : ∃ b r, Ieee.double.sqrt (Ieee.double.write (.number false 0 0)) = some b ∧ Go.floatToIntVal .f64 b .i64 = some r ∧ 0 ≤ r ∧ r ≤ 2 ^ 30 := ⟨_, 0, rfl, by decide +kernel, by omega, by omega⟩
theorem sqrt_all {n : Nat} (hb : n < 2 ^ 53) : ∃ b r, Ieee.double.sqrt (Ieee.double.write (.number false n 0)) = some b ∧ Go.floatToIntVal .f64 b .i64 = some r ∧ 0 ≤ r ∧ r ≤ 2 ^ 30 := by
  rcases Nat.eq_zero_or_pos n with rfl | h
  · exact sqrt_zero
  · exact sqrt_int h hb
theorem toFloat (n : Nat) (W : World) : (convert 2 139 (.int .i64 (n : Int))).run Tryd.prog W = .ok (.float .f64 (Ieee.double.write (.number false n 0))) W := by
  have e : FloatKind.f64.nearest (n : Int) = Ieee.double.write (.number false n 0) := by
    unfold FloatKind.nearest FloatKind.encode
    rw [decide_eq_false (by omega), Int.natAbs_natCast]
    rfl
  simp [convert, run_underlying Tryd.underlying2, run_underlying Tryd.underlying139, Conv.intToFloat, e]

set_option maxHeartbeats 1000000 in
theorem root_any (n : Int) (w : World) (h0 : 0 ≤ n) (h1 : n ≤ 1000000000000000) :
    Calls Tryd.prog 112 #[.int .i64 n] w fun e w' => e = .returned (.int .i64 (rtI n)) ∧ w = w' := by
  have HR := Lib.hid (rtI_is h0)
  generalize rtI n = R at *
  obtain ⟨m, rfl⟩ := Int.eq_ofNat_of_zero_le h0
  obtain ⟨b, r, hs, hf, r0, r1⟩ := sqrt_all (n := m) (by omega)
  have r1' : r ≤ 1073741824 := by omega
  have c1 := toFloat m
  have c2 : ∀ W, (convert 139 2 (.float .f64 b)).run Tryd.prog W = .ok (.int .i64 r) W := fun W => run_convert_float_int W 139 2 .f64 .i64 b r (by kernel_rfl) Tryd.underlying2 hf
  have HS := Lib.hid (Sqrt_any _ b · hs)
  clear hs hf r1
  generalize Ieee.double.write (.number false m 0) = x at *
  go_enter Tryd.func112, Tryd.ntmps112
  go_wp2_with fail
  refine (HS.out _).mono ?_
  rintro e w' ⟨rfl, rfl⟩
  go_wp2_with fail
  clear c1 c2
  go_loop [3] (fun t => ∃ s : Int, 0 ≤ s ∧ s ≤ 1073741824 ∧ t = .int .i64 s) (fun t => (intOf t).toNat)
  case atStart => exact ⟨r, by omega, by omega, rfl⟩
  case round =>
    obtain ⟨s, s0, s1, rfl⟩ := hrel
    obtain ⟨p1, p2⟩ : 0 ≤ s * s ∧ s * s ≤ 1073741824 * 1073741824 := ⟨Int.mul_nonneg (by omega) (by omega), Int.mul_le_mul (by omega) (by omega) (by omega) (by omega)⟩
    by_cases hc : (m : Int) < s * s
    · have hs0 : 0 < s := by
        rcases Int.lt_or_le 0 s with g | g
        · exact g
        · obtain rfl : s = 0 := by omega
          omega
      go_wp2
      go_round
      case rel => exact ⟨s - 1, by omega, by omega, rfl⟩
      case measure => simp [intOf]; omega
    · have HC : Hid (s * s ≤ (m : Int)) := by unfold Hid; omega
      go_wp2_with fail
      clear p1 p2
      go_loop [3] (fun t => ∃ s : Int, 0 ≤ s ∧ s ≤ 1073741824 ∧ Hid (s * s ≤ (m : Int)) ∧ t = .int .i64 s) (fun t => (m + 1 - intOf t).toNat)
      case atStart => exact ⟨s, by omega, by omega, HC.out, rfl⟩
      case round =>
        obtain ⟨u, u0, u1, HU, rfl⟩ := hrel
        obtain ⟨p1, p2⟩ : 0 ≤ (u + 1) * (u + 1) ∧ (u + 1) * (u + 1) ≤ 1073741825 * 1073741825 := ⟨Int.mul_nonneg (by omega) (by omega), Int.mul_le_mul (by omega) (by omega) (by omega) (by omega)⟩
        by_cases hc : (u + 1) * (u + 1) ≤ (m : Int)
        · have hu : u + 1 ≤ 40000000 := by
            rcases Int.lt_or_le 40000000 (u + 1) with g | g
            · have := sq_mono (a := 40000000) (b := u + 1) (by omega) (by omega); omega
            · exact g
          have hum : u + 1 ≤ (m : Int) := by
            have := Int.mul_le_mul_of_nonneg_left (show 1 ≤ u + 1 by omega) (show 0 ≤ u + 1 by omega)
            omega
          have HC2 := Lib.hid hc
          go_wp2
          go_round
          case rel => exact ⟨u + 1, by omega, by omega, HC2.out, rfl⟩
          case measure => simp [intOf]; omega
        · have HE : Hid (u = R) := IsRt.uniq ⟨u0, HU.out, by omega⟩ HR.out
          go_wp2
          go_ret
          exact ⟨ret_int HE.out, rfl⟩
theorem isSquare_any (n : Int) (w : World) (h0 : 0 ≤ n) (h1 : n ≤ 1000000000000000) :
    Calls Tryd.prog 83 #[.int .i64 n] w fun e w' => e = .returned (.bool (sqB n)) ∧ w = w' := by
  obtain ⟨r1, r2⟩ := rtI_bd (n := n) (M := 1000000001) h0 (by omega) (by omega)
  have HR := Lib.hid (root_any n · h0 h1)
  unfold sqB
  generalize rtI n = r at *
  have m3 : 0 ≤ r * r ∧ r * r ≤ 1000000001 * 1000000001 := ⟨Int.mul_nonneg (by omega) (by omega), Int.mul_le_mul (by omega) (by omega) (by omega) (by omega)⟩
  obtain ⟨m3, m4⟩ := m3
  go_enter Tryd.func83, Tryd.ntmps83
  go_wp2_with fail
  refine (HR.out _).mono ?_
  rintro e w' ⟨rfl, rfl⟩
  go_wp2
  go_ret
  exact ⟨ret_bool (by rw [Bool.eq_iff_iff]; simp), rfl⟩
end Go.Proofs.YtmgfceiomfiknaaDoor
