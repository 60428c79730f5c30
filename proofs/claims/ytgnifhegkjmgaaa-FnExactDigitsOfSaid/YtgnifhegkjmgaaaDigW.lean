/- Digits out of a state of four numbers: products, states, what is known: both walks. No condition but those that each theorem names. -/
import Derived.Test.YtgnifhegkjmgaaaDigP
import Derived.Test.YtgnifhegkjmgaaaTmW
import Derived.Test.YtgnifhegkjmgaaaExpW
import Derived.Lib.BufferOwn
namespace Go.Proofs.Ytgnifhegkjmgaaa
open Go.RowKit Go.Sort

theorem lowI_mul (x y : Int) : lowI (x * y) = decide (x.natAbs * y.natAbs ≤ 100000000000000000) := by
  rw [Bool.eq_iff_iff, lowI_true, decide_eq_true_iff, ← Int.natAbs_mul]
  omega
/-- How both sides test a product. -/
theorem fit_quo {x y : Int} (hy : y ≠ 0) : fitI x y = decide ((x.natAbs : Int) ≤ 100000000000000000 / (y.natAbs : Int)) := by
  unfold fitI
  rw [lowI_mul, Bool.eq_iff_iff, decide_eq_true_iff, decide_eq_true_iff]
  have h1 : 0 < y.natAbs := Int.natAbs_pos.2 hy
  rw [show (100000000000000000 : Int) / (y.natAbs : Int) = ((100000000000000000 / y.natAbs : Nat) : Int) by simp, Int.ofNat_le]
  exact (Nat.le_div_iff_mul_le h1).symm
theorem fit_zero (x : Int) : fitI x 0 = true := by unfold fitI; rw [Int.mul_zero]; rfl
theorem fit_comm (x y : Int) : fitI x y = fitI y x := by unfold fitI; rw [Int.mul_comm]
theorem fit_bd {x y : Int} (h : fitI x y = true) : -100000000000000000 ≤ x * y ∧ x * y ≤ 100000000000000000 := lowI_true.1 h
theorem quo_bd {n : Nat} (h : 0 < n) : 0 ≤ (100000000000000000 : Int) / (n : Int) ∧ (100000000000000000 : Int) / (n : Int) ≤ 100000000000000000 ∧ (100000000000000000 : Int).tdiv (n : Int) = 100000000000000000 / (n : Int) :=
  ⟨Int.ediv_nonneg (by omega) (by omega), Int.ediv_le_self _ (by omega), Int.tdiv_eq_ediv_of_nonneg (by omega)⟩
theorem tdiv_nat_bd {x : Int} {g : Nat} {M : Int} (h1 : -M ≤ x) (h2 : x ≤ M) : -M ≤ x.tdiv g ∧ x.tdiv g ≤ M := by
  have := tdiv_le (x := x) (g := g)
  omega

theorem isBase_any (n : Int) (w : World) : Calls Try.prog 99 #[.int .i64 n] w fun e w' => e = .returned (.bool (inR n 2 36)) ∧ w = w' := by
  go_enter Try.func99, Try.ntmps99
  go_wp2_with fail
  refine (within_any n 2 36 _).mono ?_
  rintro e w' ⟨rfl, rfl⟩
  go_wp2
  go_ret
  exact ⟨rfl, rfl⟩
theorem l16Base_any (n : Int) (w : World) : Calls Try.prog 159 #[.int .i64 n] w fun e w' => e = .returned (.bool (inR n 2 36)) ∧ w = w' := by
  go_enter Try.func159, Try.ntmps159
  go_wp2_with fail
  refine (l00In_any n 2 36 _).mono ?_
  rintro e w' ⟨rfl, rfl⟩
  go_wp2
  go_ret
  exact ⟨rfl, rfl⟩
set_option maxHeartbeats 1000000 in
theorem knownOf_any (s : S4) (w : World) (hl : s.low = true) (hc : 0 ≤ s.c) (hd : 0 ≤ s.d) :
    Calls Try.prog 165 #[.int .i64 s.a, .int .i64 s.b, .int .i64 s.c, .int .i64 s.d] w fun e w' => e = .returned (.tuple #[.int .i64 s.q, .bool s.kn]) ∧ w = w' := by
  obtain ⟨⟨a1, a2⟩, ⟨b1, b2⟩, ⟨c1, c2⟩, ⟨d1, d2⟩⟩ := S4.low_true.1 hl
  have HQ : Hid (s.q = s.a / s.c) := rfl
  have HK : Hid (s.kn = (decide (0 < s.c) && decide (s.a / s.c = (s.a + s.b) / (s.c + s.d)))) := rfl
  rw [HQ.out, HK.out]
  clear HQ HK hl
  generalize s.a = a at *
  generalize s.b = b at *
  generalize s.c = c at *
  generalize s.d = d at *
  by_cases h0 : c = 0
  · subst h0
    have e0 : ((0 : Int) == 0) = true := rfl
    go_enter Try.func165, Try.ntmps165
    go_wp2
    go_ret2
    exact ⟨by simp, rfl⟩
  · have e0 : (c == 0) = false := by simpa using h0
    have e1 : (c + d == 0) = false := by simp; omega
    have e2 : decide (c < 0) = false := by simp; omega
    have e3 : decide (c + d < 0) = false := by simp; omega
    have p0 : 0 < c := by omega
    have HD1 := Lib.hid (fun W : World => floorDiv_any a c W (by omega) (by omega) (by omega) (by omega))
    have HD2 := Lib.hid (fun W : World => floorDiv_any (a + b) (c + d) W (by omega) (by omega) (by omega) (by omega))
    have HP := Lib.hid p0
    generalize a / c = q at *
    generalize (a + b) / (c + d) = r at *
    clear h0 p0 hc
    go_enter Try.func165, Try.ntmps165
    go_wp2_with (first | (go_at_call 170; (with_reducible refine (HD1.out _).mono ?_); rintro e w' ⟨rfl, rfl⟩) | (go_at_call 170; (with_reducible refine (HD2.out _).mono ?_); rintro e w' ⟨rfl, rfl⟩))
    go_ret2
    refine ⟨?_, rfl⟩
    have h := HP.out
    have e : (decide (0 < c) && decide (q = r)) = (r == q) := by
      rw [Bool.eq_iff_iff]
      simp [h]
      exact eq_comm
    rw [e]
    rfl
theorem l13Div_any (n d : Int) (w : World) (n1 : -9223372036854775806 ≤ n) (n2 : n ≤ 9223372036854775806) (d1 : 1 ≤ d) (d2 : d ≤ 9223372036854775807) :
    Calls Try.prog 197 #[.int .i64 n, .int .i64 d] w fun e w' => e = .returned (.int .i64 (n / d)) ∧ w = w' := by
  have HD := Lib.hid (fun W : World => l02Floor_any n d W n1 n2 d1 d2)
  go_enter Try.func197, Try.ntmps197
  go_wp2_with fail
  refine (HD.out _).mono ?_
  rintro e w' ⟨rfl, rfl⟩
  go_wp2
  go_ret
  exact ⟨rfl, rfl⟩
theorem l00Max_one (n : Nat) (w : World) (h : n ≤ 9223372036854775807) : Calls Try.prog 80 #[.int .i64 1, .int .i64 (n : Int)] w fun e w' => e = .returned (.int .i64 ((max 1 n : Nat) : Int)) ∧ w = w' := by
  by_cases hn : (n : Int) < 1
  · go_enter Try.func80, Try.ntmps80
    go_wp2
    go_ret
    exact ⟨ret_int (by omega), rfl⟩
  · go_enter Try.func80, Try.ntmps80
    go_wp2
    all_goals
      go_ret
      exact ⟨ret_int (by omega), rfl⟩
theorem fits_any (p : Value) (x t : Int) (w : World) (x1 : -1000000000000000000 ≤ x) (x2 : x ≤ 1000000000000000000) (t1 : -1000000000000000000 ≤ t) (t2 : t ≤ 1000000000000000000) (h : lowI x = true ∨ t ≠ 0) :
    Calls Try.prog 198 #[p, .int .i64 x, .int .i64 t] w fun e w' => e = .returned (.bool (fitI x t)) ∧ w = w' := by
  have HS1 := Lib.hid (fun W : World => l02Size_any x W (by omega) (by omega))
  have HS2 := Lib.hid (fun W : World => l02Size_any t W (by omega) (by omega))
  have HM := Lib.hid (fun W : World => l00Max_one t.natAbs W (by omega))
  have hm : 0 < max 1 t.natAbs := by omega
  obtain ⟨q1, q2, q3⟩ := quo_bd hm
  have HE : Hid (fitI x t = decide ((x.natAbs : Int) ≤ (100000000000000000 : Int) / ((max 1 t.natAbs : Nat) : Int))) := by
    by_cases h0 : t = 0
    · subst h0
      unfold Hid
      rw [fit_zero]
      rcases h with h | h
      · have := lowI_true.1 h
        symm
        simp
        omega
      · exact absurd rfl h
    · unfold Hid
      rw [fit_quo h0, show max 1 t.natAbs = t.natAbs by have := Int.natAbs_pos.2 h0; omega]
  have hne : (((max 1 t.natAbs : Nat) : Int) == 0) = false := by simp <;> omega
  have hm1 : (1 : Int) ≤ ((max 1 t.natAbs : Nat) : Int) := by omega
  have hm2 : ((max 1 t.natAbs : Nat) : Int) ≤ 1000000000000000000 := by omega
  have hx1 : (0 : Int) ≤ (x.natAbs : Int) := by omega
  have hx2 : (x.natAbs : Int) ≤ 1000000000000000000 := by omega
  rw [HE.out]
  clear HE h hm
  generalize ((max 1 t.natAbs : Nat) : Int) = m at *
  generalize (x.natAbs : Int) = xa at *
  generalize (t.natAbs : Int) = ta at *
  go_enter Try.func198, Try.ntmps198
  go_wp2_with (first | (go_at_call 117; (with_reducible refine (HS1.out _).mono ?_); rintro e w' ⟨rfl, rfl⟩) | (go_at_call 117; (with_reducible refine (HS2.out _).mono ?_); rintro e w' ⟨rfl, rfl⟩) | (go_at_call 80; (with_reducible refine (HM.out _).mono ?_); rintro e w' ⟨rfl, rfl⟩))
  go_ret
  exact ⟨rfl, rfl⟩
set_option maxHeartbeats 1000000 in
theorem mul_fit (p : Value) (x y : Int) (w : World) (x1 : -1000000000000000000 ≤ x) (x2 : x ≤ 1000000000000000000) (y1 : -1000000000000000000 ≤ y) (y2 : y ≤ 1000000000000000000) (h : fitI x y = true) :
    Calls Try.prog 168 #[p, .int .i64 x, .int .i64 y] w fun e w' => e = .returned (.int .i64 (x * y)) ∧ w = w' := by
  obtain ⟨b1, b2⟩ := fit_bd h
  by_cases h0 : y = 0
  · subst h0
    have e0 : ((0 : Int) != 0) = false := rfl
    go_enter Try.func168, Try.ntmps168
    go_wp2
    go_ret
    exact ⟨ret_int (by simp), rfl⟩
  · have e0 : (y != 0) = true := by simpa using h0
    have HS1 := Lib.hid (fun W : World => abs_any x W (by omega) (by omega))
    have HS2 := Lib.hid (fun W : World => abs_any y W (by omega) (by omega))
    have hm : 0 < y.natAbs := Int.natAbs_pos.2 h0
    obtain ⟨q1, q2, q3⟩ := quo_bd hm
    have hle : (x.natAbs : Int) ≤ 100000000000000000 / (y.natAbs : Int) := by rw [fit_quo h0] at h; simpa using h
    have hgt : decide ((100000000000000000 : Int) / (y.natAbs : Int) < (x.natAbs : Int)) = false := by simp; exact hle
    have hne : ((y.natAbs : Int) == 0) = false := by simp; omega
    have hm1 : (1 : Int) ≤ (y.natAbs : Int) := by omega
    have hm2 : (y.natAbs : Int) ≤ 1000000000000000000 := by omega
    clear h h0 hm
    generalize (x.natAbs : Int) = xa at *
    generalize (y.natAbs : Int) = ya at *
    go_enter Try.func168, Try.ntmps168
    go_wp2_with (first | (go_at_call 116; (with_reducible refine (HS1.out _).mono ?_); rintro e w' ⟨rfl, rfl⟩) | (go_at_call 116; (with_reducible refine (HS2.out _).mono ?_); rintro e w' ⟨rfl, rfl⟩))
    go_ret
    exact ⟨rfl, rfl⟩
set_option maxHeartbeats 1000000 in
theorem mul_not (g : Nat) (a b c d : Int) (f : Bool) (x y : Int) (w : World) (x1 : -1000000000000000000 ≤ x) (x2 : x ≤ 1000000000000000000) (y1 : -1000000000000000000 ≤ y) (y2 : y ≤ 1000000000000000000) (h : fitI x y = false) (hb : BoxV g [.int .i64 a, .int .i64 b, .int .i64 c, .int .i64 d, .bool f] w) :
    Calls Try.prog 168 #[.pointer (some ⟨g, 0, none⟩), .int .i64 x, .int .i64 y] w fun e w' => e = .returned (.int .i64 0) ∧ w' = w.setCell ⟨g, 4, none⟩ (.bool true) := by
  by_cases h0 : y = 0
  · subst h0
    rw [fit_zero] at h; cases h
  · have e0 : (y != 0) = true := by simpa using h0
    have HS1 := Lib.hid (fun W : World => abs_any x W (by omega) (by omega))
    have HS2 := Lib.hid (fun W : World => abs_any y W (by omega) (by omega))
    have hm : 0 < y.natAbs := Int.natAbs_pos.2 h0
    obtain ⟨q1, q2, q3⟩ := quo_bd hm
    have hlt : 100000000000000000 / (y.natAbs : Int) < (x.natAbs : Int) := by rw [fit_quo h0] at h; simpa using h
    have hgt : decide ((100000000000000000 : Int) / (y.natAbs : Int) < (x.natAbs : Int)) = true := by simpa using hlt
    have hne : ((y.natAbs : Int) == 0) = false := by simp; omega
    have hm1 : (1 : Int) ≤ (y.natAbs : Int) := by omega
    have hm2 : (y.natAbs : Int) ≤ 1000000000000000000 := by omega
    have k4 := hb.at 4 _ rfl
    have f4 := hb.f 4
    clear h h0 hm
    generalize (x.natAbs : Int) = xa at *
    generalize (y.natAbs : Int) = ya at *
    go_enter Try.func168, Try.ntmps168
    go_wp2_with (first | (go_at_call 116; (with_reducible refine (HS1.out _).mono ?_); rintro e w' ⟨rfl, rfl⟩) | (go_at_call 116; (with_reducible refine (HS2.out _).mono ?_); rintro e w' ⟨rfl, rfl⟩))
    go_ret
    exact ⟨rfl, rfl⟩
end Go.Proofs.Ytgnifhegkjmgaaa
