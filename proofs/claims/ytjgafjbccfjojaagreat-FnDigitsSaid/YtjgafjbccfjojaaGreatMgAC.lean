/- Parts of the proof, merged: DigW DigSW. No condition but those that each theorem names. -/
import Derived.Test.YtjgafjbccfjojaaGreatMgAA
import Derived.Test.YtjgafjbccfjojaaGreatMgAB
import Derived.Lib.BufferOwn
import Derived.Deep.RegionHeld3
import Derived.StillTailTactics
namespace Go.Proofs.YtjgafjbccfjojaaGreat
open Go.RowKit Go.Sort
theorem lowI_mul (x y : Int) : lowI (x * y) = decide (x.natAbs * y.natAbs ≤ 100000000000000000) := by
  rw [Bool.eq_iff_iff, lowI_true, decide_eq_true_iff, ← Int.natAbs_mul]
  omega
/-- How both sides test a product. -/
theorem fit_quo {x y : Int} (hy : y ≠ 0) : fitI x y = decide ((x.natAbs : Int) ≤ 100000000000000000 / (y.natAbs : Int)) := by
  unfold fitI
  rw [lowI_mul, Bool.eq_iff_iff, decide_eq_true_iff, decide_eq_true_iff]
  have h1 : 0 < y.natAbs := Int.natAbs_pos.2 hy
  rw [show (100000000000000000 : Int) / (y.natAbs : Int) = ((100000000000000000 / y.natAbs : Nat) : Int) by simp, Int.ofNat_le]
  exact (Nat.le_div_iff_mul_le h1).symm
theorem fit_zero (x : Int) : fitI x 0 = true := by unfold fitI; rw [Int.mul_zero]; rfl
theorem fit_comm (x y : Int) : fitI x y = fitI y x := by unfold fitI; rw [Int.mul_comm]
theorem fit_bd {x y : Int} (h : fitI x y = true) : -100000000000000000 ≤ x * y ∧ x * y ≤ 100000000000000000 := lowI_true.1 h
theorem quo_bd {n : Nat} (h : 0 < n) : 0 ≤ (100000000000000000 : Int) / (n : Int) ∧ (100000000000000000 : Int) / (n : Int) ≤ 100000000000000000 ∧ (100000000000000000 : Int).tdiv (n : Int) = 100000000000000000 / (n : Int) :=
  ⟨Int.ediv_nonneg (by omega) (by omega), Int.ediv_le_self _ (by omega), Int.tdiv_eq_ediv_of_nonneg (by omega)⟩
theorem tdiv_nat_bd {x : Int} {g : Nat} {M : Int} (h1 : -M ≤ x) (h2 : x ≤ M) : -M ≤ x.tdiv g ∧ x.tdiv g ≤ M := by
  have := tdiv_le (x := x) (g := g)
  omega
theorem isBase_any (n : Int) (w : World) : Calls Tryz.prog 23 #[.int .i64 n] w fun e w' => e = .returned (.bool (inR n 2 36)) ∧ w = w' := by
  go_enter Tryz.func23, Tryz.ntmps23
  go_wp2_with fail
  refine (within_any n 2 36 _).mono ?_
  rintro e w' ⟨rfl, rfl⟩
  go_wp2
  go_ret
  exact ⟨rfl, rfl⟩
theorem l16Base_any (n : Int) (w : World) : Calls Tryz.prog 39 #[.int .i64 n] w fun e w' => e = .returned (.bool (inR n 2 36)) ∧ w = w' := by
  go_enter Tryz.func39, Tryz.ntmps39
  go_wp2_with fail
  refine (l00In_any n 2 36 _).mono ?_
  rintro e w' ⟨rfl, rfl⟩
  go_wp2
  go_ret
  exact ⟨rfl, rfl⟩
set_option maxHeartbeats 1000000 in
theorem knownOf_any (s : S4) (w : World) (hl : s.low = true) (hc : 0 ≤ s.c) (hd : 0 ≤ s.d) :
    Calls Tryz.prog 54 #[.int .i64 s.a, .int .i64 s.b, .int .i64 s.c, .int .i64 s.d] w fun e w' => e = .returned (.tuple #[.int .i64 s.q, .bool s.kn]) ∧ w = w' := by
  obtain ⟨⟨a1, a2⟩, ⟨b1, b2⟩, ⟨c1, c2⟩, ⟨d1, d2⟩⟩ := S4.low_true.1 hl
  have HQ : Hid (s.q = s.a / s.c) := rfl
  have HK : Hid (s.kn = (decide (0 < s.c) && decide (s.a / s.c = (s.a + s.b) / (s.c + s.d)))) := rfl
  rw [HQ.out, HK.out]
  clear HQ HK hl
  generalize s.a = a at *
  generalize s.b = b at *
  generalize s.c = c at *
  generalize s.d = d at *
  by_cases h0 : c = 0
  · subst h0
    have e0 : ((0 : Int) == 0) = true := rfl
    go_enter Tryz.func54, Tryz.ntmps54
    go_wp2
    go_ret2
    exact ⟨by simp, rfl⟩
  · have e0 : (c == 0) = false := by simpa using h0
    have e1 : (c + d == 0) = false := by simp; omega
    have e2 : decide (c < 0) = false := by simp; omega
    have e3 : decide (c + d < 0) = false := by simp; omega
    have p0 : 0 < c := by omega
    have HD1 := Lib.hid (fun W : World => floorDiv_any a c W (by omega) (by omega) (by omega) (by omega))
    have HD2 := Lib.hid (fun W : World => floorDiv_any (a + b) (c + d) W (by omega) (by omega) (by omega) (by omega))
    have HP := Lib.hid p0
    generalize a / c = q at *
    generalize (a + b) / (c + d) = r at *
    clear h0 p0 hc
    go_enter Tryz.func54, Tryz.ntmps54
    go_wp2_with (first | (go_at_call 69; (with_reducible refine (HD1.out _).mono ?_); rintro e w' ⟨rfl, rfl⟩) | (go_at_call 69; (with_reducible refine (HD2.out _).mono ?_); rintro e w' ⟨rfl, rfl⟩))
    go_ret2
    refine ⟨?_, rfl⟩
    have h := HP.out
    have e : (decide (0 < c) && decide (q = r)) = (r == q) := by
      rw [Bool.eq_iff_iff]
      simp [h]
      exact eq_comm
    rw [e]
    rfl
theorem l13Div_any (n d : Int) (w : World) (n1 : -9223372036854775806 ≤ n) (n2 : n ≤ 9223372036854775806) (d1 : 1 ≤ d) (d2 : d ≤ 9223372036854775807) :
    Calls Tryz.prog 82 #[.int .i64 n, .int .i64 d] w fun e w' => e = .returned (.int .i64 (n / d)) ∧ w = w' := by
  have HD := Lib.hid (fun W : World => l02Floor_any n d W n1 n2 d1 d2)
  go_enter Tryz.func82, Tryz.ntmps82
  go_wp2_with fail
  refine (HD.out _).mono ?_
  rintro e w' ⟨rfl, rfl⟩
  go_wp2
  go_ret
  exact ⟨rfl, rfl⟩
theorem l00Max_one (n : Nat) (w : World) (h : n ≤ 9223372036854775807) : Calls Tryz.prog 94 #[.int .i64 1, .int .i64 (n : Int)] w fun e w' => e = .returned (.int .i64 ((max 1 n : Nat) : Int)) ∧ w = w' := by
  by_cases hn : (n : Int) < 1
  · go_enter Tryz.func94, Tryz.ntmps94
    go_wp2
    go_ret
    exact ⟨ret_int (by omega), rfl⟩
  · go_enter Tryz.func94, Tryz.ntmps94
    go_wp2
    all_goals
      go_ret
      exact ⟨ret_int (by omega), rfl⟩
theorem fits_any (p : Value) (x t : Int) (w : World) (x1 : -1000000000000000000 ≤ x) (x2 : x ≤ 1000000000000000000) (t1 : -1000000000000000000 ≤ t) (t2 : t ≤ 1000000000000000000) (h : lowI x = true ∨ t ≠ 0) :
    Calls Tryz.prog 83 #[p, .int .i64 x, .int .i64 t] w fun e w' => e = .returned (.bool (fitI x t)) ∧ w = w' := by
  have HS1 := Lib.hid (fun W : World => l02Size_any x W (by omega) (by omega))
  have HS2 := Lib.hid (fun W : World => l02Size_any t W (by omega) (by omega))
  have HM := Lib.hid (fun W : World => l00Max_one t.natAbs W (by omega))
  have hm : 0 < max 1 t.natAbs := by omega
  obtain ⟨q1, q2, q3⟩ := quo_bd hm
  have HE : Hid (fitI x t = decide ((x.natAbs : Int) ≤ (100000000000000000 : Int) / ((max 1 t.natAbs : Nat) : Int))) := by
    by_cases h0 : t = 0
    · subst h0
      unfold Hid
      rw [fit_zero]
      rcases h with h | h
      · have := lowI_true.1 h
        symm
        simp
        omega
      · exact absurd rfl h
    · unfold Hid
      rw [fit_quo h0, show max 1 t.natAbs = t.natAbs by have := Int.natAbs_pos.2 h0; omega]
  have hne : (((max 1 t.natAbs : Nat) : Int) == 0) = false := by simp <;> omega
  have hm1 : (1 : Int) ≤ ((max 1 t.natAbs : Nat) : Int) := by omega
  have hm2 : ((max 1 t.natAbs : Nat) : Int) ≤ 1000000000000000000 := by omega
  have hx1 : (0 : Int) ≤ (x.natAbs : Int) := by omega
  have hx2 : (x.natAbs : Int) ≤ 1000000000000000000 := by omega
  rw [HE.out]
  clear HE h hm
  generalize ((max 1 t.natAbs : Nat) : Int) = m at *
  generalize (x.natAbs : Int) = xa at *
  generalize (t.natAbs : Int) = ta at *
  go_enter Tryz.func83, Tryz.ntmps83
  go_wp2_with (first | (go_at_call 71; (with_reducible refine (HS1.out _).mono ?_); rintro e w' ⟨rfl, rfl⟩) | (go_at_call 71; (with_reducible refine (HS2.out _).mono ?_); rintro e w' ⟨rfl, rfl⟩) | (go_at_call 94; (with_reducible refine (HM.out _).mono ?_); rintro e w' ⟨rfl, rfl⟩))
  go_ret
  exact ⟨rfl, rfl⟩
set_option maxHeartbeats 1000000 in
theorem mul_fit (p : Value) (x y : Int) (w : World) (x1 : -1000000000000000000 ≤ x) (x2 : x ≤ 1000000000000000000) (y1 : -1000000000000000000 ≤ y) (y2 : y ≤ 1000000000000000000) (h : fitI x y = true) :
    Calls Tryz.prog 57 #[p, .int .i64 x, .int .i64 y] w fun e w' => e = .returned (.int .i64 (x * y)) ∧ w = w' := by
  obtain ⟨b1, b2⟩ := fit_bd h
  by_cases h0 : y = 0
  · subst h0
    have e0 : ((0 : Int) != 0) = false := rfl
    go_enter Tryz.func57, Tryz.ntmps57
    go_wp2
    go_ret
    exact ⟨ret_int (by simp), rfl⟩
  · have e0 : (y != 0) = true := by simpa using h0
    have HS1 := Lib.hid (fun W : World => abs_any x W (by omega) (by omega))
    have HS2 := Lib.hid (fun W : World => abs_any y W (by omega) (by omega))
    have hm : 0 < y.natAbs := Int.natAbs_pos.2 h0
    obtain ⟨q1, q2, q3⟩ := quo_bd hm
    have hle : (x.natAbs : Int) ≤ 100000000000000000 / (y.natAbs : Int) := by rw [fit_quo h0] at h; simpa using h
    have hgt : decide ((100000000000000000 : Int) / (y.natAbs : Int) < (x.natAbs : Int)) = false := by simp; exact hle
    have hne : ((y.natAbs : Int) == 0) = false := by simp; omega
    have hm1 : (1 : Int) ≤ (y.natAbs : Int) := by omega
    have hm2 : (y.natAbs : Int) ≤ 1000000000000000000 := by omega
    clear h h0 hm
    generalize (x.natAbs : Int) = xa at *
    generalize (y.natAbs : Int) = ya at *
    go_enter Tryz.func57, Tryz.ntmps57
    go_wp2_with (first | (go_at_call 81; (with_reducible refine (HS1.out _).mono ?_); rintro e w' ⟨rfl, rfl⟩) | (go_at_call 81; (with_reducible refine (HS2.out _).mono ?_); rintro e w' ⟨rfl, rfl⟩))
    go_ret
    exact ⟨rfl, rfl⟩
set_option maxHeartbeats 1000000 in
theorem mul_not (g : Nat) (a b c d : Int) (f : Bool) (x y : Int) (w : World) (x1 : -1000000000000000000 ≤ x) (x2 : x ≤ 1000000000000000000) (y1 : -1000000000000000000 ≤ y) (y2 : y ≤ 1000000000000000000) (h : fitI x y = false) (hb : BoxV g [.int .i64 a, .int .i64 b, .int .i64 c, .int .i64 d, .bool f] w) :
    Calls Tryz.prog 57 #[.pointer (some ⟨g, 0, none⟩), .int .i64 x, .int .i64 y] w fun e w' => e = .returned (.int .i64 0) ∧ w' = w.setCell ⟨g, 4, none⟩ (.bool true) := by
  by_cases h0 : y = 0
  · subst h0
    rw [fit_zero] at h; cases h
  · have e0 : (y != 0) = true := by simpa using h0
    have HS1 := Lib.hid (fun W : World => abs_any x W (by omega) (by omega))
    have HS2 := Lib.hid (fun W : World => abs_any y W (by omega) (by omega))
    have hm : 0 < y.natAbs := Int.natAbs_pos.2 h0
    obtain ⟨q1, q2, q3⟩ := quo_bd hm
    have hlt : 100000000000000000 / (y.natAbs : Int) < (x.natAbs : Int) := by rw [fit_quo h0] at h; simpa using h
    have hgt : decide ((100000000000000000 : Int) / (y.natAbs : Int) < (x.natAbs : Int)) = true := by simpa using hlt
    have hne : ((y.natAbs : Int) == 0) = false := by simp; omega
    have hm1 : (1 : Int) ≤ (y.natAbs : Int) := by omega
    have hm2 : (y.natAbs : Int) ≤ 1000000000000000000 := by omega
    have k4 := hb.at 4 _ rfl
    have f4 := hb.f 4
    clear h h0 hm
    generalize (x.natAbs : Int) = xa at *
    generalize (y.natAbs : Int) = ya at *
    go_enter Tryz.func57, Tryz.ntmps57
    go_wp2_with (first | (go_at_call 81; (with_reducible refine (HS1.out _).mono ?_); rintro e w' ⟨rfl, rfl⟩) | (go_at_call 81; (with_reducible refine (HS2.out _).mono ?_); rintro e w' ⟨rfl, rfl⟩))
    go_ret
    exact ⟨rfl, rfl⟩
end Go.Proofs.YtjgafjbccfjojaaGreat
namespace Go.Proofs.YtjgafjbccfjojaaGreat
open Go.RowKit Go.Sort
/-- Full already, or a number among these is too great. -/
def flB (f : Bool) (ns : List Int) : Bool := f || ns.any fun n => !lowI n
theorem flB_snoc (f : Bool) {ns : List Int} {k : Nat} {n : Int} (h : ns[k]? = some n) : flB f (ns.take (k + 1)) = (flB f (ns.take k) || !lowI n) := by
  unfold flB
  rw [List.take_add_one, h]
  simp [Bool.or_assoc]
theorem flB_low (f : Bool) (s : S4) : flB f [s.a, s.b, s.c, s.d] = (f || !s.low) := by
  unfold flB S4.low
  simp only [List.any_cons, List.any_nil, Bool.or_false, Bool.not_and, Bool.or_assoc]
@[reducible] def dsC (s : S4) (f : Bool) : List Value := [.int .i64 s.a, .int .i64 s.b, .int .i64 s.c, .int .i64 s.d, .bool f]
theorem lowI_abs (n : Int) : decide ((100000000000000000 : Int) < (n.natAbs : Int)) = !lowI n := by
  rw [Bool.eq_iff_iff]
  cases h : lowI n
  · have : ¬ (-100000000000000000 ≤ n ∧ n ≤ 100000000000000000) := fun g => by rw [lowI_true.2 g] at h; cases h
    simp
    omega
  · have := lowI_true.1 h
    simp
    omega
/-- What a state's numbers are behind the division. -/
theorem nrm_eq (s : S4) : (if (1 : Int) < (s.g : Int) then s.nrm else s) = s.nrm := by
  split
  · rfl
  · rename_i h
    have hg : s.g = 0 ∨ s.g = 1 := by omega
    obtain ⟨d1, d2, d3, d4⟩ := s.g_dvd
    rcases hg with hg | hg
    · rw [hg] at d1 d2 d3 d4
      have e1 := Int.zero_dvd.1 d1
      have e2 := Int.zero_dvd.1 d2
      have e3 := Int.zero_dvd.1 d3
      have e4 := Int.zero_dvd.1 d4
      obtain ⟨a, b, c, d⟩ := s
      simp only at e1 e2 e3 e4
      subst e1 e2 e3 e4
      simp [S4.nrm]
    · obtain ⟨a, b, c, d⟩ := s
      unfold S4.nrm
      rw [hg]
      simp
theorem gcd_le {a b : Int} {M : Nat} (ha : a.natAbs ≤ M) (hb : b.natAbs ≤ M) : Int.gcd a b ≤ M := by
  rcases Nat.eq_zero_or_pos a.natAbs with e | e
  · have : Int.gcd a b = b.natAbs := by unfold Int.gcd; rw [e, Nat.gcd_zero_left]
    omega
  · exact Nat.le_trans (Nat.gcd_le_left _ e) ha
set_option maxRecDepth 100000 in
set_option maxHeartbeats 3000000 in
theorem dset_any (g : Nat) (s t : S4) (f : Bool) (w : World) (hb : BoxV g (dsC t f) w) (M : -1000000000000000000 ≤ s.a ∧ s.a ≤ 1000000000000000000) (M2 : -1000000000000000000 ≤ s.b ∧ s.b ≤ 1000000000000000000) (M3 : -1000000000000000000 ≤ s.c ∧ s.c ≤ 1000000000000000000) (M4 : -1000000000000000000 ≤ s.d ∧ s.d ≤ 1000000000000000000) :
    Calls Tryz.prog 56 #[.pointer (some ⟨g, 0, none⟩), .int .i64 s.a, .int .i64 s.b, .int .i64 s.c, .int .i64 s.d] w fun e w' => e = .returned (.tuple #[]) ∧ BoxV g (dsC s.nrm (f || !s.nrm.low)) w' ∧ w.grownBy w' (some g) := by
  obtain ⟨a1, a2⟩ := M
  obtain ⟨b1, b2⟩ := M2
  obtain ⟨c1, c2⟩ := M3
  obtain ⟨d1, d2⟩ := M4
  have hg1 : Int.gcd s.a s.b ≤ 1000000000000000000 := gcd_le (by omega) (by omega)
  have hg2 : Int.gcd s.c s.d ≤ 1000000000000000000 := gcd_le (by omega) (by omega)
  have hG : Hid (Int.gcd (Int.gcd s.a s.b : Int) (Int.gcd s.c s.d : Int) = s.g) := by simp [Hid, S4.g, Int.gcd]
  have hg3 : s.g ≤ 1000000000000000000 := by rw [← hG.out]; exact gcd_le (by omega) (by omega)
  have H1 := Lib.hid (fun W : World => gcd_any s.a s.b W (by omega) (by omega) (by omega) (by omega))
  have H2 := Lib.hid (fun W : World => gcd_any s.c s.d W (by omega) (by omega) (by omega) (by omega))
  have H3 : Hid (∀ W : World, Calls Tryz.prog 68 #[.int .i64 (Int.gcd s.a s.b : Int), .int .i64 (Int.gcd s.c s.d : Int)] W fun e w' => e = .returned (.int .i64 (s.g : Int)) ∧ Below W.heap.size W w') := fun W => by
    have h := gcd_any (Int.gcd s.a s.b : Int) (Int.gcd s.c s.d : Int) W (by omega) (by omega) (by omega) (by omega)
    rwa [hG.out] at h
  have HN := Lib.hid (nrm_eq s)
  have t1 := tdiv_nat_bd (g := s.g) a1 a2
  have t2 := tdiv_nat_bd (g := s.g) b1 b2
  have t3 := tdiv_nat_bd (g := s.g) c1 c2
  have t4 := tdiv_nat_bd (g := s.g) d1 d2
  have HNR : Hid (s.nrm = ⟨s.a.tdiv s.g, s.b.tdiv s.g, s.c.tdiv s.g, s.d.tdiv s.g⟩) := rfl
  have HB := Lib.hid hb
  clear hb hG
  have HFL : Hid (∀ na nb nc nd : Int, s.nrm = ⟨na, nb, nc, nd⟩ → flB f [na, nb, nc, nd] = (f || !s.nrm.low)) := fun na nb nc nd h => by
    rw [← flB_low, h]
  by_cases h1 : (1 : Int) < (s.g : Int)
  · have h1' : decide ((1 : Int) < (s.g : Int)) = true := by simpa using h1
    have e0 : ¬ ((s.g : Int) = 0) := by omega
    have e0n : ¬ (s.g = 0) := by omega
    obtain ⟨⟨p1, p2⟩, ⟨p3, p4⟩, ⟨p5, p6⟩, ⟨p7, p8⟩⟩ := And.intro t1 (And.intro t2 (And.intro t3 t4))
    have v1 : IntKind.i64.wrap (s.a.tdiv (s.g : Int)) = s.a.tdiv (s.g : Int) := IntWalk.i64_in _ (by omega)
    have v2 : IntKind.i64.wrap (s.b.tdiv (s.g : Int)) = s.b.tdiv (s.g : Int) := IntWalk.i64_in _ (by omega)
    have v3 : IntKind.i64.wrap (s.c.tdiv (s.g : Int)) = s.c.tdiv (s.g : Int) := IntWalk.i64_in _ (by omega)
    have v4 : IntKind.i64.wrap (s.d.tdiv (s.g : Int)) = s.d.tdiv (s.g : Int) := IntWalk.i64_in _ (by omega)
    clear t1 t2 t3 t4 HN h1
    go_enter Tryz.func56, Tryz.ntmps56
    go_wp2_with fail
    refine (H1.out _).mono ?_
    rintro e w1 ⟨rfl, hb1⟩
    go_wp2_with fail
    refine (H2.out _).mono ?_
    rintro e w2 ⟨rfl, hb2⟩
    go_wp2_with fail
    refine (H3.out _).mono ?_
    rintro e w3 ⟨rfl, hb3⟩
    have hbe := ext_trans (ext_trans hb1 hb2) hb3
    go_wp2_with fail
    refine wp_region_quiet_below (by kernel_rfl) (by kernel_rfl) ?_
    repeat (first | go_big_quiet_step (fail) | quiet_step (fail))
    refine wpQuiet_nil ?_
    intro _ hw'
    obtain ⟨⟨dq, oq⟩, hw''⟩ := hw'
    subst hw''
    have hbe2 := ext_trans hbe (below_regrown w3 dq oq)
    clear v1 v2 v3 v4 h1' e0 e0n hg1 hg2 hg3
    generalize s.a.tdiv (s.g : Int) = na at *
    generalize s.b.tdiv (s.g : Int) = nb at *
    generalize s.c.tdiv (s.g : Int) = nc at *
    generalize s.d.tdiv (s.g : Int) = nd at *
    clear hb1 hb2 hb3 hbe H1 H2 H3
    generalize grow (redrawn w3 dq) oq = W3 at *
    have B3 := Lib.hid (HB.out.next hbe2)
    have HG3 := Lib.hid (Go.Lib.grownBy_below (World.grownBy.refl w (some g)) hbe2)
    clear HB hbe2
    have x0 := B3.out.at 0 _ rfl
    have x1 := B3.out.at 1 _ rfl
    have x2 := B3.out.at 2 _ rfl
    have x3 := B3.out.at 3 _ rfl
    have f0 := B3.out.f 0
    have f1 := B3.out.f 1
    have f2 := B3.out.f 2
    have f3 := B3.out.f 3
    have hgl := B3.out.lt
    have B5 : Hid (BoxV g (dsC ⟨na, nb, nc, nd⟩ f) (((((W3.setCell ⟨g, 0, none⟩ (.int .i64 na)).setCell ⟨g, 1, none⟩ (.int .i64 nb)).setCell ⟨g, 2, none⟩ (.int .i64 nc)).setCell ⟨g, 3, none⟩ (.int .i64 nd)).alloc (.cells #[.int .i64 na, .int .i64 nb, .int .i64 nc, .int .i64 nd] 2))) :=
      ((((B3.out.set 0 (.int .i64 na) (by simp)).set 1 (.int .i64 nb) (by simp)).set 2 (.int .i64 nc) (by simp)).set 3 (.int .i64 nd) (by simp)).alloc _
    have B6 : Hid (BoxV W3.heap.size [.int .i64 na, .int .i64 nb, .int .i64 nc, .int .i64 nd] (((((W3.setCell ⟨g, 0, none⟩ (.int .i64 na)).setCell ⟨g, 1, none⟩ (.int .i64 nb)).setCell ⟨g, 2, none⟩ (.int .i64 nc)).setCell ⟨g, 3, none⟩ (.int .i64 nd)).alloc (.cells #[.int .i64 na, .int .i64 nb, .int .i64 nc, .int .i64 nd] 2))) := by
      have h := BoxV.new ((((W3.setCell ⟨g, 0, none⟩ (.int .i64 na)).setCell ⟨g, 1, none⟩ (.int .i64 nb)).setCell ⟨g, 2, none⟩ (.int .i64 nc)).setCell ⟨g, 3, none⟩ (.int .i64 nd)) #[.int .i64 na, .int .i64 nb, .int .i64 nc, .int .i64 nd] 2
      simp only [World.size_setCell] at h
      exact h
    have HG5 : Hid (w.grownBy (((((W3.setCell ⟨g, 0, none⟩ (.int .i64 na)).setCell ⟨g, 1, none⟩ (.int .i64 nb)).setCell ⟨g, 2, none⟩ (.int .i64 nc)).setCell ⟨g, 3, none⟩ (.int .i64 nd)).alloc (.cells #[.int .i64 na, .int .i64 nb, .int .i64 nc, .int .i64 nd] 2)) (some g)) :=
      Go.Lib.grownBy_allocR (Go.Lib.grownBy_setB (Go.Lib.grownBy_setB (Go.Lib.grownBy_setB (Go.Lib.grownBy_setB HG3.out 0 _) 1 _) 2 _) 3 _) _
    clear HG3 B3
    go_wp2_with fail
    generalize (((((W3.setCell ⟨g, 0, none⟩ (.int .i64 na)).setCell ⟨g, 1, none⟩ (.int .i64 nb)).setCell ⟨g, 2, none⟩ (.int .i64 nc)).setCell ⟨g, 3, none⟩ (.int .i64 nd)).alloc (.cells #[.int .i64 na, .int .i64 nb, .int .i64 nc, .int .i64 nd] 2)) = W5 at *
    have HFL2 := Lib.hid (HFL.out na nb nc nd HNR.out)
    clear x0 x1 x2 x3 f0 f1 f2 f3 HFL
    generalize W3.heap.size = h at *
    go_loopw [56] (fun t wr => ∃ k : Nat, k ≤ 4 ∧ t = .int .i64 k ∧ Hid (BoxV g (dsC ⟨na, nb, nc, nd⟩ (flB f ([na, nb, nc, nd].take k))) wr) ∧ Hid (BoxV h [.int .i64 na, .int .i64 nb, .int .i64 nc, .int .i64 nd] wr) ∧ Hid (w.grownBy wr (some g))) (fun t _ => 4 - (intOf t).toNat)
    case atStart => exact ⟨0, by omega, rfl, by simpa [flB] using B5, B6, HG5⟩
    case round =>
      obtain ⟨k, hk, rfl, C1, C2, C3⟩ := hrel
      clear B5 B6 HG5
      by_cases hlt : k < 4
      · obtain ⟨n, hn⟩ : ∃ n, ([na, nb, nc, nd] : List Int)[k]? = some n := ⟨_, List.getElem?_eq_getElem (by simpa using hlt)⟩
        have cn : wr.cell? ⟨h, k, none⟩ = some (.int .i64 n) := C2.out.at k _ (by have e : [Value.int .i64 na, .int .i64 nb, .int .i64 nc, .int .i64 nd] = ([na, nb, nc, nd] : List Int).map (Value.int .i64) := rfl; rw [e, List.getElem?_map, hn]; rfl)
        have hnb : -1000000000000000000 ≤ n ∧ n ≤ 1000000000000000000 := by
          have hm := List.mem_of_getElem? hn
          simp only [List.mem_cons, List.not_mem_nil, or_false] at hm
          rcases hm with rfl | rfl | rfl | rfl <;> omega
        obtain ⟨n1, n2⟩ := hnb
        have HA := Lib.hid (fun W : World => abs_any n W (by omega) (by omega))
        have HS := Lib.hid (flB_snoc f hn)
        have HL := Lib.hid (lowI_abs n)
        have x4 := C1.out.at 4 _ rfl
        have f4 := C1.out.f 4
        have i0 : (0 : Int) ≤ (k : Int) := by omega
        have i1 : (k : Int) < 4 := by omega
        clear hn
        generalize (n.natAbs : Int) = na' at *
        cases hfl : flB f ([na, nb, nc, nd].take k)
        · rw [hfl] at C1 HS x4
          have D1 := Lib.hid (fun b : Bool => C1.out.set 4 (.bool b) (by simp))
          have D2 := Lib.hid (fun b : Bool => C2.out.setFar (b := g) (j := 4) (.bool b) (by omega))
          have D3 := Lib.hid (fun b : Bool => Go.Lib.grownBy_setB C3.out 4 (.bool b))
          clear hfl
          go_wp2_with (go_at_call 81; (with_reducible refine (HA.out _).mono ?_); rintro e w' ⟨rfl, rfl⟩)
          go_roundw
          case rel => exact ⟨k + 1, by omega, by go_num, by rw [HS.out, ← HL.out]; exact D1.out _, D2.out _, D3.out _⟩
          case measure => simp [intOf]; omega
        · rw [hfl] at C1 HS x4
          have D1 := Lib.hid (fun b : Bool => C1.out.set 4 (.bool b) (by simp))
          have D2 := Lib.hid (fun b : Bool => C2.out.setFar (b := g) (j := 4) (.bool b) (by omega))
          have D3 := Lib.hid (fun b : Bool => Go.Lib.grownBy_setB C3.out 4 (.bool b))
          clear hfl
          go_wp2_with (go_at_call 81; (with_reducible refine (HA.out _).mono ?_); rintro e w' ⟨rfl, rfl⟩)
          go_roundw
          case rel => exact ⟨k + 1, by omega, by go_num, by rw [HS.out]; exact D1.out _, D2.out _, D3.out _⟩
          case measure => simp [intOf]; omega
      · have hk4 : k = 4 := by omega
        have D1 := C1.out
        rw [hk4] at D1
        have D2 : Hid (BoxV g (dsC ⟨na, nb, nc, nd⟩ (f || !(⟨na, nb, nc, nd⟩ : S4).low)) wr) := by
          have e : flB f ([na, nb, nc, nd].take 4) = (f || !(⟨na, nb, nc, nd⟩ : S4).low) := by
            have := HFL2.out
            rw [HNR.out] at this
            exact this
          rw [e] at D1
          exact D1
        have i1 : ¬ (k : Int) < 4 := by omega
        clear D1 hk4
        go_wp2
        go_end0
        rw [HNR.out]
        exact ⟨rfl, D2.out, C3.out⟩
  · have h1' : decide ((1 : Int) < (s.g : Int)) = false := by simpa using h1
    rw [if_neg h1] at HN
    have HNR : Hid (s.nrm = ⟨s.a, s.b, s.c, s.d⟩) := by unfold Hid; rw [← HN.out]
    clear t1 t2 t3 t4 HN h1
    go_enter Tryz.func56, Tryz.ntmps56
    go_wp2_with fail
    refine (H1.out _).mono ?_
    rintro e w1 ⟨rfl, hb1⟩
    go_wp2_with fail
    refine (H2.out _).mono ?_
    rintro e w2 ⟨rfl, hb2⟩
    go_wp2_with fail
    refine (H3.out _).mono ?_
    rintro e w3 ⟨rfl, hb3⟩
    have hbe := ext_trans (ext_trans hb1 hb2) hb3
    have hbe2 := hbe
    clear hg1 hg2 hg3
    generalize s.a = na at *
    generalize s.b = nb at *
    generalize s.c = nc at *
    generalize s.d = nd at *
    clear hb1 hb2 hb3 hbe H1 H2 H3
    generalize w3 = W3 at *
    have B3 := Lib.hid (HB.out.next hbe2)
    have HG3 := Lib.hid (Go.Lib.grownBy_below (World.grownBy.refl w (some g)) hbe2)
    clear HB hbe2
    have x0 := B3.out.at 0 _ rfl
    have x1 := B3.out.at 1 _ rfl
    have x2 := B3.out.at 2 _ rfl
    have x3 := B3.out.at 3 _ rfl
    have f0 := B3.out.f 0
    have f1 := B3.out.f 1
    have f2 := B3.out.f 2
    have f3 := B3.out.f 3
    have hgl := B3.out.lt
    have B5 : Hid (BoxV g (dsC ⟨na, nb, nc, nd⟩ f) (((((W3.setCell ⟨g, 0, none⟩ (.int .i64 na)).setCell ⟨g, 1, none⟩ (.int .i64 nb)).setCell ⟨g, 2, none⟩ (.int .i64 nc)).setCell ⟨g, 3, none⟩ (.int .i64 nd)).alloc (.cells #[.int .i64 na, .int .i64 nb, .int .i64 nc, .int .i64 nd] 2))) :=
      ((((B3.out.set 0 (.int .i64 na) (by simp)).set 1 (.int .i64 nb) (by simp)).set 2 (.int .i64 nc) (by simp)).set 3 (.int .i64 nd) (by simp)).alloc _
    have B6 : Hid (BoxV W3.heap.size [.int .i64 na, .int .i64 nb, .int .i64 nc, .int .i64 nd] (((((W3.setCell ⟨g, 0, none⟩ (.int .i64 na)).setCell ⟨g, 1, none⟩ (.int .i64 nb)).setCell ⟨g, 2, none⟩ (.int .i64 nc)).setCell ⟨g, 3, none⟩ (.int .i64 nd)).alloc (.cells #[.int .i64 na, .int .i64 nb, .int .i64 nc, .int .i64 nd] 2))) := by
      have h := BoxV.new ((((W3.setCell ⟨g, 0, none⟩ (.int .i64 na)).setCell ⟨g, 1, none⟩ (.int .i64 nb)).setCell ⟨g, 2, none⟩ (.int .i64 nc)).setCell ⟨g, 3, none⟩ (.int .i64 nd)) #[.int .i64 na, .int .i64 nb, .int .i64 nc, .int .i64 nd] 2
      simp only [World.size_setCell] at h
      exact h
    have HG5 : Hid (w.grownBy (((((W3.setCell ⟨g, 0, none⟩ (.int .i64 na)).setCell ⟨g, 1, none⟩ (.int .i64 nb)).setCell ⟨g, 2, none⟩ (.int .i64 nc)).setCell ⟨g, 3, none⟩ (.int .i64 nd)).alloc (.cells #[.int .i64 na, .int .i64 nb, .int .i64 nc, .int .i64 nd] 2)) (some g)) :=
      Go.Lib.grownBy_allocR (Go.Lib.grownBy_setB (Go.Lib.grownBy_setB (Go.Lib.grownBy_setB (Go.Lib.grownBy_setB HG3.out 0 _) 1 _) 2 _) 3 _) _
    clear HG3 B3
    go_wp2_with fail
    generalize (((((W3.setCell ⟨g, 0, none⟩ (.int .i64 na)).setCell ⟨g, 1, none⟩ (.int .i64 nb)).setCell ⟨g, 2, none⟩ (.int .i64 nc)).setCell ⟨g, 3, none⟩ (.int .i64 nd)).alloc (.cells #[.int .i64 na, .int .i64 nb, .int .i64 nc, .int .i64 nd] 2)) = W5 at *
    have HFL2 := Lib.hid (HFL.out na nb nc nd HNR.out)
    clear x0 x1 x2 x3 f0 f1 f2 f3 HFL
    generalize W3.heap.size = h at *
    go_loopw [56] (fun t wr => ∃ k : Nat, k ≤ 4 ∧ t = .int .i64 k ∧ Hid (BoxV g (dsC ⟨na, nb, nc, nd⟩ (flB f ([na, nb, nc, nd].take k))) wr) ∧ Hid (BoxV h [.int .i64 na, .int .i64 nb, .int .i64 nc, .int .i64 nd] wr) ∧ Hid (w.grownBy wr (some g))) (fun t _ => 4 - (intOf t).toNat)
    case atStart => exact ⟨0, by omega, rfl, by simpa [flB] using B5, B6, HG5⟩
    case round =>
      obtain ⟨k, hk, rfl, C1, C2, C3⟩ := hrel
      clear B5 B6 HG5
      by_cases hlt : k < 4
      · obtain ⟨n, hn⟩ : ∃ n, ([na, nb, nc, nd] : List Int)[k]? = some n := ⟨_, List.getElem?_eq_getElem (by simpa using hlt)⟩
        have cn : wr.cell? ⟨h, k, none⟩ = some (.int .i64 n) := C2.out.at k _ (by have e : [Value.int .i64 na, .int .i64 nb, .int .i64 nc, .int .i64 nd] = ([na, nb, nc, nd] : List Int).map (Value.int .i64) := rfl; rw [e, List.getElem?_map, hn]; rfl)
        have hnb : -1000000000000000000 ≤ n ∧ n ≤ 1000000000000000000 := by
          have hm := List.mem_of_getElem? hn
          simp only [List.mem_cons, List.not_mem_nil, or_false] at hm
          rcases hm with rfl | rfl | rfl | rfl <;> omega
        obtain ⟨n1, n2⟩ := hnb
        have HA := Lib.hid (fun W : World => abs_any n W (by omega) (by omega))
        have HS := Lib.hid (flB_snoc f hn)
        have HL := Lib.hid (lowI_abs n)
        have x4 := C1.out.at 4 _ rfl
        have f4 := C1.out.f 4
        have i0 : (0 : Int) ≤ (k : Int) := by omega
        have i1 : (k : Int) < 4 := by omega
        clear hn
        generalize (n.natAbs : Int) = na' at *
        cases hfl : flB f ([na, nb, nc, nd].take k)
        · rw [hfl] at C1 HS x4
          have D1 := Lib.hid (fun b : Bool => C1.out.set 4 (.bool b) (by simp))
          have D2 := Lib.hid (fun b : Bool => C2.out.setFar (b := g) (j := 4) (.bool b) (by omega))
          have D3 := Lib.hid (fun b : Bool => Go.Lib.grownBy_setB C3.out 4 (.bool b))
          clear hfl
          go_wp2_with (go_at_call 81; (with_reducible refine (HA.out _).mono ?_); rintro e w' ⟨rfl, rfl⟩)
          go_roundw
          case rel => exact ⟨k + 1, by omega, by go_num, by rw [HS.out, ← HL.out]; exact D1.out _, D2.out _, D3.out _⟩
          case measure => simp [intOf]; omega
        · rw [hfl] at C1 HS x4
          have D1 := Lib.hid (fun b : Bool => C1.out.set 4 (.bool b) (by simp))
          have D2 := Lib.hid (fun b : Bool => C2.out.setFar (b := g) (j := 4) (.bool b) (by omega))
          have D3 := Lib.hid (fun b : Bool => Go.Lib.grownBy_setB C3.out 4 (.bool b))
          clear hfl
          go_wp2_with (go_at_call 81; (with_reducible refine (HA.out _).mono ?_); rintro e w' ⟨rfl, rfl⟩)
          go_roundw
          case rel => exact ⟨k + 1, by omega, by go_num, by rw [HS.out]; exact D1.out _, D2.out _, D3.out _⟩
          case measure => simp [intOf]; omega
      · have hk4 : k = 4 := by omega
        have D1 := C1.out
        rw [hk4] at D1
        have D2 : Hid (BoxV g (dsC ⟨na, nb, nc, nd⟩ (f || !(⟨na, nb, nc, nd⟩ : S4).low)) wr) := by
          have e : flB f ([na, nb, nc, nd].take 4) = (f || !(⟨na, nb, nc, nd⟩ : S4).low) := by
            have := HFL2.out
            rw [HNR.out] at this
            exact this
          rw [e] at D1
          exact D1
        have i1 : ¬ (k : Int) < 4 := by omega
        clear D1 hk4
        go_wp2
        go_end0
        rw [HNR.out]
        exact ⟨rfl, D2.out, C3.out⟩
end Go.Proofs.YtjgafjbccfjojaaGreat
