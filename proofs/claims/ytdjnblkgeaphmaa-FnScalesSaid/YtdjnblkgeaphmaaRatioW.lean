/- RatioSteps: both walks. No condition but those that each theorem names. -/
import Derived.Test.YtdjnblkgeaphmaaFracW
import Derived.Test.YtdjnblkgeaphmaaGear
namespace Go.Proofs.Ytdjnblkgeaphmaa
open Go.RowKit Go.Sort

theorem pw_nat (b k : Nat) : pw (b : Int) k = ((b ^ k : Nat) : Int) := by
  induction k with
  | zero => rfl
  | succ k ih => rw [pw, ih, Nat.pow_succ, Int.natCast_mul]
theorem pow_le12 {b k : Nat} (hb : b ≤ 20) (hk : k ≤ 12) : b ^ k ≤ 4096000000000000 := by
  have h1 : b ^ k ≤ 20 ^ k := Nat.pow_le_pow_left hb k
  have h2 : 20 ^ k ≤ 20 ^ 12 := Nat.pow_le_pow_right (by omega) hk
  omega
/-- The greatest k for which B * 2^k is at most T. -/
def ratK (T B : Nat) : Nat := Nat.log2 (T / B)
theorem ratK_iff {T B k : Nat} (hB : 0 < B) (h : B ≤ T) : k ≤ ratK T B ↔ 2 ^ k * B ≤ T := by
  unfold ratK
  rw [Nat.le_log2 (by have : 0 < T / B := Nat.div_pos h hB; omega), Nat.le_div_iff_mul_le hB]
theorem ratK_le {N D s : Nat} (hD : 0 < D) (h1 : D ≤ N) (h2 : N ≤ 2 * D) : ratK (N ^ s) (D ^ s) ≤ s := by
  have hp : 0 < D ^ s := Nat.pow_pos hD
  have hle : D ^ s ≤ N ^ s := Nat.pow_le_pow_left h1 s
  rcases Nat.lt_or_ge s (ratK (N ^ s) (D ^ s)) with h | h
  · have h3 := (ratK_iff (k := s + 1) hp hle).1 h
    have h4 : N ^ s ≤ (2 * D) ^ s := Nat.pow_le_pow_left h2 s
    rw [Nat.mul_pow] at h4
    rw [Nat.pow_succ] at h3
    have : 0 < 2 ^ s * D ^ s := Nat.mul_pos (Nat.pow_pos (by omega)) hp
    have e : 2 ^ s * 2 * D ^ s = 2 * (2 ^ s * D ^ s) := by rw [Nat.mul_comm (2 ^ s) 2, Nat.mul_assoc]
    omega
  · exact h

def ratOk (s n d : Int) : Bool := inR s 1 12 && decide (d ≤ n) && decide (n ≤ 2 * d) && decide (n ≤ 20)
def ratC (s n d : Int) : Int := if fracOk n d = true then (if ratOk s n d = true then 0 else 2) else 1
def ratA (s n d : Int) : Int := if ratC s n d = 0 then ratK (n.toNat ^ s.toNat) (d.toNat ^ s.toNat) else 0

theorem ratC_zero {s n d : Int} (h : ratC s n d = 0) : fracOk n d = true ∧ 1 ≤ s ∧ s ≤ 12 ∧ d ≤ n ∧ n ≤ 2 * d ∧ n ≤ 20 ∧ 1 ≤ d := by
  unfold ratC at h
  split at h
  · split at h
    · rename_i h1 h2
      obtain ⟨d1, _⟩ := fracOk_true.1 h1
      unfold ratOk at h2
      simp only [Bool.and_eq_true, decide_eq_true_eq] at h2
      obtain ⟨⟨⟨a, b⟩, c⟩, e⟩ := h2
      obtain ⟨a1, a2⟩ := inR_true.1 a
      exact ⟨h1, a1, a2, b, c, e, d1⟩
    · cases h
  · cases h

set_option maxHeartbeats 1000000 in
theorem l25Fits_any (N D sz s : Nat) (w : World) (hD : 1 ≤ D) (hDN : D ≤ N) (hN : N ≤ 20) (hs : s ≤ 13) (hsz : sz ≤ 12) :
    Calls Try.prog 144 #[fracV N D, .int .i64 sz, .int .i64 s] w fun e w' => e = .returned (.bool (decide (2 ^ s * D ^ sz ≤ N ^ sz))) ∧ Below w.heap.size w w' := by
  unfold fracV
  go_enter Try.func144, Try.ntmps144
  go_wp2_with fail
  go_loop [10, 7, 8, 9] (fun t u v b => ∃ k tw x y : Nat, k ≤ sz ∧ tw ≤ s ∧ Hid (x = N ^ k) ∧ Hid (y = D ^ k * 2 ^ (s - tw)) ∧ 1 ≤ y ∧ y ≤ x ∧ x ≤ 4096000000000000 ∧ (tw = 0 ∨ x < 2 * y) ∧ t = .int .i64 k ∧ u = .int .i64 x ∧ v = .int .i64 y ∧ b = .int .i64 tw) (fun t _ _ _ => sz - (intOf t).toNat)
  case atStart => exact ⟨0, s, 1, 1, by omega, by omega, by simp [Hid], by simp [Hid], by omega, by omega, by omega, by omega, rfl, rfl, rfl, rfl⟩
  case round =>
    obtain ⟨k, tw, x, y, hk, htw, HX, HY, y1, yx, x2, hor, rfl, rfl, rfl, rfl⟩ := hrel
    by_cases hlt : k < sz
    · have a1 : x * N ≤ 4096000000000000 := by rw [HX.out, ← Nat.pow_succ]; exact pow_le12 hN (by omega)
      have a2 : y * D ≤ x * N := Nat.mul_le_mul yx hDN
      have a3 : 1 ≤ y * D := Nat.mul_pos y1 hD
      generalize hx' : x * N = x' at a1 a2
      generalize hy' : y * D = y' at a2 a3
      have HX' : Hid (x' = N ^ (k + 1)) := by unfold Hid; rw [← hx', HX.out, Nat.pow_succ]
      have HY' : Hid (y' = D ^ (k + 1) * 2 ^ (s - tw)) := by unfold Hid; rw [← hy', HY.out, Nat.pow_succ, Nat.mul_right_comm]
      have p1 : (x : Int) * (N : Int) = (x' : Int) := by rw [← hx', Int.natCast_mul]
      have p2 : (y : Int) * (D : Int) = (y' : Int) := by rw [← hy', Int.natCast_mul]
      have q1 : IntKind.i64.wrap (x' : Int) = (x' : Int) := IntWalk.i64_in _ (by omega)
      have q2 : IntKind.i64.wrap (y' : Int) = (y' : Int) := IntWalk.i64_in _ (by omega)
      clear hx' hy' HX HY
      go_wp2
      go_loop [8, 9] (fun v b => ∃ tw y : Nat, tw ≤ s ∧ Hid (y = D ^ (k + 1) * 2 ^ (s - tw)) ∧ 1 ≤ y ∧ y ≤ x' ∧ v = .int .i64 y ∧ b = .int .i64 tw) (fun _ b => (intOf b).toNat)
      case atStart => exact ⟨tw, y', htw, HY', by omega, by omega, rfl, rfl⟩
      case round =>
        obtain ⟨tw, y, htw, HY, y1, yx, rfl, rfl⟩ := hrel
        by_cases h1 : 0 < tw
        · by_cases h2 : 2 * y ≤ x'
          · go_wp2
            go_round
            case rel => exact ⟨tw - 1, 2 * y, by omega, by unfold Hid; rw [HY.out, show s - (tw - 1) = s - tw + 1 by omega, @Nat.pow_succ 2 (s - tw), Nat.mul_comm 2, Nat.mul_assoc], by omega, h2, val_int (by omega), val_int (by omega)⟩
            case measure => simp [intOf]; omega
          · go_wp2
            go_round
            case rel => exact ⟨k + 1, tw, x', y, by omega, htw, HX', HY, y1, yx, a1, .inr (by omega), by go_num, rfl, rfl, rfl⟩
            case measure => simp [intOf]; omega
        · go_wp2
          go_round
          case rel => exact ⟨k + 1, tw, x', y, by omega, htw, HX', HY, y1, yx, a1, .inl (by omega), by go_num, rfl, rfl, rfl⟩
          case measure => simp [intOf]; omega
    · obtain rfl : k = sz := by omega
      by_cases h1 : tw = 0
      · subst h1
        have hyx : Hid (y = D ^ k * 2 ^ s) := by have := HY.out; rwa [Nat.sub_zero] at this
        go_wp2
        go_ret
        refine ⟨ret_bool ?_, ext_alloc (Below.refl _ _) _⟩
        rw [Nat.mul_comm (2 ^ s), ← hyx.out, ← HX.out, Bool.eq_iff_iff]
        simp
        exact yx
      · have h2 : ((tw : Int) == 0) = false := by simp; omega
        go_wp2
        go_ret
        refine ⟨ret_bool ?_, ext_alloc (Below.refl _ _) _⟩
        symm
        rw [decide_eq_false_iff_not]
        intro hc
        have h3 : x < 2 * y := by omega
        have h4 : 2 * (D ^ k * 2 ^ (s - tw)) ≤ D ^ k * 2 ^ s := by
          have e : 2 ^ s = 2 ^ (s - tw) * 2 ^ tw := by rw [← Nat.pow_add]; congr 1; omega
          have h5 : 2 ≤ 2 ^ tw := Nat.le_trans (by omega) (Nat.pow_le_pow_right (n := 2) (by omega) (show 1 ≤ tw by omega))
          rw [e, Nat.mul_left_comm 2]
          exact Nat.mul_le_mul_left _ (by rw [Nat.mul_comm 2]; exact Nat.mul_le_mul_left _ h5)
        rw [← HY.out, Nat.mul_comm (D ^ k)] at h4
        rw [← HX.out] at hc
        omega

set_option maxHeartbeats 1000000 in
theorem sRatioSteps_bad (s n d : Int) (w : World) (h0 : ¬ ratC s n d = 0) :
    Calls Try.prog 63 #[.int .i64 s, fracV n d] w fun e w' => e = .returned (.tuple #[.int .i64 (ratA s n d), .int .i64 (ratC s n d)]) ∧ Below w.heap.size w w' := by
  have e2 : ratA s n d = 0 := by simp [ratA, h0]
  rw [e2]
  clear e2
  cases h1 : fracOk n d
  · have e1 : ratC s n d = 1 := by simp [ratC, h1]
    rw [e1]
    clear e1 h0
    unfold fracV
    go_enter Try.func63, Try.ntmps63
    go_wp2_with fail
    refine (l02Ok_any n d _).mono ?_
    rintro e w1 ⟨rfl, hb1⟩
    obtain ⟨hc1, hf1⟩ := bcell hb1
    have hy1 := hb1.size
    (try simp at hy1)
    have hz1_0 : w.heap.size < w1.heap.size := by omega
    go_wp2
    go_ret2
    refine ⟨rfl, ?_⟩
    repeat (first | exact Below.refl _ _ | assumption | refine ext_alloc ?_ _ | refine ext_drew ?_ | refine ext_trans ?_ (by assumption))
  · obtain ⟨d1, d2, n1, n2, _⟩ := fracOk_true.1 h1
    have e1 : ratC s n d = 2 := by
      unfold ratC at h0 ⊢
      rw [if_pos h1] at h0 ⊢
      split
      · rename_i h; rw [if_pos h] at h0; exact absurd rfl h0
      · rfl
    have hbad : ratOk s n d = false := by
      rcases hh : ratOk s n d with _ | _
      · rfl
      · simp [ratC, h1, hh] at h0
    rw [e1]
    clear e1 h0
    unfold ratOk at hbad
    cases h2 : inR s 1 12
    · clear hbad
      unfold fracV
      go_enter Try.func63, Try.ntmps63
      go_wp2_with fail
      refine (l02Ok_any n d _).mono ?_
      rintro e w1 ⟨rfl, hb1⟩
      obtain ⟨hc1, hf1⟩ := bcell hb1
      have hy1 := hb1.size
      (try simp at hy1)
      have hz1_0 : w.heap.size < w1.heap.size := by omega
      go_wp2_with (go_at_call 115; refine (l00In_is h2 _).mono ?_; rintro e w' ⟨rfl, rfl⟩)
      go_ret2
      refine ⟨rfl, ?_⟩
      repeat (first | exact Below.refl _ _ | assumption | refine ext_alloc ?_ _ | refine ext_drew ?_ | refine ext_trans ?_ (by assumption))
    · rw [h2] at hbad
      by_cases h3 : n < d
      · clear hbad
        unfold fracV
        go_enter Try.func63, Try.ntmps63
        go_wp2_with fail
        refine (l02Ok_any n d _).mono ?_
        rintro e w1 ⟨rfl, hb1⟩
        obtain ⟨hc1, hf1⟩ := bcell hb1
        have hy1 := hb1.size
        (try simp at hy1)
        have hz1_0 : w.heap.size < w1.heap.size := by omega
        go_wp2_with (go_at_call 115; refine (l00In_is h2 _).mono ?_; rintro e w' ⟨rfl, rfl⟩)
        go_ret2
        refine ⟨rfl, ?_⟩
        repeat (first | exact Below.refl _ _ | assumption | refine ext_alloc ?_ _ | refine ext_drew ?_ | refine ext_trans ?_ (by assumption))
      · by_cases h4 : 2 * d < n
        · clear hbad
          unfold fracV
          go_enter Try.func63, Try.ntmps63
          go_wp2_with fail
          refine (l02Ok_any n d _).mono ?_
          rintro e w1 ⟨rfl, hb1⟩
          obtain ⟨hc1, hf1⟩ := bcell hb1
          have hy1 := hb1.size
          (try simp at hy1)
          have hz1_0 : w.heap.size < w1.heap.size := by omega
          go_wp2_with (go_at_call 115; refine (l00In_is h2 _).mono ?_; rintro e w' ⟨rfl, rfl⟩)
          go_ret2
          refine ⟨rfl, ?_⟩
          repeat (first | exact Below.refl _ _ | assumption | refine ext_alloc ?_ _ | refine ext_drew ?_ | refine ext_trans ?_ (by assumption))
        · have h5 : 20 < n := by
            rcases Int.lt_or_le 20 n with h | h
            · exact h
            · simp [show d ≤ n by omega, show n ≤ 2 * d by omega, h] at hbad
          clear hbad
          unfold fracV
          go_enter Try.func63, Try.ntmps63
          go_wp2_with fail
          refine (l02Ok_any n d _).mono ?_
          rintro e w1 ⟨rfl, hb1⟩
          obtain ⟨hc1, hf1⟩ := bcell hb1
          have hy1 := hb1.size
          (try simp at hy1)
          have hz1_0 : w.heap.size < w1.heap.size := by omega
          go_wp2_with (go_at_call 115; refine (l00In_is h2 _).mono ?_; rintro e w' ⟨rfl, rfl⟩)
          go_ret2
          refine ⟨rfl, ?_⟩
          repeat (first | exact Below.refl _ _ | assumption | refine ext_alloc ?_ _ | refine ext_drew ?_ | refine ext_trans ?_ (by assumption))

set_option maxHeartbeats 2000000 in
theorem sRatioSteps_any (s n d : Int) (w : World) :
    Calls Try.prog 63 #[.int .i64 s, fracV n d] w fun e w' => e = .returned (.tuple #[.int .i64 (ratA s n d), .int .i64 (ratC s n d)]) ∧ Below w.heap.size w w' := by
  by_cases h0 : ratC s n d = 0
  · obtain ⟨hf, s1, s2, dn, n2, n20, d1⟩ := ratC_zero h0
    have e2 : ratA s n d = ratK (n.toNat ^ s.toNat) (d.toNat ^ s.toNat) := by simp [ratA, h0]
    rw [h0, e2]
    obtain ⟨N, rfl⟩ := Int.eq_ofNat_of_zero_le (a := n) (by omega)
    obtain ⟨D, rfl⟩ := Int.eq_ofNat_of_zero_le (a := d) (by omega)
    obtain ⟨sz, rfl⟩ := Int.eq_ofNat_of_zero_le (a := s) (by omega)
    simp only [Int.toNat_natCast]
    have hs : inR (sz : Int) 1 12 = true := inR_true.2 ⟨s1, s2⟩
    have hK := ratK_le (N := N) (D := D) (s := sz) (by omega) (by omega) (by omega)
    have HK : Hid (∀ k, k ≤ ratK (N ^ sz) (D ^ sz) ↔ 2 ^ k * D ^ sz ≤ N ^ sz) := fun k => ratK_iff (Nat.pow_pos (by omega)) (Nat.pow_le_pow_left (by omega) sz)
    generalize ratK (N ^ sz) (D ^ sz) = K at *
    have t1 : decide (N < D) = false := decide_eq_false (by omega)
    have t2 : decide ((2 : Int) * D < N) = false := decide_eq_false (by omega)
    have t3 : decide ((20 : Int) < N) = false := decide_eq_false (by omega)
    clear h0 e2
    unfold fracV
    go_enter Try.func63, Try.ntmps63
    go_wp2_with fail
    refine (l02Ok_any N D _).mono ?_
    rintro e w1 ⟨rfl, hb1⟩
    obtain ⟨hc1, hf1⟩ := bcell hb1
    have hy1 := hb1.size
    (try simp at hy1)
    have hz1_0 : w.heap.size < w1.heap.size := by omega
    go_wp2_with (go_at_call 115; refine (l00In_is hs _).mono ?_; rintro e w' ⟨rfl, rfl⟩)
    have m0 : w1.cell? ⟨w.heap.size, 0, none⟩ = some (.int .i64 N) := (hc1 _ _ (by simp)).trans (cell_one _ _ _ _)
    have m1 : w1.cell? ⟨w.heap.size, 1, none⟩ = some (.int .i64 D) := (hc1 _ _ (by simp)).trans (cell_one _ _ _ _)
    have E1 : Below w.heap.size w w1 := ext_trans (ext_alloc (Below.refl _ _) _) hb1
    clear hc1 hf1
    go_loopw [6] (fun t wr => ∃ k : Nat, k ≤ K ∧ t = .int .i64 k ∧ wr.cell? ⟨w.heap.size, 0, none⟩ = some (.int .i64 N) ∧ wr.cell? ⟨w.heap.size, 1, none⟩ = some (.int .i64 D) ∧ w.heap.size < wr.heap.size ∧ Hid (Below w.heap.size w wr)) (fun t _ => K - (intOf t).toNat)
    case atStart => exact ⟨0, by omega, rfl, m0, m1, hz1_0, E1⟩
    case round =>
      obtain ⟨k, hk, rfl, r0, r1, r2, HB⟩ := hrel
      have hfit := HK.out (k + 1)
      have HC := Lib.hid (l25Fits_any N D sz (k + 1) · (by omega) (by omega) (by omega) (by omega) (by omega))
      have ek : ((k + 1 : Nat) : Int) = (k : Int) + 1 := by omega
      by_cases hlt : k < K
      · have hdec : decide (2 ^ (k + 1) * D ^ sz ≤ N ^ sz) = true := decide_eq_true (hfit.1 hlt)
        rw [hdec, ek] at HC
        clear hfit hdec ek
        go_wp2_with fail
        refine (HC.out _).mono ?_
        rintro e w2 ⟨rfl, hb2⟩
        go_wp2
        go_roundw
        case rel => exact ⟨k + 1, by omega, by go_num, (hb2.cell (p := ⟨w.heap.size, 0, none⟩) r2).trans r0, (hb2.cell (p := ⟨w.heap.size, 1, none⟩) r2).trans r1, Nat.lt_of_lt_of_le r2 hb2.size, ext_trans HB.out hb2⟩
        case measure => simp [intOf]; omega
      · have hdec : decide (2 ^ (k + 1) * D ^ sz ≤ N ^ sz) = false := decide_eq_false (fun h => hlt (hfit.2 h))
        rw [hdec, ek] at HC
        clear hfit hdec ek
        go_wp2_with fail
        refine (HC.out _).mono ?_
        rintro e w2 ⟨rfl, hb2⟩
        go_wp2
        obtain rfl : k = K := by omega
        go_ret2
        exact ⟨rfl, ext_trans HB.out hb2⟩
  · exact sRatioSteps_bad s n d w h0

set_option maxHeartbeats 1000000 in
theorem iRatioSteps_bad (s n d : Int) (w : World) (h0 : ¬ ratC s n d = 0) :
    Calls Try.prog 62 #[.int .i64 s, fracV n d] w fun e w' => e = .returned (.tuple #[.int .i64 (ratA s n d), .int .i64 (ratC s n d)]) ∧ Below w.heap.size w w' := by
  have e2 : ratA s n d = 0 := by simp [ratA, h0]
  rw [e2]
  clear e2
  cases h1 : fracOk n d
  · have e1 : ratC s n d = 1 := by simp [ratC, h1]
    rw [e1]
    clear e1 h0
    unfold fracV
    go_enter Try.func62, Try.ntmps62
    go_wp2_with fail
    refine (ValidFraction_any n d _).mono ?_
    rintro e w1 ⟨rfl, hb1⟩
    obtain ⟨hc1, hf1⟩ := bcell hb1
    have hy1 := hb1.size
    (try simp at hy1)
    have hz1_0 : w.heap.size < w1.heap.size := by omega
    go_wp2
    go_ret2
    refine ⟨rfl, ?_⟩
    repeat (first | exact Below.refl _ _ | assumption | refine ext_alloc ?_ _ | refine ext_drew ?_ | refine ext_trans ?_ (by assumption))
  · obtain ⟨d1, d2, n1, n2, _⟩ := fracOk_true.1 h1
    have e1 : ratC s n d = 2 := by
      unfold ratC at h0 ⊢
      rw [if_pos h1] at h0 ⊢
      split
      · rename_i h; rw [if_pos h] at h0; exact absurd rfl h0
      · rfl
    have hbad : ratOk s n d = false := by
      rcases hh : ratOk s n d with _ | _
      · rfl
      · simp [ratC, h1, hh] at h0
    rw [e1]
    clear e1 h0
    unfold ratOk at hbad
    cases h2 : inR s 1 12
    · clear hbad
      unfold fracV
      go_enter Try.func62, Try.ntmps62
      go_wp2_with fail
      refine (ValidFraction_any n d _).mono ?_
      rintro e w1 ⟨rfl, hb1⟩
      obtain ⟨hc1, hf1⟩ := bcell hb1
      have hy1 := hb1.size
      (try simp at hy1)
      have hz1_0 : w.heap.size < w1.heap.size := by omega
      go_wp2_with (go_at_call 110; refine (within_is h2 _).mono ?_; rintro e w' ⟨rfl, rfl⟩)
      go_ret2
      refine ⟨rfl, ?_⟩
      repeat (first | exact Below.refl _ _ | assumption | refine ext_alloc ?_ _ | refine ext_drew ?_ | refine ext_trans ?_ (by assumption))
    · rw [h2] at hbad
      by_cases h3 : n < d
      · clear hbad
        unfold fracV
        go_enter Try.func62, Try.ntmps62
        go_wp2_with fail
        refine (ValidFraction_any n d _).mono ?_
        rintro e w1 ⟨rfl, hb1⟩
        obtain ⟨hc1, hf1⟩ := bcell hb1
        have hy1 := hb1.size
        (try simp at hy1)
        have hz1_0 : w.heap.size < w1.heap.size := by omega
        go_wp2_with (go_at_call 110; refine (within_is h2 _).mono ?_; rintro e w' ⟨rfl, rfl⟩)
        go_ret2
        refine ⟨rfl, ?_⟩
        repeat (first | exact Below.refl _ _ | assumption | refine ext_alloc ?_ _ | refine ext_drew ?_ | refine ext_trans ?_ (by assumption))
      · by_cases h4 : 2 * d < n
        · clear hbad
          unfold fracV
          go_enter Try.func62, Try.ntmps62
          go_wp2_with fail
          refine (ValidFraction_any n d _).mono ?_
          rintro e w1 ⟨rfl, hb1⟩
          obtain ⟨hc1, hf1⟩ := bcell hb1
          have hy1 := hb1.size
          (try simp at hy1)
          have hz1_0 : w.heap.size < w1.heap.size := by omega
          go_wp2_with (go_at_call 110; refine (within_is h2 _).mono ?_; rintro e w' ⟨rfl, rfl⟩)
          go_ret2
          refine ⟨rfl, ?_⟩
          repeat (first | exact Below.refl _ _ | assumption | refine ext_alloc ?_ _ | refine ext_drew ?_ | refine ext_trans ?_ (by assumption))
        · have h5 : 20 < n := by
            rcases Int.lt_or_le 20 n with h | h
            · exact h
            · simp [show d ≤ n by omega, show n ≤ 2 * d by omega, h] at hbad
          clear hbad
          unfold fracV
          go_enter Try.func62, Try.ntmps62
          go_wp2_with fail
          refine (ValidFraction_any n d _).mono ?_
          rintro e w1 ⟨rfl, hb1⟩
          obtain ⟨hc1, hf1⟩ := bcell hb1
          have hy1 := hb1.size
          (try simp at hy1)
          have hz1_0 : w.heap.size < w1.heap.size := by omega
          go_wp2_with (go_at_call 110; refine (within_is h2 _).mono ?_; rintro e w' ⟨rfl, rfl⟩)
          go_ret2
          refine ⟨rfl, ?_⟩
          repeat (first | exact Below.refl _ _ | assumption | refine ext_alloc ?_ _ | refine ext_drew ?_ | refine ext_trans ?_ (by assumption))

set_option maxHeartbeats 2000000 in
theorem iRatioSteps_any (s n d : Int) (w : World) :
    Calls Try.prog 62 #[.int .i64 s, fracV n d] w fun e w' => e = .returned (.tuple #[.int .i64 (ratA s n d), .int .i64 (ratC s n d)]) ∧ Below w.heap.size w w' := by
  by_cases h0 : ratC s n d = 0
  · obtain ⟨hf, s1, s2, dn, n2, n20, d1⟩ := ratC_zero h0
    have e2 : ratA s n d = ratK (n.toNat ^ s.toNat) (d.toNat ^ s.toNat) := by simp [ratA, h0]
    rw [h0, e2]
    obtain ⟨N, rfl⟩ := Int.eq_ofNat_of_zero_le (a := n) (by omega)
    obtain ⟨D, rfl⟩ := Int.eq_ofNat_of_zero_le (a := d) (by omega)
    obtain ⟨sz, rfl⟩ := Int.eq_ofNat_of_zero_le (a := s) (by omega)
    simp only [Int.toNat_natCast]
    have hs : inR (sz : Int) 1 12 = true := inR_true.2 ⟨s1, s2⟩
    have hK := ratK_le (N := N) (D := D) (s := sz) (by omega) (by omega) (by omega)
    have HK : Hid (∀ k, k ≤ ratK (N ^ sz) (D ^ sz) ↔ 2 ^ k * D ^ sz ≤ N ^ sz) := fun k => ratK_iff (Nat.pow_pos (by omega)) (Nat.pow_le_pow_left (by omega) sz)
    have b1 : N ^ sz ≤ 4096000000000000 := pow_le12 (by omega) (by omega)
    have b2 : 1 ≤ D ^ sz := Nat.pow_pos (by omega)
    have HPN := Lib.hid (powerOf_any N sz · (by omega) (fun k hk => by rw [pw_nat]; have := pow_le12 (b := N) (k := k) (by omega) (by omega); omega))
    have HPD := Lib.hid (powerOf_any D sz · (by omega) (fun k hk => by rw [pw_nat]; have := pow_le12 (b := D) (k := k) (by omega) (by omega); omega))
    rw [pw_nat] at HPN HPD
    generalize ratK (N ^ sz) (D ^ sz) = K at *
    generalize N ^ sz = T at *
    generalize D ^ sz = B at *
    have t1 : decide (N < D) = false := decide_eq_false (by omega)
    have t2 : decide ((2 : Int) * D < N) = false := decide_eq_false (by omega)
    have t3 : decide ((20 : Int) < N) = false := decide_eq_false (by omega)
    clear h0 e2
    unfold fracV
    go_enter Try.func62, Try.ntmps62
    go_wp2_with fail
    refine (ValidFraction_any N D _).mono ?_
    rintro e w1 ⟨rfl, hb1⟩
    obtain ⟨hc1, hf1⟩ := bcell hb1
    have hy1 := hb1.size
    (try simp at hy1)
    have hz1_0 : w.heap.size < w1.heap.size := by omega
    go_wp2_with (go_at_call 110; refine (within_is hs _).mono ?_; rintro e w' ⟨rfl, rfl⟩)
    have m0 : w1.cell? ⟨w.heap.size, 0, none⟩ = some (.int .i64 N) := (hc1 _ _ (by simp)).trans (cell_one _ _ _ _)
    have m1 : w1.cell? ⟨w.heap.size, 1, none⟩ = some (.int .i64 D) := (hc1 _ _ (by simp)).trans (cell_one _ _ _ _)
    have E1 : Below w.heap.size w w1 := ext_trans (ext_alloc (Below.refl _ _) _) hb1
    clear hc1 hf1
    have k0 : ∀ x os, (grow (redrawn w1 x) os).cell? ⟨w.heap.size, 0, none⟩ = some (.int .i64 N) := cell_regrown m0
    have k1 : ∀ x os, (grow (redrawn w1 x) os).cell? ⟨w.heap.size, 1, none⟩ = some (.int .i64 D) := cell_regrown m1
    refine wp_region_quiet_below (by kernel_rfl) (by kernel_rfl) ?_
    repeat (first | go_big_quiet_step ((first | (with_reducible exact regrown_same (HPN.out _)) | (with_reducible exact regrown_same (HPD.out _)))) | quiet_step ((first | (with_reducible exact regrown_same (HPN.out _)) | (with_reducible exact regrown_same (HPD.out _)))))
    refine wpQuiet_nil ?_
    intro _ hw'
    obtain ⟨⟨dq, oq⟩, hw''⟩ := hw'
    subst hw''
    go_wp2_with fail
    go_loop [7, 8] (fun u t => ∃ k v : Nat, k ≤ K ∧ Hid (v = 2 ^ k * B) ∧ v ≤ T ∧ t = .int .i64 k ∧ u = .int .i64 v) (fun _ t => K - (intOf t).toNat)
    case atStart => exact ⟨0, B, by omega, by simp [Hid], by have := (HK.out 0).1 (by omega); simpa using this, rfl, rfl⟩
    case round =>
      obtain ⟨k, v, hk, HV, hv, rfl, rfl⟩ := hrel
      have hfit := HK.out (k + 1)
      rw [Nat.pow_succ, Nat.mul_right_comm, ← HV.out] at hfit
      by_cases hlt : k < K
      · have h2 : v * 2 ≤ T := hfit.1 hlt
        clear hfit
        go_wp2
        go_round
        case rel => exact ⟨k + 1, v * 2, by omega, by unfold Hid; rw [HV.out, Nat.pow_succ, Nat.mul_right_comm], h2, by go_num, val_int (by omega)⟩
        case measure => simp [intOf]; omega
      · have h2 : ¬ v * 2 ≤ T := fun h => hlt (hfit.2 h)
        clear hfit
        go_wp2
        obtain rfl : k = K := by omega
        go_ret2
        exact ⟨rfl, ext_trans E1 (below_regrown w1 dq oq)⟩
  · exact iRatioSteps_bad s n d w h0
end Go.Proofs.Ytdjnblkgeaphmaa
