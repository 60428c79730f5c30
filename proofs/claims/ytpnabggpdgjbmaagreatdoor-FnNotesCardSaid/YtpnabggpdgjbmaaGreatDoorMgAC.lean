/- Parts of the proof, merged: BytesW F6W FracW SideP ExpW SideW DrawFW BoxW KeepA DrawRuW. No condition but those that each theorem names. -/
import Derived.Test.YtpnabggpdgjbmaaGreatDoorMgAB
import Derived.RegionTactic
import Derived.Deep.RegionHeld3
import Derived.Deep.AppendLies
import Derived.IntWalk
namespace Go.Proofs.YtpnabggpdgjbmaaGreatDoor
open Go.RowKit Go.Sort Go.ChangeShapes Go.WideShapes Go.ChangeAt
theorem IsRow.rdU {w : World} {A : Option Addr} {l c : Nat} {zs : List Int} (h : IsRow .u8 w A l c zs) : (zs.take l).length = l ∧ Rd (Value.int .u8) w w.heap.size A (zs.take l) ∧ ∀ n ∈ zs.take l, (Lit.int .u8 n).wf = true := by
  rcases h with ⟨rfl, rfl, rfl, rfl⟩ | ⟨x, rfl, hl, hm, hz, hc, hw⟩
  · exact ⟨rfl, fun h => absurd h (by simp), fun n hn => absurd hn (by simp)⟩
  · have hlen : (zs.take l).length = l := by rw [List.length_take]; omega
    refine ⟨hlen, fun hp => ?_, fun n hn => hw n (List.mem_of_mem_take hn)⟩
    obtain ⟨b, off, e, hb⟩ := cell_plain (hc 0 (by omega))
    have ex : x = ⟨b, off, none⟩ := by
      have : x.add 0 = x := by simp [Addr.add]
      rw [← this]; exact e
    subst ex
    refine ⟨b, off, rfl, hb, fun j y hy => ?_⟩
    have hj : j < zs.length := by
      have := (List.getElem?_eq_some_iff.1 hy).1
      omega
    have hcj := hc j hj
    have ea : (⟨b, off, none⟩ : Addr).add j = ⟨b, off + j, none⟩ := by
      unfold Addr.add
      by_cases hj : j = 0 <;> simp [hj]
    rw [ea] at hcj
    rw [hcj]
    have hy' : zs[j]? = some y := by
      rw [List.getElem?_take] at hy
      split at hy
      · exact hy
      · cases hy
    simp [List.getD, hy']
theorem wf_u8 {n : Int} (h : (Lit.int .u8 n).wf = true) : 0 ≤ n ∧ n ≤ 255 := by
  have h2 : (decide (IntKind.min .u8 ≤ n) && decide (n ≤ IntKind.max .u8)) = true := h
  rw [Bool.and_eq_true, decide_eq_true_iff, decide_eq_true_iff, show IntKind.min .u8 = 0 by decide, show IntKind.max .u8 = 255 by decide] at h2
  exact h2
theorem IsRow.bytes {w : World} {A : Option Addr} {l c : Nat} {zs : List Int} (h : IsRow .u8 w A l c zs) (hl : l ≤ 1000000) : Bytes w A l := by
  obtain ⟨h1, h2, h3⟩ := h.rdU
  exact ⟨_, h2, h1, hl, fun x hx => wf_u8 (h3 x hx)⟩
end Go.Proofs.YtpnabggpdgjbmaaGreatDoor
namespace Go.Proofs.YtpnabggpdgjbmaaGreatDoor
open Go.RowKit Go.Sort
theorem f6big_any (A : Option Addr) (n c : Nat) (w : World) :
    Calls Tryz.prog 4 #[.slice A n c] w fun e w' => e = .returned (.bool (decide (4096 < (n : Int)))) ∧ w = w' := by
  go_enter Tryz.func4, Tryz.ntmps4
  go_wp2
  go_ret
  exact ⟨rfl, rfl⟩
end Go.Proofs.YtpnabggpdgjbmaaGreatDoor
namespace Go.Proofs.YtpnabggpdgjbmaaGreatDoor
open Go.RowKit Go.Sort
@[reducible] def fracV (n d : Int) : Value := .agg #[.int .i64 n, .int .i64 d]
/-- A product of bounded numbers. -/
theorem mul_bd {x y M N : Int} (hM : 0 ≤ M) (h2 : x ≤ M) (hN : 0 ≤ N) (h4 : y ≤ N) (h1 : -M ≤ x) (h3 : -N ≤ y) : -(M * N) ≤ x * y ∧ x * y ≤ M * N := by
  have a : (x * y).natAbs ≤ (M * N).natAbs := by
    rw [Int.natAbs_mul, Int.natAbs_mul]
    exact Nat.mul_le_mul (by omega) (by omega)
  have p : 0 ≤ M * N := Int.mul_nonneg hM hN
  omega
def fracOk (n d : Int) : Bool := inR d 1 1000000000 && inR n (-1000000000) 1000000000 && decide (Int.gcd n d = 1)
theorem fracOk_true {n d : Int} : fracOk n d = true ↔ 1 ≤ d ∧ d ≤ 1000000000 ∧ -1000000000 ≤ n ∧ n ≤ 1000000000 ∧ Int.gcd n d = 1 := by
  unfold fracOk; rw [Bool.and_eq_true, Bool.and_eq_true, inR_true, inR_true, decide_eq_true_iff]; omega
theorem abs_any (n : Int) (w : World) (h1 : -9223372036854775807 ≤ n) (h2 : n ≤ 9223372036854775807) :
    Calls Tryz.prog 150 #[.int .i64 n] w fun e w' => e = .returned (.int .i64 (n.natAbs : Int)) ∧ w = w' := by
  by_cases h : n < 0
  all_goals
    go_enter Tryz.func150, Tryz.ntmps150
    go_wp2
    go_ret
    exact ⟨ret_int (by omega), rfl⟩
theorem l02Size_any (n : Int) (w : World) (h1 : -9223372036854775807 ≤ n) (h2 : n ≤ 9223372036854775807) :
    Calls Tryz.prog 128 #[.int .i64 n] w fun e w' => e = .returned (.int .i64 (n.natAbs : Int)) ∧ w = w' := by
  by_cases h : n < 0
  all_goals
    go_enter Tryz.func128, Tryz.ntmps128
    go_wp2
    go_ret
    exact ⟨ret_int (by omega), rfl⟩
theorem beq_one (x : Nat) : ((x : Int) == 1) = decide (x = 1) := by rw [Bool.eq_iff_iff]; simp; omega
theorem gcd_step (x y : Nat) (_ : 0 < y) : Nat.gcd y (x % y) = Nat.gcd x y := by
  rw [Nat.gcd_comm x y, Nat.gcd_rec y x, Nat.gcd_comm]
theorem gcd_any (a b : Int) (w : World) (a1 : -9223372036854775807 ≤ a) (a2 : a ≤ 9223372036854775807) (b1 : -9223372036854775807 ≤ b) (b2 : b ≤ 9223372036854775807) :
    Calls Tryz.prog 118 #[.int .i64 a, .int .i64 b] w fun e w' => e = .returned (.int .i64 (Int.gcd a b : Int)) ∧ Below w.heap.size w w' := by
  go_enter Tryz.func118, Tryz.ntmps118
  go_wp2_with fail
  refine (abs_any a _ a1 a2).mono ?_
  rintro e w' ⟨rfl, rfl⟩
  go_wp2_with fail
  refine (abs_any b _ b1 b2).mono ?_
  rintro e w' ⟨rfl, rfl⟩
  go_wp2_with fail
  go_loopw [0, 1] (fun s t wr => ∃ x y : Nat, x ≤ 9223372036854775807 ∧ y ≤ 9223372036854775807 ∧ Hid (Nat.gcd x y = Int.gcd a b) ∧ s = .int .i64 x ∧ t = .int .i64 y ∧ ∃ n, wr = w.drewN n) (fun _ t _ => (intOf t).toNat)
  case atStart => exact ⟨a.natAbs, b.natAbs, by omega, by omega, rfl, rfl, rfl, 0, rfl⟩
  case round =>
    obtain ⟨x, y, hx, hy, HG, rfl, rfl, nn, rfl⟩ := hrel
    by_cases h0 : 0 < y
    · have e1 : ((y : Int) != 0) = true := by rw [bne_iff_ne]; omega
      have e2 : ((y : Int) == 0) = false := by simp; omega
      have hlt : x % y < y := Nat.mod_lt _ h0
      have HS := Lib.hid (gcd_step x y h0)
      go_wp2_with fail
      go_quiet (fail)
      go_wp2
      go_roundw
      case rel => exact ⟨y, x % y, hy, by omega, by have h := HS.out; have g := HG.out; unfold Hid; omega, rfl, val_int (by simp), _, World.drewN_drewN _ _ _⟩
      case measure =>
        have : (intOf (.int .i64 ((x : Int) % y))).toNat = x % y := by simp only [intOf]; omega
        simp only [intOf] at this ⊢
        omega
    · obtain rfl : y = 0 := by omega
      have e1 : (((0 : Nat) : Int) != 0) = false := by simp
      go_wp2
      go_ret
      exact ⟨ret_int (by have h := HG.out; simp at h; omega), ⟨rfl, rfl, rfl, Nat.le_refl _, fun _ _ => rfl⟩⟩
theorem l02Gcd_any (a b : Nat) (w : World) (ha : a ≤ 9223372036854775807) (hb : b ≤ 9223372036854775807) :
    Calls Tryz.prog 127 #[.int .i64 a, .int .i64 b] w fun e w' => e = .returned (.int .i64 (Nat.gcd a b : Int)) ∧ w = w' := by
  go_enter Tryz.func127, Tryz.ntmps127
  go_wp2_with fail
  go_loop [0, 1] (fun s t => ∃ x y : Nat, x ≤ 9223372036854775807 ∧ y ≤ 9223372036854775807 ∧ Hid (Nat.gcd x y = Nat.gcd a b) ∧ s = .int .i64 x ∧ t = .int .i64 y) (fun _ t => (intOf t).toNat)
  case atStart => exact ⟨a, b, ha, hb, rfl, rfl, rfl⟩
  case round =>
    obtain ⟨x, y, hx, hy, HG, rfl, rfl⟩ := hrel
    by_cases h0 : 0 < y
    · have e1 : ((y : Int) != 0) = true := by rw [bne_iff_ne]; omega
      have e2 : ((y : Int) == 0) = false := by simp; omega
      have hlt : x % y < y := Nat.mod_lt _ h0
      have HS := Lib.hid (gcd_step x y h0)
      go_wp2
      go_round
      case rel => exact ⟨y, x % y, hy, by omega, by have h := HS.out; have g := HG.out; unfold Hid; omega, rfl, val_int (by simp)⟩
      case measure =>
        have : (intOf (.int .i64 ((x : Int) % y))).toNat = x % y := by simp only [intOf]; omega
        simp only [intOf] at this ⊢
        omega
    · obtain rfl : y = 0 := by omega
      have e1 : (((0 : Nat) : Int) != 0) = false := by simp
      go_wp2
      go_ret
      exact ⟨ret_int (by have h := HG.out; simp at h; omega), rfl⟩
theorem ValidFraction_any (n d : Int) (w : World) :
    Calls Tryz.prog 76 #[fracV n d] w fun e w' => e = .returned (.bool (fracOk n d)) ∧ Below w.heap.size w w' := by
  unfold fracV fracOk
  cases h1 : inR d 1 1000000000
  · go_enter Tryz.func76, Tryz.ntmps76
    go_wp2_with (go_at_call 117; refine (within_any _ _ _ _).mono ?_; rintro e w' ⟨rfl, rfl⟩)
    go_ret
    exact ⟨rfl, ext_alloc (Below.refl _ _) _⟩
  · obtain ⟨d1, d2⟩ := inR_true.1 h1
    cases h2 : inR n (-1000000000) 1000000000
    · go_enter Tryz.func76, Tryz.ntmps76
      go_wp2_with (go_at_call 117; refine (within_any _ _ _ _).mono ?_; rintro e w' ⟨rfl, rfl⟩)
      go_ret
      exact ⟨rfl, ext_alloc (Below.refl _ _) _⟩
    · obtain ⟨n1, n2⟩ := inR_true.1 h2
      go_enter Tryz.func76, Tryz.ntmps76
      go_wp2_with (first | (go_at_call 117; refine (within_any _ _ _ _).mono ?_; rintro e w' ⟨rfl, rfl⟩) | (go_at_call 118; refine (gcd_any _ _ _ (by omega) (by omega) (by omega) (by omega)).mono ?_; rintro e w1 ⟨rfl, hb1⟩))
      go_ret
      refine ⟨ret_bool ?_, ext_trans (ext_alloc (Below.refl _ _) _) hb1⟩
      rw [Bool.eq_iff_iff]; simp; omega
theorem l02Ok_any (n d : Int) (w : World) :
    Calls Tryz.prog 86 #[fracV n d] w fun e w' => e = .returned (.bool (fracOk n d)) ∧ Below w.heap.size w w' := by
  unfold fracV fracOk
  cases h2 : inR n (-1000000000) 1000000000
  · rw [Bool.and_false, Bool.false_and]
    go_enter Tryz.func86, Tryz.ntmps86
    go_wp2
    generalize hW : w.alloc _ = W
    have hb0 : Below w.heap.size w W := by rw [← hW]; exact ext_alloc (Below.refl _ _) _
    have k0 : ∀ d' os, (grow (redrawn W d') os).cell? ⟨w.heap.size, 0, none⟩ = some (.int .i64 n) := cell_regrown (by rw [← hW, cell_one]; rfl)
    have k1 : ∀ d' os, (grow (redrawn W d') os).cell? ⟨w.heap.size, 1, none⟩ = some (.int .i64 d) := cell_regrown (by rw [← hW, cell_one]; rfl)
    clear hW
    refine wp_region_quiet_below (by kernel_rfl) (by kernel_rfl) ?_
    repeat (first | go_big_quiet_step ((with_reducible exact regrown_same (l00In_is h2 _))) | quiet_step ((with_reducible exact regrown_same (l00In_is h2 _))))
    refine wpQuiet_nil ?_
    intro _ hw'
    obtain ⟨⟨dq, oq⟩, hw''⟩ := hw'
    subst hw''
    go_wp2
    go_ret
    exact ⟨rfl, ext_trans hb0 (below_regrown W dq oq)⟩
  · obtain ⟨n1, n2⟩ := inR_true.1 h2
    cases h1 : inR d 1 1000000000
    · rw [Bool.false_and, Bool.false_and]
      go_enter Tryz.func86, Tryz.ntmps86
      go_wp2
      generalize hW : w.alloc _ = W
      have hb0 : Below w.heap.size w W := by rw [← hW]; exact ext_alloc (Below.refl _ _) _
      have k0 : ∀ d' os, (grow (redrawn W d') os).cell? ⟨w.heap.size, 0, none⟩ = some (.int .i64 n) := cell_regrown (by rw [← hW, cell_one]; rfl)
      have k1 : ∀ d' os, (grow (redrawn W d') os).cell? ⟨w.heap.size, 1, none⟩ = some (.int .i64 d) := cell_regrown (by rw [← hW, cell_one]; rfl)
      clear hW
      refine wp_region_quiet_below (by kernel_rfl) (by kernel_rfl) ?_
      repeat (first | go_big_quiet_step ((first | (with_reducible exact regrown_same (l00In_is h2 _)) | (with_reducible exact regrown_same (l00In_is h1 _)))) | quiet_step ((first | (with_reducible exact regrown_same (l00In_is h2 _)) | (with_reducible exact regrown_same (l00In_is h1 _)))))
      refine wpQuiet_nil ?_
      intro _ hw'
      obtain ⟨⟨dq, oq⟩, hw''⟩ := hw'
      subst hw''
      go_wp2
      go_ret
      exact ⟨rfl, ext_trans hb0 (below_regrown W dq oq)⟩
    · obtain ⟨d1, d2⟩ := inR_true.1 h1
      obtain ⟨m, rfl⟩ := Int.eq_ofNat_of_zero_le (a := d) (by omega)
      go_enter Tryz.func86, Tryz.ntmps86
      go_wp2
      generalize hW : w.alloc _ = W
      have hb0 : Below w.heap.size w W := by rw [← hW]; exact ext_alloc (Below.refl _ _) _
      have k0 : ∀ d' os, (grow (redrawn W d') os).cell? ⟨w.heap.size, 0, none⟩ = some (.int .i64 n) := cell_regrown (by rw [← hW, cell_one]; rfl)
      have k1 : ∀ d' os, (grow (redrawn W d') os).cell? ⟨w.heap.size, 1, none⟩ = some (.int .i64 m) := cell_regrown (by rw [← hW, cell_one]; rfl)
      clear hW
      refine wp_region_quiet_below (by kernel_rfl) (by kernel_rfl) ?_
      repeat (first | go_big_quiet_step ((first | (with_reducible exact regrown_same (l00In_is h2 _)) | (with_reducible exact regrown_same (l00In_is h1 _)) | (with_reducible exact regrown_same (l02Size_any n _ (by omega) (by omega))) | (with_reducible exact regrown_same (l02Gcd_any n.natAbs m _ (by omega) (by omega))))) | quiet_step ((first | (with_reducible exact regrown_same (l00In_is h2 _)) | (with_reducible exact regrown_same (l00In_is h1 _)) | (with_reducible exact regrown_same (l02Size_any n _ (by omega) (by omega))) | (with_reducible exact regrown_same (l02Gcd_any n.natAbs m _ (by omega) (by omega))))))
      refine wpQuiet_nil ?_
      intro _ hw'
      obtain ⟨⟨dq, oq⟩, hw''⟩ := hw'
      subst hw''
      go_wp2
      go_ret
      refine ⟨ret_bool ?_, ext_trans hb0 (below_regrown W dq oq)⟩
      exact (beq_one _).trans (Bool.true_and _).symm
/-- A fraction in lowest terms, its denominator positive. -/
def qN (n d : Int) : Int := (if d < 0 then -n else n) / (Int.gcd n d : Int)
def qD (n d : Int) : Int := (d.natAbs : Int) / (Int.gcd n d : Int)
theorem gcd_pos' {n d : Int} (hd : d ≠ 0) : 0 < (Int.gcd n d : Int) := by
  have : 0 < Int.gcd n d := Int.gcd_pos_of_ne_zero_right _ hd
  omega
theorem tdiv_gcd {n d : Int} : n.tdiv (Int.gcd n d : Int) = n / (Int.gcd n d : Int) ∧ d.tdiv (Int.gcd n d : Int) = d / (Int.gcd n d : Int) :=
  ⟨Int.tdiv_eq_ediv_of_dvd (Int.gcd_dvd_left ..), Int.tdiv_eq_ediv_of_dvd (Int.gcd_dvd_right ..)⟩
theorem ediv_bd {n g M : Int} (hg : 0 < g) (h1 : -M ≤ n) (h2 : n ≤ M) : -M ≤ n / g ∧ n / g ≤ M := by
  constructor
  · have : (-M) / g ≤ n / g := Int.ediv_le_ediv hg h1
    have h3 : -M ≤ (-M) / g := by
      rw [Int.le_ediv_iff_mul_le hg]
      have : M * 1 ≤ M * g := Int.mul_le_mul_of_nonneg_left (by omega) (by omega)
      rw [Int.neg_mul]; omega
    omega
  · have : n / g ≤ M / g := Int.ediv_le_ediv hg h2
    have := Int.ediv_le_self g (show 0 ≤ M by omega)
    omega
set_option maxHeartbeats 1000000 in
theorem l02Make_any (n d : Int) (w : World) (n1 : -9223372036854775807 ≤ n) (n2 : n ≤ 9223372036854775807) (d1 : 1 ≤ d) (d2 : d ≤ 9223372036854775807) :
    Calls Tryz.prog 114 #[.int .i64 n, .int .i64 d] w fun e w' => e = .returned (fracV (qN n d) (qD n d)) ∧ Below w.heap.size w w' := by
  have hg := gcd_pos' (n := n) (d := d) (by omega)
  obtain ⟨t1, t2⟩ := tdiv_gcd (n := n) (d := d)
  have hgm : (Int.gcd n d : Int) ≤ 9223372036854775807 := by
    have : Int.gcd n d ≤ d.natAbs := Nat.le_of_dvd (by omega) (by exact Nat.gcd_dvd_right _ _)
    omega
  obtain ⟨q1, q2⟩ := ediv_bd (M := 9223372036854775807) hg n1 n2
  obtain ⟨q3, q4⟩ := ediv_bd (M := 9223372036854775807) hg (show -9223372036854775807 ≤ d by omega) d2
  have e1 : qN n d = n.tdiv (Int.gcd n d : Int) := by rw [t1, qN, if_neg (by omega)]
  have e2 : qD n d = d / (Int.gcd n d : Int) := by rw [qD]; congr 1; omega
  rw [e1, e2]
  rw [← t1] at q1 q2
  clear e1 e2 t1 t2
  obtain ⟨m, rfl⟩ := Int.eq_ofNat_of_zero_le (a := d) (by omega)
  obtain ⟨g, hgd⟩ : ∃ g : Int, g = Int.gcd n m := ⟨_, rfl⟩
  rw [← hgd] at hg hgm q1 q2 q3 q4 ⊢
  have HG := Lib.hid hgd
  clear hgd
  have q3' : 0 ≤ (m : Int) / g := Int.ediv_nonneg (by omega) (by omega)
  generalize ha : n.tdiv g = a at q1 q2 ⊢
  generalize hb : (m : Int) / g = b at q3 q4 q3' ⊢
  have g0 : (g == 0) = false := by simp; omega
  have w1 : IntKind.i64.wrap a = a := IntWalk.i64_in _ (by omega)
  have w2 : IntKind.i64.wrap b = b := IntWalk.i64_in _ (by omega)
  have hb2 : (m : Int).tdiv g = b := by rw [Int.tdiv_eq_ediv_of_nonneg (by omega)]; exact hb
  go_enter Tryz.func114, Tryz.ntmps114
  go_wp2_with fail
  refine (l02Size_any n _ n1 n2).mono ?_
  rintro e w' ⟨rfl, rfl⟩
  go_wp2_with fail
  refine (l02Gcd_any n.natAbs m _ (by omega) (by omega)).mono ?_
  rw [show (Nat.gcd n.natAbs m : Int) = g by rw [HG.out]; simp [Int.gcd]]
  rintro e w' ⟨rfl, rfl⟩
  go_wp2
  go_region
  go_wp2
  exact bodyPost_ret (v := fracV a b) (by simp [results, Tryz.results114, go_sem]; done) rfl ⟨rfl, ext_drew (ext_alloc (Below.refl _ _) _)⟩
end Go.Proofs.YtpnabggpdgjbmaaGreatDoor
namespace Go.Proofs.YtpnabggpdgjbmaaGreatDoor
open Go.RowKit Go.Sort
/-- a / b and c / e are neighbours, with denominators up to most, on both sides of n / d. -/
structure Nb (n d most a b c e : Int) : Prop where
  det : c * b - a * e = 1
  lo : 0 < n * b - a * d
  hi : 0 < c * d - n * e
  b1 : 1 ≤ b
  b2 : b ≤ most
  e1 : 1 ≤ e
  e2 : e ≤ most
end Go.Proofs.YtpnabggpdgjbmaaGreatDoor
namespace Go.Proofs.YtpnabggpdgjbmaaGreatDoor
open Go.RowKit Go.Sort
/-- What a call returns that makes a slice of integers. -/
def RetList (w : World) (xs : List Int) (e : Ending) (w' : World) : Prop :=
  ∃ A c, e = .returned (.slice A xs.length c) ∧ Wr (Value.int .i64) w' w.heap.size A xs ∧ Below w.heap.size w w'
/-- What holds of a list on its way. -/
def OutI (w : World) (base : Nat) (out : List Int) (v : Value) (wr : World) : Prop :=
  wr.ownsRow base 2 1 v out.length (out.map (Value.int .i64)) ∧ Below w.heap.size w wr ∧ base ≤ wr.heap.size
theorem OutI.push {w : World} {base : Nat} {out : List Int} {v : Value} {wr : World} (h : OutI w base out v wr) (hbase : w.heap.size ≤ base) {t : Int} (v' : Value) (w3 : World) {o : Obj}
    (hown3 : w3.ownsRow base 2 1 v' (out.length + 1) (out.map (Value.int .i64) ++ [.int .i64 t])) (hg : (wr.alloc o).grownBy w3 v.ownBlock) : OutI w base (out ++ [t]) v' w3 := by
  obtain ⟨hown, hbel, hsz⟩ := h
  refine ⟨by simpa using hown3, below_grown (ext_alloc hbel o) (hown.alloc o) hbase hg, ?_⟩
  have := hg.size
  simp at this
  omega
end Go.Proofs.YtpnabggpdgjbmaaGreatDoor
namespace Go.Proofs.YtpnabggpdgjbmaaGreatDoor
open Go.RowKit Go.Sort
/-- Block g is two cells. -/
def B2 (g : Nat) (x y : Int) (W : World) : Prop := W.cell? ⟨g, 0, none⟩ = some (.int .i64 x) ∧ W.cell? ⟨g, 1, none⟩ = some (.int .i64 y) ∧ (∀ j, W.frozen? ⟨g, j, none⟩ = false) ∧ g < W.heap.size
theorem B2.next {g : Nat} {x y : Int} {W W' : World} (h : B2 g x y W) (hb : Below W.heap.size W W') : B2 g x y W' :=
  ⟨(hb.cell (p := ⟨g, 0, none⟩) h.2.2.2).trans h.1, (hb.cell (p := ⟨g, 1, none⟩) h.2.2.2).trans h.2.1, fun j => (hb.frozen (p := ⟨g, j, none⟩) h.2.2.2).trans (h.2.2.1 j), Nat.lt_of_lt_of_le h.2.2.2 hb.size⟩
theorem B2.new (W : World) (x y : Int) (T : TypeId) : B2 W.heap.size x y (W.alloc (.cells #[.int .i64 x, .int .i64 y] T)) :=
  ⟨by rw [cell_one]; rfl, by rw [cell_one]; rfl, fun j => World.frozen?_alloc_at _ _ _ _ rfl, by simp⟩
theorem B2.far {g i j : Nat} {x y : Int} {W : World} (h : B2 g x y W) (hi : g ≠ i) (u : Value) : B2 g x y (W.setCell ⟨i, j, none⟩ u) := by
  have o : ∀ m, (W.setCell ⟨i, j, none⟩ u).cell? ⟨g, m, none⟩ = W.cell? ⟨g, m, none⟩ := fun m => World.cell?_setCell_other _ _ _ _ (by intro e; injection e; omega)
  exact ⟨(o 0).trans h.1, (o 1).trans h.2.1, fun m => (World.frozen?_setCell _ _ _ _).trans (h.2.2.1 m), by simpa using h.2.2.2⟩
/-- The state while one goes towards the fraction: it, both results, the lower and the upper one. -/
def SW (w : World) (n d a b c e : Int) (W : World) : Prop :=
  Below w.heap.size w W ∧ B2 w.heap.size n d W ∧ B2 (w.heap.size + 1) 0 0 W ∧ B2 (w.heap.size + 1 + 1) 0 0 W ∧ B2 (w.heap.size + 1 + 1 + 1) a b W ∧ B2 (w.heap.size + 1 + 1 + 1 + 1) c e W
end Go.Proofs.YtpnabggpdgjbmaaGreatDoor
namespace Go.Proofs.YtpnabggpdgjbmaaGreatDoor
open Go.RowKit Go.Sort
theorem B2.keep {g h : Nat} {x y : Int} {W W' : World} (hb : B2 h x y W) (k : Keep g W W') (hg : h ≠ g) : B2 h x y W' :=
  ⟨(k.cell hg hb.2.2.2).trans hb.1, (k.cell hg hb.2.2.2).trans hb.2.1, fun j => (k.frozen hg hb.2.2.2).trans (hb.2.2.1 j), Nat.lt_of_lt_of_le hb.2.2.2 k.2.1⟩
theorem B2.set0 {g : Nat} {x y : Int} {W : World} (h : B2 g x y W) (a : Int) : B2 g a y (W.setCell ⟨g, 0, none⟩ (.int .i64 a)) := by
  obtain ⟨h0, h1, hf, hl⟩ := h
  exact ⟨World.cell?_setCell_same _ _ _ h0, (World.cell?_setCell_other _ ⟨g, 0, none⟩ ⟨g, 1, none⟩ _ (by simp)).trans h1, fun m => (World.frozen?_setCell _ _ _ _).trans (hf m), by simpa using hl⟩
theorem B2.set1 {g : Nat} {x y : Int} {W : World} (h : B2 g x y W) (a : Int) : B2 g x a (W.setCell ⟨g, 1, none⟩ (.int .i64 a)) := by
  obtain ⟨h0, h1, hf, hl⟩ := h
  exact ⟨(World.cell?_setCell_other _ ⟨g, 1, none⟩ ⟨g, 0, none⟩ _ (by simp)).trans h0, World.cell?_setCell_same _ _ _ h1, fun m => (World.frozen?_setCell _ _ _ _).trans (hf m), by simpa using hl⟩
/-- What a draw of a fraction returns. -/
def RetF (g B N : Nat) (w : World) (e : Ending) (w' : World) : Prop := ∃ a b : Int, e = .returned (fracV a b) ∧ Src g B N w' ∧ Keep g w w'
/-- The state of a draw: the source in g, the result in w's first new block. -/
def S0 (g B N : Nat) (w W : World) : Prop := Src g B N W ∧ Keep g w W ∧ B2 w.heap.size 0 0 W ∧ g < w.heap.size
section
variable {g B N : Nat} {w : World} {h : Nat} {a b : Int} {W : World}
theorem Src.lt {g B N : Nat} {W : World} (h : Src g B N W) : g < W.heap.size := by
  obtain ⟨A, n, c, bs, k, sd, h0, h1, h2, h3, h4, h5, h6, h7, h8, h9, h10, h11⟩ := h; exact h10
theorem S0.start (hs : Src g B N w) (T : TypeId) : S0 g B N w (w.alloc (.cells #[.int .i64 0, .int .i64 0] T)) :=
  ⟨hs.next (ext1 _ _), Keep.of (ext1 _ _) hs.lt, B2.new _ _ _ _, hs.lt⟩
theorem S0.keep {M : Nat} {W' : World} (t : S0 g B N w W) (hs : Src g B M W') (k : Keep g W W') : S0 g B M w W' := by
  obtain ⟨t1, t2, t3, t4⟩ := t
  exact ⟨hs, t2.trans k, t3.keep k (by omega), t4⟩
theorem S0.next {W' : World} (t : S0 g B N w W) (hb : Below W.heap.size W W') : S0 g B N w W' := t.keep (t.1.next hb) (Keep.of hb (Nat.lt_of_lt_of_le t.2.2.2 t.2.1.2.1))
theorem S0.alloc (t : S0 g B N w W) (o : Obj) : S0 g B N w (W.alloc o) := t.next (ext1 _ _)
theorem S0.ret {M : Nat} (t : S0 g B N w W) (hM : N ≤ M) (x y : Value) (a b : Int) : RetF g B M w (.returned (fracV a b)) ((W.setCell ⟨w.heap.size, 0, none⟩ x).setCell ⟨w.heap.size, 1, none⟩ y) := by
  obtain ⟨t1, t2, t3, t4⟩ := t
  exact ⟨a, b, rfl, ((t1.setOther t4 _ _).setOther t4 _ _).more hM, (t2.setOther t4 (Nat.le_refl _) _ _).setOther t4 (Nat.le_refl _) _ _⟩
/-- .. and a fraction in block h. -/
def SF (g B N : Nat) (w : World) (h : Nat) (a b : Int) (W : World) : Prop := S0 g B N w W ∧ B2 h a b W ∧ w.heap.size < h
theorem SF.start (t : S0 g B N w W) (a b : Int) (T : TypeId) : SF g B N w W.heap.size a b (W.alloc (.cells #[.int .i64 a, .int .i64 b] T)) :=
  ⟨t.alloc _, B2.new _ _ _ _, t.2.2.1.2.2.2⟩
theorem SF.keep {M : Nat} {W' : World} (t : SF g B N w h a b W) (hs : Src g B M W') (k : Keep g W W') : SF g B M w h a b W' :=
  ⟨t.1.keep hs k, t.2.1.keep k (by have := t.1.2.2.2; have := t.2.2; omega), t.2.2⟩
theorem SF.next {W' : World} (t : SF g B N w h a b W) (hb : Below W.heap.size W W') : SF g B N w h a b W' := t.keep (t.1.1.next hb) (Keep.of hb (Nat.lt_of_lt_of_le t.1.2.2.2 t.1.2.1.2.1))
theorem SF.alloc (t : SF g B N w h a b W) (o : Obj) : SF g B N w h a b (W.alloc o) := t.next (ext1 _ _)
theorem SF.put {a' b' : Int} {j : Nat} {u : Value} (t : SF g B N w h a b W) (r : B2 h a' b' (W.setCell ⟨h, j, none⟩ u)) : SF g B N w h a' b' (W.setCell ⟨h, j, none⟩ u) := by
  obtain ⟨⟨t1, t2, t3, t4⟩, t5, t6⟩ := t
  exact ⟨⟨t1.setOther (by omega) j u, t2.setOther t4 (by omega) j u, t3.far (by omega) u, t4⟩, r, t6⟩
theorem SF.set0 (t : SF g B N w h a b W) (x : Int) : SF g B N w h x b (W.setCell ⟨h, 0, none⟩ (.int .i64 x)) := t.put (t.2.1.set0 x)
theorem SF.set1 (t : SF g B N w h a b W) (x : Int) : SF g B N w h a x (W.setCell ⟨h, 1, none⟩ (.int .i64 x)) := t.put (t.2.1.set1 x)
end
theorem SF.ret {g B N M : Nat} {w : World} {h : Nat} {a b : Int} {W : World} (t : SF g B N w h a b W) (hM : N ≤ M) (x y : Value) : RetF g B M w (.returned (fracV a b)) ((W.setCell ⟨w.heap.size, 0, none⟩ x).setCell ⟨w.heap.size, 1, none⟩ y) := S0.ret t.1 hM x y a b
theorem l02Make_some (n d : Int) (w : World) (n1 : -9223372036854775807 ≤ n) (n2 : n ≤ 9223372036854775807) (d1 : 1 ≤ d) (d2 : d ≤ 9223372036854775807) :
    Calls Tryz.prog 114 #[.int .i64 n, .int .i64 d] w fun e w' => ∃ u v, e = .returned (fracV u v) ∧ Below w.heap.size w w' :=
  (l02Make_any n d w n1 n2 d1 d2).mono fun _ _ h => ⟨_, _, h⟩
set_option maxHeartbeats 1000000 in
theorem l02Draw_any (g B N : Nat) (w : World) (h : Src g B N w) (hN : N ≤ 900000) :
    Calls Tryz.prog 111 #[.pointer (some ⟨g, 0, none⟩), .int .i64 300] w (RetF g B (N + 8) w) := by
  have T := Lib.hid (S0.start h 26)
  clear h
  go_enter Tryz.func111, Tryz.ntmps111
  go_wp2_with fail
  refine (srcPick_any g B N 601 _ T.out.1 (by omega) (by omega)).mono ?_
  rintro e w1 ⟨x, x1, x2, rfl, S1, K1⟩
  have T := Lib.hid (T.out.keep S1 K1)
  go_wp2_with fail
  refine (srcOne_any g B _ 2 _ T.out.1 (by omega) (by omega)).mono ?_
  rintro e w2 ⟨b, rfl, S2, K2⟩
  have T := Lib.hid (T.out.keep S2 K2)
  clear S1 K1 S2 K2
  cases b
  · go_wp2_with fail
    refine (srcPick_any g B _ 300 _ T.out.1 (by omega) (by omega)).mono ?_
    rintro e w4 ⟨y, y1, y2, rfl, S4, K4⟩
    have T := Lib.hid (T.out.keep S4 K4)
    go_wp2_with fail
    refine (l02Make_some _ _ _ (by omega) (by omega) (by omega) (by omega)).mono ?_
    rintro e w5 ⟨u, v, rfl, hb5⟩
    have T := Lib.hid (T.out.next hb5)
    clear hb5 S4 K4
    obtain ⟨r0, r1, rf, rl⟩ := T.out.2.2.1
    have rf0 := rf 0
    have rf1 := rf 1
    clear rf
    obtain ⟨s0, s1⟩ := set_two r0 r1
    go_wp2
    refine bodyPost_ret ?_ rfl (S0.ret T.out (by omega) _ _ u v)
    simp [results, Tryz.results111, go_sem, s0, s1]
  · go_wp2_with fail
    refine (srcPick_any g B _ 301 _ T.out.1 (by omega) (by omega)).mono ?_
    rintro e w3 ⟨z, z1, z2, rfl, S3, K3⟩
    have T := Lib.hid ((T.out.keep S3 K3))
    clear S3 K3
    go_wp2_with fail
    refine (srcPick_any g B _ 300 _ T.out.1 (by omega) (by omega)).mono ?_
    rintro e w4 ⟨y, y1, y2, rfl, S4, K4⟩
    have T := Lib.hid (T.out.keep S4 K4)
    go_wp2_with fail
    refine (l02Make_some _ _ _ (by omega) (by omega) (by omega) (by omega)).mono ?_
    rintro e w5 ⟨u, v, rfl, hb5⟩
    have T := Lib.hid (T.out.next hb5)
    clear hb5 S4 K4
    obtain ⟨r0, r1, rf, rl⟩ := T.out.2.2.1
    have rf0 := rf 0
    have rf1 := rf 1
    clear rf
    obtain ⟨s0, s1⟩ := set_two r0 r1
    go_wp2
    refine bodyPost_ret ?_ rfl (S0.ret T.out (by omega) _ _ u v)
    simp [results, Tryz.results111, go_sem, s0, s1]
set_option maxHeartbeats 4000000 in
theorem l02Bent_any (g B N : Nat) (w : World) (h : Src g B N w) (hN : N ≤ 900000) :
    Calls Tryz.prog 73 #[.pointer (some ⟨g, 0, none⟩)] w (RetF g B (N + 14) w) := by
  have T := Lib.hid (S0.start h 26)
  clear h
  go_enter Tryz.func73, Tryz.ntmps73
  go_wp2_with fail
  refine (l02Draw_any g B N _ T.out.1 (by omega)).mono ?_
  rintro e w1 ⟨a, b, rfl, S1, K1⟩
  have T := Lib.hid (SF.start (T.out.keep S1 K1) a b 26)
  clear S1 K1
  go_wp2_with fail
  refine (srcPick_any g B _ 20 _ T.out.1.1 (by omega) (by omega)).mono ?_
  rintro e w2 ⟨k, k1, k2, rfl, S2, K2⟩
  have T := Lib.hid (T.out.keep S2 K2)
  clear S2 K2
  by_cases e0 : k = 0
  · skip
    obtain ⟨c0, c1, cf, cl⟩ := T.out.2.1
    have cf0 := cf 0
    have cf1 := cf 1
    clear cf
    have hz := Nat.lt_of_lt_of_le T.out.1.2.2.2 T.out.1.2.1.2.1
    go_wp2_with fail
    refine (srcAmong_any g B _ _ _ [-1000000001, -1000000000, 1000000000, 1000000001, -9223372036854775808] _ (T.out.alloc _).1.1 (by omega) (rd_lit _ _ _ _ rfl) (fun b o e => by injection e with e; injection e; omega) (by simp) (by simp)).mono ?_
    rintro e w3 ⟨x, hx, rfl, S3, K3⟩
    have T := Lib.hid ((T.out.alloc _).keep S3 K3)
    clear c0 c1 cf0 cf1 cl hz
    obtain ⟨c0, c1, cf, cl⟩ := T.out.2.1
    have cf0 := cf 0
    have cf1 := cf 1
    clear cf
    have hz := Nat.lt_of_lt_of_le T.out.1.2.2.2 T.out.1.2.1.2.1
    have T := Lib.hid (T.out.set0 x)
    clear S3 K3 hx
    have T0 := Lib.hid T.out.1
    obtain ⟨d0, d1, df, dl⟩ := T.out.2.1
    obtain ⟨r0, r1, rf, rl⟩ := T0.out.2.2.1
    have rf0 := rf 0
    have rf1 := rf 1
    clear rf df
    obtain ⟨s0, s1⟩ := set_two r0 r1
    go_wp2
    refine bodyPost_ret ?_ rfl (SF.ret T.out (by omega) _ _)
    simp [results, Tryz.results73, go_sem, s0, s1]
  · by_cases e1 : k = 1
    · skip
      obtain ⟨c0, c1, cf, cl⟩ := T.out.2.1
      have cf0 := cf 0
      have cf1 := cf 1
      clear cf
      have hz := Nat.lt_of_lt_of_le T.out.1.2.2.2 T.out.1.2.1.2.1
      go_wp2_with fail
      refine (srcAmong_any g B _ _ _ [-1, 0, 1, 1000000000, 1000000001, 9223372036854775807] _ (T.out.alloc _).1.1 (by omega) (rd_lit _ _ _ _ rfl) (fun b o e => by injection e with e; injection e; omega) (by simp) (by simp)).mono ?_
      rintro e w3 ⟨x, hx, rfl, S3, K3⟩
      have T := Lib.hid ((T.out.alloc _).keep S3 K3)
      clear c0 c1 cf0 cf1 cl hz
      obtain ⟨c0, c1, cf, cl⟩ := T.out.2.1
      have cf0 := cf 0
      have cf1 := cf 1
      clear cf
      have hz := Nat.lt_of_lt_of_le T.out.1.2.2.2 T.out.1.2.1.2.1
      have T := Lib.hid (T.out.set1 x)
      clear S3 K3 hx
      have T0 := Lib.hid T.out.1
      obtain ⟨d0, d1, df, dl⟩ := T.out.2.1
      obtain ⟨r0, r1, rf, rl⟩ := T0.out.2.2.1
      have rf0 := rf 0
      have rf1 := rf 1
      clear rf df
      obtain ⟨s0, s1⟩ := set_two r0 r1
      go_wp2
      refine bodyPost_ret ?_ rfl (SF.ret T.out (by omega) _ _)
      simp [results, Tryz.results73, go_sem, s0, s1]
    · by_cases e2 : k = 2
      · have T0 := Lib.hid T.out.1
        obtain ⟨r0, r1, rf, rl⟩ := T0.out.2.2.1
        have rf0 := rf 0
        have rf1 := rf 1
        clear rf
        obtain ⟨s0, s1⟩ := set_two r0 r1
        go_wp2
        refine bodyPost_ret ?_ rfl (S0.ret T0.out (by omega) _ _ 2 4)
        simp [results, Tryz.results73, go_sem, s0, s1]
      · by_cases e3 : k = 3
        · go_wp2_with fail
          refine (srcPick_any g B _ 5 _ T.out.1.1 (by omega) (by omega)).mono ?_
          rintro e w3 ⟨x, x1, x2, rfl, S3, K3⟩
          have T := Lib.hid (T.out.keep S3 K3)
          go_wp2_with fail
          refine (srcPick_any g B _ 5 _ T.out.1.1 (by omega) (by omega)).mono ?_
          rintro e w4 ⟨y, y1, y2, rfl, S4, K4⟩
          have T := Lib.hid (T.out.keep S4 K4)
          go_wp2_with fail
          refine (l02Make_some _ _ _ (by omega) (by omega) (by omega) (by omega)).mono ?_
          rintro e w5 ⟨u, v, rfl, hb5⟩
          have T := Lib.hid (T.out.next hb5)
          clear hb5 S3 K3 S4 K4
          obtain ⟨c0, c1, cf, cl⟩ := T.out.2.1
          have cf0 := cf 0
          have cf1 := cf 1
          clear cf
          have hz := Nat.lt_of_lt_of_le T.out.1.2.2.2 T.out.1.2.1.2.1
          have T := Lib.hid ((T.out.set0 u).set1 v)
          have T0 := Lib.hid T.out.1
          obtain ⟨d0, d1, df, dl⟩ := T.out.2.1
          obtain ⟨r0, r1, rf, rl⟩ := T0.out.2.2.1
          have rf0 := rf 0
          have rf1 := rf 1
          clear rf df
          obtain ⟨s0, s1⟩ := set_two r0 r1
          go_wp2
          refine bodyPost_ret ?_ rfl (SF.ret T.out (by omega) _ _)
          simp [results, Tryz.results73, go_sem, s0, s1]
        · skip
          obtain ⟨c0, c1, cf, cl⟩ := T.out.2.1
          have cf0 := cf 0
          have cf1 := cf 1
          clear cf
          have hz := Nat.lt_of_lt_of_le T.out.1.2.2.2 T.out.1.2.1.2.1
          have T0 := Lib.hid T.out.1
          obtain ⟨d0, d1, df, dl⟩ := T.out.2.1
          obtain ⟨r0, r1, rf, rl⟩ := T0.out.2.2.1
          have rf0 := rf 0
          have rf1 := rf 1
          clear rf df
          obtain ⟨s0, s1⟩ := set_two r0 r1
          go_wp2
          refine bodyPost_ret ?_ rfl (SF.ret T.out (by omega) _ _)
          simp [results, Tryz.results73, go_sem, s0, s1]
end Go.Proofs.YtpnabggpdgjbmaaGreatDoor
namespace Go.Proofs.YtpnabggpdgjbmaaGreatDoor
open Go.RowKit Go.Sort
/-- Block g begins with the cells vs, and may be written. -/
structure BoxV (g : Nat) (vs : List Value) (W : World) : Prop where
  c : ∀ j v, vs[j]? = some v → W.cell? ⟨g, j, none⟩ = some v
  f : ∀ j, W.frozen? ⟨g, j, none⟩ = false
  lt : g < W.heap.size
theorem BoxV.new (W : World) (C : Array Value) (T : TypeId) : BoxV W.heap.size C.toList (W.alloc (.cells C T)) :=
  ⟨fun j v h => by rw [cell_one, ← Array.getElem?_toList]; exact h, fun j => World.frozen?_alloc_at _ _ _ _ rfl, by simp⟩
theorem BoxV.next {g : Nat} {vs : List Value} {W W' : World} (h : BoxV g vs W) (hb : Below W.heap.size W W') : BoxV g vs W' :=
  ⟨fun j v hv => (hb.cell (p := ⟨g, j, none⟩) h.lt).trans (h.c j v hv), fun j => (hb.frozen (p := ⟨g, j, none⟩) h.lt).trans (h.f j), Nat.lt_of_lt_of_le h.lt hb.size⟩
theorem BoxV.alloc {g : Nat} {vs : List Value} {W : World} (h : BoxV g vs W) (o : Obj) : BoxV g vs (W.alloc o) := h.next (ext1 W o)
theorem BoxV.drew {g : Nat} {vs : List Value} {W : World} (h : BoxV g vs W) : BoxV g vs W.drew := ⟨h.c, h.f, h.lt⟩
theorem BoxV.grown {g : Nat} {vs : List Value} {W W' : World} {row : Option Nat} (h : BoxV g vs W) (hg : W.grownBy W' row) (hn : row ≠ some g) : BoxV g vs W' := by
  have hb : W'.heap[g]? = W.heap[g]? := hg.block g h.lt (fun e => hn e.symm)
  exact ⟨fun j v hv => (World.cell?_of_block (a := ⟨g, j, none⟩) hb).trans (h.c j v hv), fun j => by have := h.f j; simpa only [World.frozen?, hb] using this, Nat.lt_of_lt_of_le h.lt hg.size⟩
theorem BoxV.set {g : Nat} {vs : List Value} {W : World} (h : BoxV g vs W) (j : Nat) (u : Value) (hj : j < vs.length) : BoxV g (vs.set j u) (W.setCell ⟨g, j, none⟩ u) := by
  refine ⟨fun i v hv => ?_, fun i => (World.frozen?_setCell _ _ _ _).trans (h.f i), by simpa using h.lt⟩
  by_cases hij : i = j
  · subst hij
    rw [List.getElem?_set_self hj] at hv
    obtain rfl := Option.some.inj hv
    exact World.cell?_setCell_same _ _ _ (h.c i _ (List.getElem?_eq_getElem hj))
  · rw [List.getElem?_set_ne (fun e => hij e.symm)] at hv
    exact (World.cell?_setCell_other _ _ _ _ (by intro e; injection e; omega)).trans (h.c i v hv)
theorem BoxV.setFar {g b j : Nat} {vs : List Value} {W : World} (h : BoxV g vs W) (u : Value) (hb : b ≠ g) : BoxV g vs (W.setCell ⟨b, j, none⟩ u) :=
  ⟨fun i v hv => (World.cell?_setCell_other _ _ _ _ (by intro e; injection e; omega)).trans (h.c i v hv), fun i => (World.frozen?_setCell _ _ _ _).trans (h.f i), by simpa using h.lt⟩
theorem BoxV.at {g : Nat} {vs : List Value} {W : World} (h : BoxV g vs W) (j : Nat) (v : Value) (hv : vs[j]? = some v) : W.cell? ⟨g, j, none⟩ = some v := h.c j v hv
end Go.Proofs.YtpnabggpdgjbmaaGreatDoor
namespace Go.Proofs.YtpnabggpdgjbmaaGreatDoor
open Go.RowKit Go.Sort
theorem own_at {w : World} {base s n : Nat} {e : TypeId} {v : Value} {xs : List Value} (h : w.ownsRow base e s v n xs) (h0 : 0 < n) : ∃ g cap, v = .slice (some ⟨g, 0, none⟩) n cap ∧ base ≤ g ∧ g < w.heap.size ∧ n ≤ cap ∧ cap ≤ maxLen ∧ ∀ j x, xs[j]? = some x → w.cell? ⟨g, j, none⟩ = some x := by
  rcases h.2 with ⟨rfl, h1⟩ | ⟨g, cap, cur, rfl, hg, hh, hc, hm, hs, ht⟩
  · omega
  · refine ⟨g, cap, rfl, hg, (Array.getElem?_eq_some_iff.1 hh).1, hc, hm, fun j x hx => ?_⟩
    have := h.cells (g := g) rfl j _ hx
    have ea : (⟨g, 0, none⟩ : Addr).add j = ⟨g, 0 + j, none⟩ := by
      unfold Addr.add
      by_cases hj : j = 0 <;> simp [hj]
    rw [ea, Nat.zero_add] at this
    exact this
section
variable {P : Program} (w : World)
end
end Go.Proofs.YtpnabggpdgjbmaaGreatDoor
namespace Go.Proofs.YtpnabggpdgjbmaaGreatDoor
open Go.RowKit Go.Sort
theorem Src.grown {g B N : Nat} {W W' : World} {row : Option Nat} (h : Src g B N W) (hg : W.grownBy W' row) (hr : ∀ k, row = some k → g < k) : Src g B N W' := by
  obtain ⟨A, n, c, bs, k, sd, h0, h1, h2, h3, h4, h5, h6, h7, h8, h9, h10, h11⟩ := h
  have hb : W'.heap[g]? = W.heap[g]? := hg.block g h10 (fun e => by have := hr g e.symm; omega)
  exact ⟨A, n, c, bs, k, sd, (World.cell?_of_block (a := ⟨g, 0, none⟩) hb).trans h0, (World.cell?_of_block (a := ⟨g, 1, none⟩) hb).trans h1, (World.cell?_of_block (a := ⟨g, 2, none⟩) hb).trans h2, h3,
    h4.below ((Below.refl B W).grown hg (by omega) (fun k hk => by have := hr k hk; omega)), h5, h6, h7, h8, fun j => by have := h9 j; simpa only [World.frozen?, hb] using this, Nat.lt_of_lt_of_le h10 hg.size, h11⟩
theorem own_kept {g : Nat} {W W' : World} {base : Nat} {e : TypeId} {size n : Nat} {v : Value} {xs : List Value} (h : W.ownsRow base e size v n xs) (k : Keep g W W') (hg : g < base) : W'.ownsRow base e size v n xs := by
  obtain ⟨h1, h2⟩ := h
  refine ⟨h1, ?_⟩
  rcases h2 with h2 | ⟨b, cap, cur, hv, hb, hh, r⟩
  · exact .inl h2
  · have hlt : b < W.heap.size := (Array.getElem?_eq_some_iff.1 hh).1
    exact .inr ⟨b, cap, cur, hv, hb, (k.2.2 b (by omega) hlt).trans hh, r⟩
theorem news_row1 (w : World) {C : Array Value} (T : TypeId) (vs : List Value) (h : C.toList = vs) : ∀ j u, vs[j]? = some u → (w.alloc (.cells C T)).cell? ((⟨w.heap.size, 0, none⟩ : Addr).add j) = some u := fun j u hu => by
  rw [Addr.add_lit, Nat.zero_add, cell_one, ← Array.getElem?_toList, h]
  exact hu
/-- A list of numbers on its way, and the source. -/
structure SL (g B N : Nat) (w : World) (out : List Int) (v : Value) (W : World) : Prop where
  src : Src g B N W
  keep : Keep g w W
  row : W.ownsRow w.heap.size 2 1 v out.length (out.map (Value.int .i64))
  hg : g < w.heap.size
section
variable {g B N M : Nat} {w W W' : World} {out : List Int} {v : Value}
theorem SL.kept (t : SL g B N w out v W) (hs : Src g B M W') (k : Keep g W W') : SL g B M w out v W' := ⟨hs, t.keep.trans k, own_kept t.row k t.hg, t.hg⟩
theorem SL.next (t : SL g B N w out v W) (hb : Below W.heap.size W W') : SL g B N w out v W' := t.kept (t.src.next hb) (Keep.of hb t.src.lt)
theorem SL.more (t : SL g B N w out v W) (h : N ≤ M) : SL g B M w out v W := ⟨t.src.more h, t.keep, t.row, t.hg⟩
theorem SL.push (t : SL g B N w out v W) {x : Int} {v' : Value} (hown : W'.ownsRow w.heap.size 2 1 v' (out.length + 1) (out.map (Value.int .i64) ++ [.int .i64 x])) (hgr : W.grownBy W' v.ownBlock) : SL g B N w (out ++ [x]) v' W' := by
  have hl := fun k hk => (t.row.lt k hk).1
  refine ⟨t.src.grown hgr (fun k hk => by have := hl k hk; have := t.hg; omega), ⟨?_, Nat.le_trans t.keep.2.1 hgr.size, fun b hb hlt => ?_⟩, by simpa using hown, t.hg⟩
  · exact t.keep.1.grown hgr (by have := t.hg; have := t.keep.2.1; omega) (fun k hk => by have := hl k hk; have := t.hg; omega)
  · exact (hgr.block b (Nat.lt_of_lt_of_le hlt t.keep.2.1) (fun e => by have := hl b e.symm; omega)).trans (t.keep.2.2 b hb hlt)
end
end Go.Proofs.YtpnabggpdgjbmaaGreatDoor
