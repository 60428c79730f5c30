/- DivisorShare: both walks. No condition but those that each theorem names. -/
import Derived.Test.YtdjnblkgeaphmaaDivW
import Derived.Test.YtdjnblkgeaphmaaFracW
namespace Go.Proofs.Ytdjnblkgeaphmaa
open Go.RowKit Go.Sort

/-- The alternating sum of the first k quotients. -/
def shr (l : Int) (xs : List Int) : Nat → Int
  | 0 => 0
  | k + 1 => shr l xs k + (if k % 2 = 0 then l / xs.getD k 0 else -(l / xs.getD k 0))
theorem shr_yes {l : Int} {xs : List Int} {k : Nat} {x : Int} (h : xs[k]? = some x) (hk : k % 2 = 0) : shr l xs (k + 1) = shr l xs k + l / x := by
  simp [shr, hk, List.getD, h]
theorem shr_no {l : Int} {xs : List Int} {k : Nat} {x : Int} (h : xs[k]? = some x) (hk : ¬ k % 2 = 0) : shr l xs (k + 1) = shr l xs k - l / x := by
  simp [shr, hk, List.getD, h]; omega
theorem quo_bd {l x : Int} (h0 : 0 ≤ l) (h1 : l ≤ 100000) (hx : 1 ≤ x) : 0 ≤ l / x ∧ l / x ≤ 100000 :=
  ⟨Int.ediv_nonneg h0 (by omega), Int.le_trans (Int.ediv_le_self x h0) h1⟩
theorem shr_bd {l : Int} {xs : List Int} (h0 : 0 ≤ l) (h1 : l ≤ 100000) (ha : allIn xs = true) : ∀ k, k ≤ xs.length → -(100000 * (k : Int)) ≤ shr l xs k ∧ shr l xs k ≤ 100000 * (k : Int)
  | 0, _ => by simp [shr]
  | k + 1, hk => by
    obtain ⟨x, hx⟩ : ∃ x, xs[k]? = some x := ⟨_, List.getElem?_eq_getElem (by omega)⟩
    have := allIn_mem ha hx
    have q := quo_bd h0 h1 (x := x) (by omega)
    have ih := shr_bd h0 h1 ha k (by omega)
    by_cases hk2 : k % 2 = 0
    · rw [shr_yes hx hk2]; omega
    · rw [shr_no hx hk2]; omega

/-- A quotient in lowest terms is a fraction. -/
theorem fracOk_q {n d : Int} (d1 : 1 ≤ d) (d2 : d ≤ 1000000000) (n1 : -1000000000 ≤ n) (n2 : n ≤ 1000000000) : fracOk (qN n d) (qD n d) = true := by
  have hg := gcd_pos' (n := n) (d := d) (by omega)
  have e1 : qN n d = n / (Int.gcd n d : Int) := by rw [qN, if_neg (by omega)]
  have e2 : qD n d = d / (Int.gcd n d : Int) := by rw [qD]; congr 1; omega
  rw [fracOk_true, e1, e2]
  obtain ⟨q1, q2⟩ := ediv_bd (M := 1000000000) hg n1 n2
  obtain ⟨q3, q4⟩ := ediv_bd (M := 1000000000) hg (show -1000000000 ≤ d by omega) d2
  refine ⟨?_, q4, q1, q2, ?_⟩
  · rw [Int.le_ediv_iff_mul_le hg]
    have : Int.gcd n d ≤ d.natAbs := Nat.le_of_dvd (by omega) (by exact Nat.gcd_dvd_right _ _)
    omega
  · exact Int.gcd_ediv_gcd_ediv_gcd_of_ne_zero_right (by omega)

def lastOf (xs : List Int) : Int := xs.getD (xs.length - 1) 0
def shareN (xs : List Int) : Int := if divCode true xs = 0 then qN (shr (lastOf xs) xs xs.length) (lastOf xs) else 0
def shareD (xs : List Int) : Int := if divCode true xs = 0 then qD (shr (lastOf xs) xs xs.length) (lastOf xs) else 0

set_option maxHeartbeats 1000000 in
theorem iDivisorShare_any (A : Option Addr) (c : Nat) (xs : List Int) (w : World) (hx : Rd (Value.int .i64) w w.heap.size A xs) (_hm : True) :
    Calls Try.prog 42 #[.slice A xs.length c] w fun e w' => e = .returned (.tuple #[fracV (shareN xs) (shareD xs), .int .i64 (divCode true xs)]) ∧ Below w.heap.size w w' := by
  have hx2 : ∀ o : Obj, Rd (Value.int .i64) (w.alloc o) (w.alloc o).heap.size A xs := fun o => (hx.below (ext1 w o)).more (by simp)
  have HX := Lib.hid hx2
  clear hx2
  by_cases h0 : divCode true xs = 0
  · obtain ⟨_, n1, n2, hall⟩ := divCode_zero h0
    obtain ⟨l, hl⟩ : ∃ l, xs[xs.length - 1]? = some l := ⟨_, List.getElem?_eq_getElem (by omega)⟩
    obtain ⟨l1, l2⟩ := allIn_mem hall hl
    have el : lastOf xs = l := by simp [lastOf, List.getD, hl]
    have e1 : shareN xs = qN (shr l xs xs.length) l := by rw [shareN, if_pos h0, el]
    have e2 : shareD xs = qD (shr l xs xs.length) l := by rw [shareD, if_pos h0, el]
    obtain ⟨s1, s2⟩ := shr_bd (l := l) (by omega) l2 hall xs.length (Nat.le_refl _)
    have hfull : fullN (shr l xs xs.length) l = qN (shr l xs xs.length) l ∧ fullD (shr l xs xs.length) l = qD (shr l xs xs.length) l ∧ fullC (shr l xs xs.length) l = 0 := by
      have := fracOk_q (n := shr l xs xs.length) (d := l) l1 (by omega) (by omega) (by omega)
      simp [fullN, fullD, fullC, this]
    rw [e1, e2]
    clear e1 e2 el
    have H0 := Lib.hid h0
    have HALL := Lib.hid hall
    have HF := Lib.hid hfull
    have HL := Lib.hid hl
    rw [h0]
    clear h0 hall hfull hl
    obtain ⟨b, off, rfl, hb, hc⟩ := hx (by omega)
    have HC := Lib.hid hc
    clear hc hx
    go_enter Try.func42, Try.ntmps42
    go_wp2_with fail
    refine (checkDivisors_any _ _ xs true _ (HX.out _)).mono ?_
    rw [H0.out]
    rintro e w1 ⟨rfl, hb1⟩
    have hb01 : Below w.heap.size w w1 := ext_trans (ext1 w _) hb1
    have m0 : w1.cell? ⟨w.heap.size, 0, none⟩ = some (.int .i64 0) := (hb1.cell (p := ⟨w.heap.size, 0, none⟩) (by simp)).trans (cell_one _ _ _ _)
    have m1 : w1.cell? ⟨w.heap.size, 1, none⟩ = some (.int .i64 0) := (hb1.cell (p := ⟨w.heap.size, 1, none⟩) (by simp)).trans (cell_one _ _ _ _)
    have f0 : w1.frozen? ⟨w.heap.size, 0, none⟩ = false := (hb1.frozen (p := ⟨w.heap.size, 0, none⟩) (by simp)).trans (World.frozen?_alloc_at _ _ _ _ rfl)
    have f1 : w1.frozen? ⟨w.heap.size, 1, none⟩ = false := (hb1.frozen (p := ⟨w.heap.size, 1, none⟩) (by simp)).trans (World.frozen?_alloc_at _ _ _ _ rfl)
    have hz1 : w.heap.size < w1.heap.size := by have := hb1.size; simp at this; omega
    have cl : w1.cell? ⟨b, off + (xs.length - 1), none⟩ = some (.int .i64 l) := (hb01.cell (p := ⟨b, off + (xs.length - 1), none⟩) hb).trans (HC.out _ _ HL.out)
    have i0 : (0 : Int) ≤ (xs.length : Int) - 1 := by omega
    have i0' : (1 : Int) ≤ (xs.length : Int) := by omega
    go_wp2_with fail
    go_loop [23, 6] (fun t o => ∃ k : Nat, k ≤ xs.length ∧ t = .int .i64 k ∧ o = .int .i64 (shr l xs k)) (fun t _ => xs.length - (intOf t).toNat)
    case atStart => exact ⟨0, by omega, rfl, rfl⟩
    case round =>
      obtain ⟨k, hk, rfl, rfl⟩ := hrel
      obtain ⟨b1, b2⟩ := shr_bd (l := l) (by omega) l2 HALL.out k hk
      by_cases hlt : k < xs.length
      · obtain ⟨x, hxk⟩ : ∃ x, xs[k]? = some x := ⟨_, List.getElem?_eq_getElem hlt⟩
        have c1 : w1.cell? ⟨b, off + k, none⟩ = some (.int .i64 x) := (hb01.cell (p := ⟨b, off + k, none⟩) hb).trans (HC.out k x hxk)
        obtain ⟨x1, x2⟩ := allIn_mem HALL.out hxk
        obtain ⟨q1, q2⟩ := quo_bd (l := l) (by omega) l2 x1
        have HXK := Lib.hid hxk
        clear hxk cl
        have j0 : (0 : Int) ≤ (k : Int) := by omega
        have j1 : (k : Int) < (xs.length : Int) := by omega
        have x0 : (x == 0) = false := by simp; omega
        by_cases hk2 : k % 2 = 0
        · have t1 : ((k : Int) % 2 == 0) = true := by simp; omega
          have HK := Lib.hid hk2
          clear hk2
          go_wp2
          go_round
          case rel => exact ⟨k + 1, by omega, by go_num, val_int (shr_yes HXK.out HK.out).symm⟩
          case measure => simp [intOf]; omega
        · have t1 : ((k : Int) % 2 == 0) = false := by simp; omega
          go_wp2
          go_round
          case rel => exact ⟨k + 1, by omega, by go_num, val_int (shr_no HXK.out hk2).symm⟩
          case measure => simp [intOf]; omega
      · obtain rfl : k = xs.length := by omega
        go_wp2_with fail
        refine (plainOf_any _ _ _ (by omega) (by omega) (by omega) (by omega) (by omega)).mono ?_
        rw [HF.out.1, HF.out.2.1, HF.out.2.2]
        rintro e w2 ⟨rfl, hb2⟩
        obtain ⟨hc2, hf2⟩ := bcell hb2
        have hz2 : w.heap.size < w2.heap.size := by have := hb2.size; omega
        have m0' : w2.cell? ⟨w.heap.size, 0, none⟩ = some (.int .i64 0) := (hc2 _ _ hz1).trans m0
        have m1' : w2.cell? ⟨w.heap.size, 1, none⟩ = some (.int .i64 0) := (hc2 _ _ hz1).trans m1
        obtain ⟨s0, s1⟩ := set_two m0' m1'
        go_wp2
        exact bodyPost_ret (v := .tuple #[fracV (qN (shr l xs xs.length) l) (qD (shr l xs xs.length) l), .int .i64 0]) (by simp [results, Try.results42, go_sem, s0, s1]; done) rfl ⟨rfl, ext_set (ext_set (ext_trans hb01 hb2) (Nat.le_refl _) _) (Nat.le_refl _) _⟩
  · have e1 : shareN xs = 0 := by rw [shareN, if_neg h0]
    have e2 : shareD xs = 0 := by rw [shareD, if_neg h0]
    rw [e1, e2]
    clear e1 e2
    have h1 : (divCode true xs != 0) = true := by simpa using h0
    have h2 : (divCode true xs == 0) = false := by simpa using h0
    go_enter Try.func42, Try.ntmps42
    go_wp2_with fail
    refine (checkDivisors_any _ _ xs true _ (HX.out _)).mono ?_
    rintro e w1 ⟨rfl, hb1⟩
    obtain ⟨hc1, hf1⟩ := bcell hb1
    have hb01 : Below w.heap.size w w1 := ext_trans (ext1 w _) hb1
    have m0 : w1.cell? ⟨w.heap.size, 0, none⟩ = some (.int .i64 0) := (hb1.cell (p := ⟨w.heap.size, 0, none⟩) (by simp)).trans (cell_one _ _ _ _)
    have m1 : w1.cell? ⟨w.heap.size, 1, none⟩ = some (.int .i64 0) := (hb1.cell (p := ⟨w.heap.size, 1, none⟩) (by simp)).trans (cell_one _ _ _ _)
    have hz1 : w.heap.size < w1.heap.size := by have := hb1.size; simp at this; omega
    obtain ⟨s0, s1⟩ := set_two m0 m1
    go_wp2
    exact bodyPost_ret (v := .tuple #[fracV 0 0, .int .i64 (divCode true xs)]) (by simp [results, Try.results42, go_sem, s0, s1]; done) rfl ⟨rfl, ext_set (ext_set hb01 (Nat.le_refl _) _) (Nat.le_refl _) _⟩
set_option maxHeartbeats 1000000 in
theorem sDivisorShare_any (A : Option Addr) (c : Nat) (xs : List Int) (w : World) (hx : Rd (Value.int .i64) w w.heap.size A xs) (hm : xs.length ≤ 1048576) :
    Calls Try.prog 43 #[.slice A xs.length c] w fun e w' => e = .returned (.tuple #[fracV (shareN xs) (shareD xs), .int .i64 (divCode true xs)]) ∧ Below w.heap.size w w' := by
  have hx2 : ∀ o : Obj, Rd (Value.int .i64) (w.alloc o) (w.alloc o).heap.size A xs := fun o => (hx.below (ext1 w o)).more (by simp)
  have HX := Lib.hid hx2
  clear hx2
  by_cases h0 : divCode true xs = 0
  · obtain ⟨_, n1, n2, hall⟩ := divCode_zero h0
    obtain ⟨l, hl⟩ : ∃ l, xs[xs.length - 1]? = some l := ⟨_, List.getElem?_eq_getElem (by omega)⟩
    obtain ⟨l1, l2⟩ := allIn_mem hall hl
    have el : lastOf xs = l := by simp [lastOf, List.getD, hl]
    have e1 : shareN xs = qN (shr l xs xs.length) l := by rw [shareN, if_pos h0, el]
    have e2 : shareD xs = qD (shr l xs xs.length) l := by rw [shareD, if_pos h0, el]
    obtain ⟨s1, s2⟩ := shr_bd (l := l) (by omega) l2 hall xs.length (Nat.le_refl _)
    have hfull : fullN (shr l xs xs.length) l = qN (shr l xs xs.length) l ∧ fullD (shr l xs xs.length) l = qD (shr l xs xs.length) l ∧ fullC (shr l xs xs.length) l = 0 := by
      have := fracOk_q (n := shr l xs xs.length) (d := l) l1 (by omega) (by omega) (by omega)
      simp [fullN, fullD, fullC, this]
    rw [e1, e2]
    clear e1 e2 el
    have H0 := Lib.hid h0
    have HALL := Lib.hid hall
    have HF := Lib.hid hfull
    have HL := Lib.hid hl
    rw [h0]
    clear h0 hall hfull hl
    obtain ⟨b, off, rfl, hb, hc⟩ := hx (by omega)
    have HC := Lib.hid hc
    clear hc hx
    go_enter Try.func43, Try.ntmps43
    go_wp2_with fail
    refine (l24Divisors_any _ _ xs _ (HX.out _) hm).mono ?_
    rw [H0.out]
    rintro e w1 ⟨rfl, hb1⟩
    have hb01 : Below w.heap.size w w1 := ext_trans (ext1 w _) hb1
    have m0 : w1.cell? ⟨w.heap.size, 0, none⟩ = some (.int .i64 0) := (hb1.cell (p := ⟨w.heap.size, 0, none⟩) (by simp)).trans (cell_one _ _ _ _)
    have m1 : w1.cell? ⟨w.heap.size, 1, none⟩ = some (.int .i64 0) := (hb1.cell (p := ⟨w.heap.size, 1, none⟩) (by simp)).trans (cell_one _ _ _ _)
    have f0 : w1.frozen? ⟨w.heap.size, 0, none⟩ = false := (hb1.frozen (p := ⟨w.heap.size, 0, none⟩) (by simp)).trans (World.frozen?_alloc_at _ _ _ _ rfl)
    have f1 : w1.frozen? ⟨w.heap.size, 1, none⟩ = false := (hb1.frozen (p := ⟨w.heap.size, 1, none⟩) (by simp)).trans (World.frozen?_alloc_at _ _ _ _ rfl)
    have hz1 : w.heap.size < w1.heap.size := by have := hb1.size; simp at this; omega
    have cl : w1.cell? ⟨b, off + (xs.length - 1), none⟩ = some (.int .i64 l) := (hb01.cell (p := ⟨b, off + (xs.length - 1), none⟩) hb).trans (HC.out _ _ HL.out)
    have i0 : (0 : Int) ≤ (xs.length : Int) - 1 := by omega
    have i0' : (1 : Int) ≤ (xs.length : Int) := by omega
    go_wp2_with fail
    go_loop [7, 6] (fun t o => ∃ k : Nat, k ≤ xs.length ∧ t = .int .i64 k ∧ o = .int .i64 (shr l xs k)) (fun t _ => xs.length - (intOf t).toNat)
    case atStart => exact ⟨0, by omega, rfl, rfl⟩
    case round =>
      obtain ⟨k, hk, rfl, rfl⟩ := hrel
      obtain ⟨b1, b2⟩ := shr_bd (l := l) (by omega) l2 HALL.out k hk
      by_cases hlt : k < xs.length
      · obtain ⟨x, hxk⟩ : ∃ x, xs[k]? = some x := ⟨_, List.getElem?_eq_getElem hlt⟩
        have c1 : w1.cell? ⟨b, off + k, none⟩ = some (.int .i64 x) := (hb01.cell (p := ⟨b, off + k, none⟩) hb).trans (HC.out k x hxk)
        obtain ⟨x1, x2⟩ := allIn_mem HALL.out hxk
        obtain ⟨q1, q2⟩ := quo_bd (l := l) (by omega) l2 x1
        have HXK := Lib.hid hxk
        clear hxk cl
        have j0 : (0 : Int) ≤ (k : Int) := by omega
        have j1 : (k : Int) < (xs.length : Int) := by omega
        have x0 : (x == 0) = false := by simp; omega
        by_cases hk2 : k % 2 = 0
        · have t1 : ((k : Int) % 2 == 0) = true := by simp; omega
          have HK := Lib.hid hk2
          clear hk2
          go_wp2
          go_round
          case rel => exact ⟨k + 1, by omega, by go_num, val_int (shr_yes HXK.out HK.out).symm⟩
          case measure => simp [intOf]; omega
        · have t1 : ((k : Int) % 2 == 0) = false := by simp; omega
          go_wp2
          go_round
          case rel => exact ⟨k + 1, by omega, by go_num, val_int (shr_no HXK.out hk2).symm⟩
          case measure => simp [intOf]; omega
      · obtain rfl : k = xs.length := by omega
        go_wp2_with fail
        refine (l02Make_any _ _ _ (by omega) (by omega) (by omega) (by omega)).mono ?_
        skip
        rintro e w2 ⟨rfl, hb2⟩
        obtain ⟨hc2, hf2⟩ := bcell hb2
        have hz2 : w.heap.size < w2.heap.size := by have := hb2.size; omega
        have m0' : w2.cell? ⟨w.heap.size, 0, none⟩ = some (.int .i64 0) := (hc2 _ _ hz1).trans m0
        have m1' : w2.cell? ⟨w.heap.size, 1, none⟩ = some (.int .i64 0) := (hc2 _ _ hz1).trans m1
        obtain ⟨s0, s1⟩ := set_two m0' m1'
        go_wp2
        exact bodyPost_ret (v := .tuple #[fracV (qN (shr l xs xs.length) l) (qD (shr l xs xs.length) l), .int .i64 0]) (by simp [results, Try.results43, go_sem, s0, s1]; done) rfl ⟨rfl, ext_set (ext_set (ext_trans hb01 hb2) (Nat.le_refl _) _) (Nat.le_refl _) _⟩
  · have e1 : shareN xs = 0 := by rw [shareN, if_neg h0]
    have e2 : shareD xs = 0 := by rw [shareD, if_neg h0]
    rw [e1, e2]
    clear e1 e2
    have h1 : (divCode true xs != 0) = true := by simpa using h0
    have h2 : (divCode true xs == 0) = false := by simpa using h0
    go_enter Try.func43, Try.ntmps43
    go_wp2_with fail
    refine (l24Divisors_any _ _ xs _ (HX.out _) hm).mono ?_
    rintro e w1 ⟨rfl, hb1⟩
    obtain ⟨hc1, hf1⟩ := bcell hb1
    have hb01 : Below w.heap.size w w1 := ext_trans (ext1 w _) hb1
    have m0 : w1.cell? ⟨w.heap.size, 0, none⟩ = some (.int .i64 0) := (hb1.cell (p := ⟨w.heap.size, 0, none⟩) (by simp)).trans (cell_one _ _ _ _)
    have m1 : w1.cell? ⟨w.heap.size, 1, none⟩ = some (.int .i64 0) := (hb1.cell (p := ⟨w.heap.size, 1, none⟩) (by simp)).trans (cell_one _ _ _ _)
    have hz1 : w.heap.size < w1.heap.size := by have := hb1.size; simp at this; omega
    obtain ⟨s0, s1⟩ := set_two m0 m1
    go_wp2
    exact bodyPost_ret (v := .tuple #[fracV 0 0, .int .i64 (divCode true xs)]) (by simp [results, Try.results43, go_sem, s0, s1]; done) rfl ⟨rfl, ext_set (ext_set hb01 (Nat.le_refl _) _) (Nat.le_refl _) _⟩
end Go.Proofs.Ytdjnblkgeaphmaa
