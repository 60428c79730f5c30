/- TwoGears: both walks. No condition but those that each theorem names. -/
import Derived.Test.YtgnifhegkjmgaaaGearW
namespace Go.Proofs.Ytgnifhegkjmgaaa
open Go.RowKit Go.Sort

/-- The least first wheel, of those that are left. -/
def tgA (n hi : Int) : Nat → Option Int
  | 0 => none
  | k + 1 => if (hi - k) * (hi - k) ≤ n then (if n % (hi - k) = 0 ∧ n / (hi - k) ≤ hi then some (hi - k) else tgA n hi k) else none
def tgN (N D b d : Int) : Int := b * d / D * N
def tgD1 (N D lo hi b d : Int) : Option (List Int) := if b * d % D = 0 then (tgA (tgN N D b d) hi (hi + 1 - lo).toNat).map (fun a => [a, b, tgN N D b d / a, d]) else none
def tgD (N D lo hi b : Int) : Nat → Option (List Int)
  | 0 => none
  | k + 1 => (tgD1 N D lo hi b (hi - k)).or (tgD N D lo hi b k)
def tgB (N D lo hi : Int) : Nat → Option (List Int)
  | 0 => none
  | k + 1 => (tgD N D lo hi (hi - k) (k + 1)).or (tgB N D lo hi k)

theorem left_step {hi a : Int} (h : a ≤ hi) : ∃ k : Nat, (hi + 1 - a).toNat = k + 1 ∧ hi - k = a ∧ (hi + 1 - (a + 1)).toNat = k := ⟨(hi - a).toNat, by omega, by omega, by omega⟩
theorem left_end {hi a : Int} (h : ¬ a ≤ hi) : (hi + 1 - a).toNat = 0 := by omega
theorem tgA_big {n hi a : Int} (h : a ≤ hi) (h2 : ¬ a * a ≤ n) : tgA n hi (hi + 1 - a).toNat = none := by
  obtain ⟨k, e1, e2, _⟩ := left_step h
  rw [e1, tgA, e2, if_neg h2]
theorem tgA_yes {n hi a : Int} (h : a ≤ hi) (h2 : a * a ≤ n) (h3 : n % a = 0) (h4 : n / a ≤ hi) : tgA n hi (hi + 1 - a).toNat = some a := by
  obtain ⟨k, e1, e2, _⟩ := left_step h
  rw [e1, tgA, e2, if_pos h2, if_pos ⟨h3, h4⟩]
theorem tgA_no {n hi a : Int} (h : a ≤ hi) (h2 : a * a ≤ n) (h3 : ¬ (n % a = 0 ∧ n / a ≤ hi)) : tgA n hi (hi + 1 - a).toNat = tgA n hi (hi + 1 - (a + 1)).toNat := by
  obtain ⟨k, e1, e2, e3⟩ := left_step h
  rw [e1, tgA, e2, if_pos h2, if_neg h3, e3]
theorem tgA_end {n hi a : Int} (h : ¬ a ≤ hi) : tgA n hi (hi + 1 - a).toNat = none := by rw [left_end h]; rfl
theorem tgD_step {N D lo hi b d : Int} (h : d ≤ hi) : tgD N D lo hi b (hi + 1 - d).toNat = (tgD1 N D lo hi b d).or (tgD N D lo hi b (hi + 1 - (d + 1)).toNat) := by
  obtain ⟨k, e1, e2, e3⟩ := left_step h
  rw [e1, tgD, e2, e3]
theorem tgD_end {N D lo hi b d : Int} (h : ¬ d ≤ hi) : tgD N D lo hi b (hi + 1 - d).toNat = none := by rw [left_end h]; rfl
theorem tgB_step {N D lo hi b : Int} (h : b ≤ hi) : tgB N D lo hi (hi + 1 - b).toNat = (tgD N D lo hi b (hi + 1 - b).toNat).or (tgB N D lo hi (hi + 1 - (b + 1)).toNat) := by
  obtain ⟨k, e1, e2, e3⟩ := left_step h
  rw [e1, tgB, e2, e3]
theorem tgB_end {N D lo hi b : Int} (h : ¬ b ≤ hi) : tgB N D lo hi (hi + 1 - b).toNat = none := by rw [left_end h]; rfl

theorem mul_rng {x y M K : Int} (x0 : 0 ≤ x) (x1 : x ≤ M) (y0 : 0 ≤ y) (y1 : y ≤ K) : 0 ≤ x * y ∧ x * y ≤ M * K :=
  ⟨Int.mul_nonneg x0 y0, Int.mul_le_mul x1 y1 y0 (by omega)⟩
/-- The tests and the products of both texts. -/
theorem two_test {N D x : Int} (hg : Int.gcd N D = 1) : x * N % D = 0 ↔ x % D = 0 := by
  constructor
  · intro h
    have h1 : D ∣ x * N := Int.dvd_of_emod_eq_zero h
    have hc : Nat.Coprime D.natAbs N.natAbs := by unfold Nat.Coprime; rw [Nat.gcd_comm]; exact hg
    have h2 := Int.natAbs_dvd_natAbs.2 h1
    rw [Int.natAbs_mul] at h2
    exact Int.emod_eq_zero_of_dvd (Int.natAbs_dvd_natAbs.1 (hc.dvd_of_dvd_mul_right h2))
  · intro h
    exact Int.emod_eq_zero_of_dvd (Int.dvd_trans (Int.dvd_of_emod_eq_zero h) (Int.dvd_mul_right _ _))
theorem two_quo {N D x : Int} (h : x % D = 0) : x * N / D = x / D * N := by
  rw [Int.mul_comm x N, Int.mul_ediv_assoc _ (Int.dvd_of_emod_eq_zero h), Int.mul_comm]

def twoCode (R : Option (List Int)) : Int := if R.isSome = true then 0 else 3
def twoList (R : Option (List Int)) : List Int := R.getD []
/-- What TwoGears returns. -/
def twoF (lo hi : Int) : Bool := inR lo 1 1000 && inR hi lo 1000 && decide (hi ≤ 120)
def twoX (n d lo hi : Int) : List Int := if gearC n d (twoF lo hi) = 0 then twoList (tgB n d lo hi (hi + 1 - lo).toNat) else []
def twoC (n d lo hi : Int) : Int := if gearC n d (twoF lo hi) = 0 then twoCode (tgB n d lo hi (hi + 1 - lo).toNat) else gearC n d (twoF lo hi)

theorem ret_none (w w' : World) (code : Int) (h : Below w.heap.size w w') : RetInts w [] code (.returned (.tuple #[.slice none 0 0, .int .i64 code])) w' := ⟨none, 0, rfl, fun h => absurd h (by simp), h⟩
theorem ret_four {w W : World} {T : TypeId} {a b c d : Int} (h : Below w.heap.size w W) :
    RetInts w [a, b, c, d] 0 (.returned (.tuple #[.slice (some ⟨W.heap.size, 0, none⟩) 4 4, .int .i64 0])) (W.alloc (.cells #[.int .i64 a, .int .i64 b, .int .i64 c, .int .i64 d] T)) :=
  ⟨_, _, rfl, fun _ => ⟨W.heap.size, 0, rfl, h.size, by simp, fun j x hx => by
    rw [Nat.zero_add, cell_one, ← Array.getElem?_toList]
    rcases j with _ | _ | _ | _ | j <;> simp at hx ⊢ <;> rw [hx], fun j => World.frozen?_alloc_at _ _ _ _ rfl⟩, ext_alloc h _⟩
set_option maxHeartbeats 4000000 in
/-- The loops. -/
theorem iTwoGears_any_good (N D lo hi : Int) (w : World) (h0 : gearC N D (twoF lo hi) = 0) (R : Option (List Int)) (hR : tgB N D lo hi (hi + 1 - lo).toNat = R) :
    Calls Try.prog 18 #[fracV N D, .int .i64 lo, .int .i64 hi] w (RetInts w (twoList R) (twoCode R)) := by
  obtain ⟨hf, hr, ht⟩ := gearC_zero.1 h0
  obtain ⟨D1, _, _, _, hg⟩ := fracOk_true.1 hf
  obtain ⟨N1, N2, D2⟩ := ratioB_true.1 hr
  have ht' : (inR lo 1 1000 = true ∧ inR hi lo 1000 = true) ∧ hi ≤ 120 := by unfold twoF at ht; simpa using ht
  obtain ⟨⟨ha, hb⟩, t1⟩ := ht'
  obtain ⟨lo1, lo2⟩ := inR_true.1 ha
  obtain ⟨hi1, hi2⟩ := inR_true.1 hb
  have HG := Lib.hid hg
  have HR := Lib.hid hR
  have d3 : decide (hi ≤ 120) = true := by simp; omega
  have G0 : gearC N D true = 0 := gearC_zero.2 ⟨hf, hr, rfl⟩
  have G1 : gearC N D (inR lo 1 1000 && inR hi lo 1000) = 0 := gearC_zero.2 ⟨hf, hr, by rw [ha, hb]; rfl⟩
  have HG0 := Lib.hid G0
  have HG1 := Lib.hid G1
  have HA := Lib.hid ha
  have HB := Lib.hid hb
  clear G0 G1 ha hb ht hr hf hg hR h0
  unfold fracV
  go_enter Try.func18, Try.ntmps18
  go_wp2_with fail
  obtain ⟨W, hW⟩ : ∃ W, W = w.alloc (.cells #[.int .i64 N, .int .i64 D] 25) := ⟨_, rfl⟩
  rw [← hW]
  have hb0 : Below w.heap.size w W := by rw [hW]; exact ext1 _ _
  have c0 : ∀ d' os, (grow (redrawn W d') os).cell? ⟨w.heap.size, 0, none⟩ = some (.int .i64 N) := cell_regrown (by rw [hW, cell_one]; rfl)
  have c1 : ∀ d' os, (grow (redrawn W d') os).cell? ⟨w.heap.size, 1, none⟩ = some (.int .i64 D) := cell_regrown (by rw [hW, cell_one]; rfl)
  have HW := Lib.hid hW
  clear hW
  go_wp2_with fail
  refine wp_region_quiet_below (by kernel_rfl) (by kernel_rfl) ?_
  repeat (first | go_big_quiet_step ((first | (with_reducible exact regrown_same (within_is HA.out _)) | (with_reducible exact regrown_same (within_is HB.out _)) | (with_reducible exact Calls.regrown_of (checkGear_is HG0.out _)))) | quiet_step ((first | (with_reducible exact regrown_same (within_is HA.out _)) | (with_reducible exact regrown_same (within_is HB.out _)) | (with_reducible exact Calls.regrown_of (checkGear_is HG0.out _)))))
  refine wpQuiet_nil ?_
  intro _ hw'
  obtain ⟨⟨dq, oq⟩, hw''⟩ := hw'
  subst hw''
  obtain ⟨w1, hw1, hb1⟩ : ∃ w1, w1 = grow (redrawn W dq) oq ∧ Below (w.alloc (.cells #[.int .i64 N, .int .i64 D] 25)).heap.size (w.alloc (.cells #[.int .i64 N, .int .i64 D] 25)) w1 := ⟨_, rfl, by rw [← HW.out]; exact below_regrown W dq oq⟩
  rw [← hw1]
  clear hw1 c0 c1
  obtain ⟨hc1, hf1⟩ := bcell hb1
  have hz1 : w.heap.size < w1.heap.size := by have := hb1.size; simp at this; omega
  have k0 : w1.cell? ⟨w.heap.size, 0, none⟩ = some (.int .i64 N) := (hb1.cell (p := ⟨w.heap.size, 0, none⟩) (by simp)).trans (cell_one _ _ _ _)
  have k1 : w1.cell? ⟨w.heap.size, 1, none⟩ = some (.int .i64 D) := (hb1.cell (p := ⟨w.heap.size, 1, none⟩) (by simp)).trans (cell_one _ _ _ _)
  have B1 : Below w.heap.size w w1 := ext_trans (ext1 _ _) hb1
  clear hc1 hf1 hb1
  go_wp2_with fail
  go_loopw [9] (fun t wr => ∃ b, lo ≤ b ∧ b ≤ hi + 1 ∧ t = .int .i64 b ∧ Hid (tgB N D lo hi (hi + 1 - b).toNat = R) ∧ ∃ m, wr = w1.drewN m) (fun t _ => (hi + 1 - intOf t).toNat)
  case atStart => exact ⟨lo, by omega, by omega, rfl, HR.out, 0, rfl⟩
  case round =>
    obtain ⟨b, hb1, hb2, rfl, HBR, m, rfl⟩ := hrel
    by_cases hlt : b ≤ hi
    · have HB2 : Hid ((tgD N D lo hi b (hi + 1 - b).toNat).or (tgB N D lo hi (hi + 1 - (b + 1)).toNat) = R) := (tgB_step hlt).symm.trans HBR.out
      clear HBR HR
      go_wp2_with fail
      go_loopw [10] (fun t wr => ∃ d, b ≤ d ∧ d ≤ hi + 1 ∧ t = .int .i64 d ∧ Hid ((tgD N D lo hi b (hi + 1 - d).toNat).or (tgB N D lo hi (hi + 1 - (b + 1)).toNat) = R) ∧ ∃ m, wr = w1.drewN m) (fun t _ => (hi + 1 - intOf t).toNat)
      case atStart => exact ⟨b, by omega, by omega, rfl, HB2.out, m, rfl⟩
      case round =>
        obtain ⟨d, hd1, hd2, rfl, HDR, m', rfl⟩ := hrel
        clear HB2
        by_cases hdl : d ≤ hi
        · have HD2 : Hid (((tgD1 N D lo hi b d).or (tgD N D lo hi b (hi + 1 - (d + 1)).toNat)).or (tgB N D lo hi (hi + 1 - (b + 1)).toNat) = R) := by
            have h := HDR.out
            rw [tgD_step hdl] at h
            exact h
          clear HDR
          obtain ⟨p1, p2⟩ := mul_rng (x := b) (y := d) (M := 120) (K := 120) (by omega) (by omega) (by omega) (by omega)
          obtain ⟨p3, p4⟩ := mul_rng (x := b * d) (y := N) (M := 14400) (K := 1000000) p1 (by omega) (by omega) (by omega)
          have D0 : (D == 0) = false := by simp; omega
          by_cases hdiv : b * d % D = 0
          · have e1 : (b * d * N % D != 0) = false := by simpa using (two_test HG.out).2 hdiv
            have e2 : (b * d % D != 0) = false := by simpa using hdiv
            have HD3 : Hid ((((tgA (tgN N D b d) hi (hi + 1 - lo).toNat).map (fun a => [a, b, tgN N D b d / a, d])).or (tgD N D lo hi b (hi + 1 - (d + 1)).toNat)).or (tgB N D lo hi (hi + 1 - (b + 1)).toNat) = R) := by
              have h := HD2.out
              rw [tgD1, if_pos hdiv] at h
              exact h
            have q1 : 0 ≤ b * d / D ∧ b * d / D ≤ 14400 := ⟨Int.ediv_nonneg p1 (by omega), Int.le_trans (Int.ediv_le_self D p1) (by omega)⟩
            obtain ⟨q1, q2⟩ := q1
            obtain ⟨q3, q4⟩ := mul_rng (x := b * d / D) (y := N) (M := 14400) (K := 1000000) q1 (by omega) (by omega) (by omega)
            have en1 : b * d * N / D = tgN N D b d := two_quo hdiv
            have en2 : b * d / D * N = tgN N D b d := rfl
            have en3 : (b * d * N).tdiv D = tgN N D b d := by rw [Int.tdiv_eq_ediv_of_nonneg p3]; exact en1
            rw [en2] at q3 q4
            generalize tgN N D b d = n at *
            clear HD2 hdiv
            go_wp2_with fail
            skip
            clear e1 e2 en1 en2 en3 p1 p2 p3 p4 q1 q2
            go_loopw [12] (fun t wr => ∃ a, lo ≤ a ∧ a ≤ hi + 1 ∧ t = .int .i64 a ∧ Hid ((((tgA n hi (hi + 1 - a).toNat).map (fun a => [a, b, n / a, d])).or (tgD N D lo hi b (hi + 1 - (d + 1)).toNat)).or (tgB N D lo hi (hi + 1 - (b + 1)).toNat) = R) ∧ ∃ m, wr = w1.drewN m) (fun t _ => (hi + 1 - intOf t).toNat)
            case atStart => exact ⟨lo, by omega, by omega, rfl, HD3.out, by first | exact ⟨_, rfl⟩ | exact ⟨_, World.drewN_drewN _ _ _⟩⟩
            case round =>
              obtain ⟨a, ha1, ha2, rfl, HAR, m'', rfl⟩ := hrel
              clear HD3
              by_cases hal : a ≤ hi
              · obtain ⟨s1, s2⟩ := mul_rng (x := a) (y := a) (M := 120) (K := 120) (by omega) (by omega) (by omega) (by omega)
                by_cases hsq : a * a ≤ n
                · have a0 : (a == 0) = false := by simp; omega
                  obtain ⟨q5, q6⟩ : 0 ≤ n / a ∧ n / a ≤ 14400000000 := ⟨Int.ediv_nonneg q3 (by omega), Int.le_trans (Int.ediv_le_self a q3) (by omega)⟩
                  by_cases hm : n % a = 0
                  · have e3 : (n % a == 0) = true := by simpa using hm
                    by_cases hle : n / a ≤ hi
                    · have HF : Hid (R = some [a, b, n / a, d]) := by
                        have h := HAR.out
                        rw [tgA_yes hal hsq hm hle] at h
                        exact h.symm
                      clear HAR hm
                      go_wp2
                      go_ret2
                      rw [HF.out]
                      exact ret_four (show Below w.heap.size w (w1.drewN m'') from B1.trans ⟨rfl, rfl, rfl, Nat.le_refl _, fun _ _ => rfl⟩)
                    · have HN := Lib.hid (tgA_no hal hsq (fun h => hle h.2))
                      clear hm
                      go_wp2
                      go_roundw
                      case rel => exact ⟨a + 1, by omega, by omega, rfl, by have h := HAR.out; rw [HN.out] at h; exact h, _, rfl⟩
                      case measure => simp [intOf]; omega
                  · have e3 : (n % a == 0) = false := by simpa using hm
                    have HN := Lib.hid (tgA_no hal hsq (fun h => hm h.1))
                    go_wp2
                    go_roundw
                    case rel => exact ⟨a + 1, by omega, by omega, rfl, by have h := HAR.out; rw [HN.out] at h; exact h, _, rfl⟩
                    case measure => simp [intOf]; omega
                · have HN := Lib.hid (tgA_big hal hsq)
                  go_wp2
                  go_roundw
                  case rel => exact ⟨d + 1, by omega, by omega, rfl, by have h := HAR.out; rw [HN.out] at h; exact h, _, rfl⟩
                  case measure => simp [intOf]; omega
              · have HN := Lib.hid (tgA_end (n := n) hal)
                go_wp2
                go_roundw
                case rel => exact ⟨d + 1, by omega, by omega, rfl, by have h := HAR.out; rw [HN.out] at h; exact h, _, rfl⟩
                case measure => simp [intOf]; omega
          · have e1 : (b * d * N % D != 0) = true := by simpa using mt (two_test HG.out).1 hdiv
            have e2 : (b * d % D != 0) = true := by simpa using hdiv
            go_wp2
            go_roundw
            case rel => exact ⟨d + 1, by omega, by omega, rfl, by have h := HD2.out; rw [tgD1, if_neg hdiv] at h; exact h, _, rfl⟩
            case measure => simp [intOf]; omega
        · go_wp2
          go_roundw
          case rel => exact ⟨b + 1, by omega, by omega, rfl, by have h := HDR.out; rw [tgD_end hdl] at h; exact h, _, rfl⟩
          case measure => simp [intOf]; omega
    · have HF : Hid (R = none) := HBR.out.symm.trans (tgB_end hlt)
      go_wp2
      go_ret2
      rw [HF.out]
      exact ret_none w _ 3 (show Below w.heap.size w (w1.drewN m) from B1.trans ⟨rfl, rfl, rfl, Nat.le_refl _, fun _ _ => rfl⟩)
set_option maxHeartbeats 4000000 in
/-- The loops. -/
theorem sTwoGears_any_good (N D lo hi : Int) (w : World) (h0 : gearC N D (twoF lo hi) = 0) (R : Option (List Int)) (hR : tgB N D lo hi (hi + 1 - lo).toNat = R) :
    Calls Try.prog 19 #[fracV N D, .int .i64 lo, .int .i64 hi] w (RetInts w (twoList R) (twoCode R)) := by
  obtain ⟨hf, hr, ht⟩ := gearC_zero.1 h0
  obtain ⟨D1, _, _, _, hg⟩ := fracOk_true.1 hf
  obtain ⟨N1, N2, D2⟩ := ratioB_true.1 hr
  have ht' : (inR lo 1 1000 = true ∧ inR hi lo 1000 = true) ∧ hi ≤ 120 := by unfold twoF at ht; simpa using ht
  obtain ⟨⟨ha, hb⟩, t1⟩ := ht'
  obtain ⟨lo1, lo2⟩ := inR_true.1 ha
  obtain ⟨hi1, hi2⟩ := inR_true.1 hb
  have HG := Lib.hid hg
  have HR := Lib.hid hR
  have d3 : decide (hi ≤ 120) = true := by simp; omega
  have G0 : gearC N D true = 0 := gearC_zero.2 ⟨hf, hr, rfl⟩
  have G1 : gearC N D (inR lo 1 1000 && inR hi lo 1000) = 0 := gearC_zero.2 ⟨hf, hr, by rw [ha, hb]; rfl⟩
  have HG0 := Lib.hid G0
  have HG1 := Lib.hid G1
  have HA := Lib.hid ha
  have HB := Lib.hid hb
  clear G0 G1 ha hb ht hr hf hg hR h0
  unfold fracV
  go_enter Try.func19, Try.ntmps19
  go_wp2_with fail
  refine (l25Wheels_any N D lo hi _).mono ?_
  rw [HG1.out]
  rintro e w1 ⟨rfl, hb1⟩
  obtain ⟨hc1, hf1⟩ := bcell hb1
  have hz1 : w.heap.size < w1.heap.size := by have := hb1.size; simp at this; omega
  have k0 : w1.cell? ⟨w.heap.size, 0, none⟩ = some (.int .i64 N) := (hb1.cell (p := ⟨w.heap.size, 0, none⟩) (by simp)).trans (cell_one _ _ _ _)
  have k1 : w1.cell? ⟨w.heap.size, 1, none⟩ = some (.int .i64 D) := (hb1.cell (p := ⟨w.heap.size, 1, none⟩) (by simp)).trans (cell_one _ _ _ _)
  have B1 : Below w.heap.size w w1 := ext_trans (ext1 _ _) hb1
  clear hc1 hf1 hb1
  go_wp2_with fail
  go_loopw [9] (fun t wr => ∃ b, lo ≤ b ∧ b ≤ hi + 1 ∧ t = .int .i64 b ∧ Hid (tgB N D lo hi (hi + 1 - b).toNat = R) ∧ ∃ m, wr = w1.drewN m) (fun t _ => (hi + 1 - intOf t).toNat)
  case atStart => exact ⟨lo, by omega, by omega, rfl, HR.out, 0, rfl⟩
  case round =>
    obtain ⟨b, hb1, hb2, rfl, HBR, m, rfl⟩ := hrel
    by_cases hlt : b ≤ hi
    · have HB2 : Hid ((tgD N D lo hi b (hi + 1 - b).toNat).or (tgB N D lo hi (hi + 1 - (b + 1)).toNat) = R) := (tgB_step hlt).symm.trans HBR.out
      clear HBR HR
      go_wp2_with fail
      go_loopw [10] (fun t wr => ∃ d, b ≤ d ∧ d ≤ hi + 1 ∧ t = .int .i64 d ∧ Hid ((tgD N D lo hi b (hi + 1 - d).toNat).or (tgB N D lo hi (hi + 1 - (b + 1)).toNat) = R) ∧ ∃ m, wr = w1.drewN m) (fun t _ => (hi + 1 - intOf t).toNat)
      case atStart => exact ⟨b, by omega, by omega, rfl, HB2.out, m, rfl⟩
      case round =>
        obtain ⟨d, hd1, hd2, rfl, HDR, m', rfl⟩ := hrel
        clear HB2
        by_cases hdl : d ≤ hi
        · have HD2 : Hid (((tgD1 N D lo hi b d).or (tgD N D lo hi b (hi + 1 - (d + 1)).toNat)).or (tgB N D lo hi (hi + 1 - (b + 1)).toNat) = R) := by
            have h := HDR.out
            rw [tgD_step hdl] at h
            exact h
          clear HDR
          obtain ⟨p1, p2⟩ := mul_rng (x := b) (y := d) (M := 120) (K := 120) (by omega) (by omega) (by omega) (by omega)
          obtain ⟨p3, p4⟩ := mul_rng (x := b * d) (y := N) (M := 14400) (K := 1000000) p1 (by omega) (by omega) (by omega)
          have D0 : (D == 0) = false := by simp; omega
          by_cases hdiv : b * d % D = 0
          · have e1 : (b * d * N % D != 0) = false := by simpa using (two_test HG.out).2 hdiv
            have e2 : (b * d % D != 0) = false := by simpa using hdiv
            have HD3 : Hid ((((tgA (tgN N D b d) hi (hi + 1 - lo).toNat).map (fun a => [a, b, tgN N D b d / a, d])).or (tgD N D lo hi b (hi + 1 - (d + 1)).toNat)).or (tgB N D lo hi (hi + 1 - (b + 1)).toNat) = R) := by
              have h := HD2.out
              rw [tgD1, if_pos hdiv] at h
              exact h
            have q1 : 0 ≤ b * d / D ∧ b * d / D ≤ 14400 := ⟨Int.ediv_nonneg p1 (by omega), Int.le_trans (Int.ediv_le_self D p1) (by omega)⟩
            obtain ⟨q1, q2⟩ := q1
            obtain ⟨q3, q4⟩ := mul_rng (x := b * d / D) (y := N) (M := 14400) (K := 1000000) q1 (by omega) (by omega) (by omega)
            have en1 : b * d * N / D = tgN N D b d := two_quo hdiv
            have en2 : b * d / D * N = tgN N D b d := rfl
            have en3 : (b * d * N).tdiv D = tgN N D b d := by rw [Int.tdiv_eq_ediv_of_nonneg p3]; exact en1
            rw [en2] at q3 q4
            generalize tgN N D b d = n at *
            clear HD2 hdiv
            go_wp2_with fail
            (go_quiet (fail); go_wp2_with fail)
            clear e1 e2 en1 en2 en3 p1 p2 p3 p4 q1 q2
            go_loopw [12] (fun t wr => ∃ a, lo ≤ a ∧ a ≤ hi + 1 ∧ t = .int .i64 a ∧ Hid ((((tgA n hi (hi + 1 - a).toNat).map (fun a => [a, b, n / a, d])).or (tgD N D lo hi b (hi + 1 - (d + 1)).toNat)).or (tgB N D lo hi (hi + 1 - (b + 1)).toNat) = R) ∧ ∃ m, wr = w1.drewN m) (fun t _ => (hi + 1 - intOf t).toNat)
            case atStart => exact ⟨lo, by omega, by omega, rfl, HD3.out, by first | exact ⟨_, rfl⟩ | exact ⟨_, World.drewN_drewN _ _ _⟩⟩
            case round =>
              obtain ⟨a, ha1, ha2, rfl, HAR, m'', rfl⟩ := hrel
              clear HD3
              by_cases hal : a ≤ hi
              · obtain ⟨s1, s2⟩ := mul_rng (x := a) (y := a) (M := 120) (K := 120) (by omega) (by omega) (by omega) (by omega)
                by_cases hsq : a * a ≤ n
                · have a0 : (a == 0) = false := by simp; omega
                  obtain ⟨q5, q6⟩ : 0 ≤ n / a ∧ n / a ≤ 14400000000 := ⟨Int.ediv_nonneg q3 (by omega), Int.le_trans (Int.ediv_le_self a q3) (by omega)⟩
                  by_cases hm : n % a = 0
                  · have e3 : (n % a == 0) = true := by simpa using hm
                    by_cases hle : n / a ≤ hi
                    · have HF : Hid (R = some [a, b, n / a, d]) := by
                        have h := HAR.out
                        rw [tgA_yes hal hsq hm hle] at h
                        exact h.symm
                      clear HAR hm
                      go_wp2
                      go_ret2
                      rw [HF.out]
                      exact ret_four (show Below w.heap.size w (w1.drewN m'') from B1.trans ⟨rfl, rfl, rfl, Nat.le_refl _, fun _ _ => rfl⟩)
                    · have HN := Lib.hid (tgA_no hal hsq (fun h => hle h.2))
                      clear hm
                      go_wp2
                      go_roundw
                      case rel => exact ⟨a + 1, by omega, by omega, rfl, by have h := HAR.out; rw [HN.out] at h; exact h, _, rfl⟩
                      case measure => simp [intOf]; omega
                  · have e3 : (n % a == 0) = false := by simpa using hm
                    have HN := Lib.hid (tgA_no hal hsq (fun h => hm h.1))
                    go_wp2
                    go_roundw
                    case rel => exact ⟨a + 1, by omega, by omega, rfl, by have h := HAR.out; rw [HN.out] at h; exact h, _, rfl⟩
                    case measure => simp [intOf]; omega
                · have HN := Lib.hid (tgA_big hal hsq)
                  go_wp2
                  go_roundw
                  case rel => exact ⟨d + 1, by omega, by omega, rfl, by have h := HAR.out; rw [HN.out] at h; exact h, _, rfl⟩
                  case measure => simp [intOf]; omega
              · have HN := Lib.hid (tgA_end (n := n) hal)
                go_wp2
                go_roundw
                case rel => exact ⟨d + 1, by omega, by omega, rfl, by have h := HAR.out; rw [HN.out] at h; exact h, _, rfl⟩
                case measure => simp [intOf]; omega
          · have e1 : (b * d * N % D != 0) = true := by simpa using mt (two_test HG.out).1 hdiv
            have e2 : (b * d % D != 0) = true := by simpa using hdiv
            go_wp2
            go_roundw
            case rel => exact ⟨d + 1, by omega, by omega, rfl, by have h := HD2.out; rw [tgD1, if_neg hdiv] at h; exact h, _, rfl⟩
            case measure => simp [intOf]; omega
        · go_wp2
          go_roundw
          case rel => exact ⟨b + 1, by omega, by omega, rfl, by have h := HDR.out; rw [tgD_end hdl] at h; exact h, _, rfl⟩
          case measure => simp [intOf]; omega
    · have HF : Hid (R = none) := HBR.out.symm.trans (tgB_end hlt)
      go_wp2
      go_ret2
      rw [HF.out]
      exact ret_none w _ 3 (show Below w.heap.size w (w1.drewN m) from B1.trans ⟨rfl, rfl, rfl, Nat.le_refl _, fun _ _ => rfl⟩)
theorem tgD1_length {N D lo hi b d : Int} {r : List Int} (h : tgD1 N D lo hi b d = some r) : r.length = 4 := by
  unfold tgD1 at h
  split at h
  · rw [Option.map_eq_some_iff] at h
    obtain ⟨a, _, rfl⟩ := h
    rfl
  · cases h
theorem tgD_length {N D lo hi b : Int} {r : List Int} : ∀ {k : Nat}, tgD N D lo hi b k = some r → r.length = 4
  | 0, h => by cases h
  | k + 1, h => by
    rw [tgD] at h
    cases h1 : tgD1 N D lo hi b (hi - k)
    · rw [h1, Option.none_or] at h; exact tgD_length h
    · rw [h1, Option.some_or] at h; injection h with h; subst h; exact tgD1_length h1
theorem tgB_length {N D lo hi : Int} {r : List Int} : ∀ {k : Nat}, tgB N D lo hi k = some r → r.length = 4
  | 0, h => by cases h
  | k + 1, h => by
    rw [tgB] at h
    cases h1 : tgD N D lo hi (hi - k) (k + 1)
    · rw [h1, Option.none_or] at h; exact tgB_length h
    · rw [h1, Option.some_or] at h; injection h with h; subst h; exact tgD_length h1
theorem twoX_length (n d lo hi : Int) : (twoX n d lo hi).length ≤ 1000000000000000 := by
  unfold twoX
  split
  · cases h : tgB n d lo hi (hi + 1 - lo).toNat
    · simp [twoList]
    · have := tgB_length h
      simp [twoList, this]
  · simp

theorem gearC_ne {n d : Int} {f : Bool} (h : ¬ gearC n d f = 0) : 1 ≤ gearC n d f := by
  revert h
  unfold gearC
  cases fracOk n d <;> cases ratioB n d <;> cases f <;> simp

set_option maxHeartbeats 1000000 in
theorem iTwoGears_any (N D lo hi : Int) (w : World) :
    Calls Try.prog 18 #[fracV N D, .int .i64 lo, .int .i64 hi] w (RetInts w (twoX N D lo hi) (twoC N D lo hi)) := by
  by_cases h0 : gearC N D (twoF lo hi) = 0
  · have := iTwoGears_any_good N D lo hi w h0 _ rfl
    unfold twoX twoC
    rw [if_pos h0, if_pos h0]
    exact this
  · have e1 : twoX N D lo hi = [] := by rw [twoX, if_neg h0]
    have e2 : twoC N D lo hi = gearC N D (twoF lo hi) := by rw [twoC, if_neg h0]
    have h1 := gearC_ne h0
    rw [e1, e2]
    have HG : Hid (∀ W, Calls Try.prog 76 #[fracV N D, .bool (twoF lo hi)] W fun e w' => e = .returned (.int .i64 (gearC N D (twoF lo hi))) ∧ Below W.heap.size W w') := fun W => checkGear_any N D _ W
    generalize gearC N D (twoF lo hi) = v at *
    have v1 : (v != 0) = true := by simpa using h0
    have v2 : (v == 0) = false := by simpa using h0
    clear e1 e2 h0
    have hF : (inR lo 1 1000 = false ∧ twoF lo hi = false) ∨ (inR lo 1 1000 = true ∧ inR hi lo 1000 = false ∧ twoF lo hi = false) ∨ (inR lo 1 1000 = true ∧ inR hi lo 1000 = true ∧ twoF lo hi = decide (hi ≤ 120)) := by
      unfold twoF
      cases inR lo 1 1000 <;> cases inR hi lo 1000 <;> simp
    have HFR := Lib.hid hF
    clear hF
    rcases HFR.out with ⟨ha, hb⟩ | ⟨ha, hb, hc⟩ | ⟨ha, hb, hc⟩
    all_goals
      (first | rw [hb] at HG | rw [hc] at HG)
      have HA := Lib.hid ha
      have HB := Lib.hid hb
      clear ha hb
      (try clear hc)
      unfold fracV at *
      go_enter Try.func18, Try.ntmps18
      go_wp2_with fail
      obtain ⟨W, hW⟩ : ∃ W, W = w.alloc (.cells #[.int .i64 N, .int .i64 D] 25) := ⟨_, rfl⟩
      rw [← hW]
      have hb0 : Below w.heap.size w W := by rw [hW]; exact ext1 _ _
      have c0 : ∀ d' os, (grow (redrawn W d') os).cell? ⟨w.heap.size, 0, none⟩ = some (.int .i64 N) := cell_regrown (by rw [hW, cell_one]; rfl)
      have c1 : ∀ d' os, (grow (redrawn W d') os).cell? ⟨w.heap.size, 1, none⟩ = some (.int .i64 D) := cell_regrown (by rw [hW, cell_one]; rfl)
      clear hW
      refine wp_region_quiet_below (by kernel_rfl) (by kernel_rfl) ?_
      repeat (first | go_big_quiet_step ((first | (with_reducible exact regrown_same (within_is HA.out _)) | (with_reducible exact regrown_same (within_is HB.out _)) | (with_reducible exact Calls.regrown_of (HG.out _)))) | quiet_step ((first | (with_reducible exact regrown_same (within_is HA.out _)) | (with_reducible exact regrown_same (within_is HB.out _)) | (with_reducible exact Calls.regrown_of (HG.out _)))))
      refine wpQuiet_nil ?_
      intro _ hw'
      obtain ⟨⟨dq, oq⟩, hw''⟩ := hw'
      subst hw''
      go_wp2
      go_ret2
      exact ret_none w _ v (ext_trans hb0 (below_regrown W dq oq))

set_option maxHeartbeats 1000000 in
theorem sTwoGears_any (N D lo hi : Int) (w : World) :
    Calls Try.prog 19 #[fracV N D, .int .i64 lo, .int .i64 hi] w (RetInts w (twoX N D lo hi) (twoC N D lo hi)) := by
  by_cases h0 : gearC N D (twoF lo hi) = 0
  · have := sTwoGears_any_good N D lo hi w h0 _ rfl
    unfold twoX twoC
    rw [if_pos h0, if_pos h0]
    exact this
  · have e1 : twoX N D lo hi = [] := by rw [twoX, if_neg h0]
    have e2 : twoC N D lo hi = gearC N D (twoF lo hi) := by rw [twoC, if_neg h0]
    rw [e1, e2]
    clear e1 e2
    by_cases h1 : gearC N D (inR lo 1 1000 && inR hi lo 1000) = 0
    · obtain ⟨hf, hr, _⟩ := gearC_zero.1 h1
      have h2 : ¬ hi ≤ 120 := fun ht => h0 (gearC_zero.2 ⟨hf, hr, by
        have := (gearC_zero.1 h1).2.2
        unfold twoF
        rw [this, decide_eq_true ht]; rfl⟩)
      have e3 : gearC N D (twoF lo hi) = 2 := gearC_bad hf (.inr (by unfold twoF; rw [decide_eq_false h2, Bool.and_false]))
      rw [e3]
      have H1 := Lib.hid h1
      clear e3 h0 h1 hf hr
      unfold fracV
      go_enter Try.func19, Try.ntmps19
      go_wp2_with fail
      refine (l25Wheels_any N D lo hi _).mono ?_
      rw [H1.out]
      rintro e w1 ⟨rfl, hb1⟩
      go_wp2
      go_ret2
      exact ret_none w _ 2 (ext_trans (ext1 _ _) hb1)
    · have e3 : gearC N D (twoF lo hi) = gearC N D (inR lo 1 1000 && inR hi lo 1000) := by
        unfold twoF
        by_cases ht : hi ≤ 120
        · simp [ht]
        · cases hx : (inR lo 1 1000 && inR hi lo 1000)
          · simp
          · rw [hx] at h1
            rw [decide_eq_false ht]
            unfold gearC at h1 ⊢
            cases hf : fracOk N D <;> cases hr : ratioB N D <;> simp_all
      rw [e3]
      have H1 := Lib.hid (l25Wheels_any N D lo hi)
      generalize gearC N D (inR lo 1 1000 && inR hi lo 1000) = v at *
      have v1 : (v != 0) = true := by simpa using h1
      have v2 : (v == 0) = false := by simpa using h1
      clear e3 h0 h1
      unfold fracV at *
      go_enter Try.func19, Try.ntmps19
      go_wp2_with fail
      refine (H1.out _).mono ?_
      rintro e w1 ⟨rfl, hb1⟩
      go_wp2
      go_ret2
      exact ret_none w _ v (ext_trans (ext1 _ _) hb1)
end Go.Proofs.Ytgnifhegkjmgaaa
