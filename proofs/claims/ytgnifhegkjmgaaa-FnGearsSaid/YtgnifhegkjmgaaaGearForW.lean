/- GearFor: both walks. No condition but those that each theorem names. -/
import Derived.Test.YtgnifhegkjmgaaaMinW
import Derived.Test.YtgnifhegkjmgaaaGearW
import Derived.Test.YtgnifhegkjmgaaaErrW
import Derived.Test.YtgnifhegkjmgaaaDriftW
import Derived.Deep.DeepCutAuto
namespace Go.Proofs.Ytgnifhegkjmgaaa
open Go.RowKit Go.Sort

/-- A candidate is nearer than what is held. -/
def nearB (N D : Int) (x s : Int × Int) : Bool := decide (errV N D x.1 x.2 * s.2 < errV N D s.1 s.2 * x.2)
/-- The program's step: 0/0 is nothing. -/
def gStep (N D : Int) (s x : Int × Int) : Int × Int := if s.2 = 0 then x else if nearB N D x s = true then x else s
def sStep (N D : Int) (s x : Int × Int) : Int × Int := if nearB N D x s = true then x else s
def cl (lo hi a : Int) : Int := min (max a lo) hi
def gI (N D lo hi : Int) : Nat → Int × Int
  | 0 => (0, 0)
  | k + 1 => gStep N D (gStep N D (gI N D lo hi k) (cl lo hi (N * (lo + k) / D), lo + k)) (cl lo hi (N * (lo + k) / D + 1), lo + k)
def gL (N D lo hi b : Int) : Int := max lo (min hi (N * b / D))
def gS1 (N D lo hi b : Int) (s : Int × Int) : Int × Int := sStep N D s (gL N D lo hi b, b)
def gS2 (N D lo hi b : Int) (s : Int × Int) : Int × Int := if gL N D lo hi b + 1 ≤ hi then sStep N D (gS1 N D lo hi b s) (gL N D lo hi b + 1, b) else gS1 N D lo hi b s
def gS (N D lo hi : Int) : Nat → Int × Int
  | 0 => (lo, lo)
  | k + 1 => gS2 N D lo hi (lo + k) (gS N D lo hi k)

section
variable {N D lo hi : Int}
theorem step_snd {s x : Int × Int} (hs : 0 < s.2) : gStep N D s x = sStep N D s x := by
  unfold gStep sStep; rw [if_neg (by omega)]
theorem sStep_den {s x : Int × Int} (hs : 0 < s.2) (hx : 0 < x.2) : 0 < (sStep N D s x).2 := by
  unfold sStep; split <;> assumption
/-- Behind a step nothing is farther than the candidate. -/
theorem sStep_le {s x : Int × Int} : errV N D (sStep N D s x).1 (sStep N D s x).2 * x.2 ≤ errV N D x.1 x.2 * (sStep N D s x).2 := by
  unfold sStep
  split
  · exact Int.le_refl _
  · rename_i h
    have h : ¬ (errV N D x.1 x.2 * s.2 < errV N D s.1 s.2 * x.2) := by simpa [nearB] using h
    omega
theorem cl_eq (h : lo ≤ hi) (b : Int) : cl lo hi (N * b / D) = gL N D lo hi b := by unfold cl gL; omega
theorem not_near {s x : Int × Int} (h : errV N D s.1 s.2 * x.2 ≤ errV N D x.1 x.2 * s.2) : sStep N D s x = s := by
  unfold sStep
  rw [if_neg]
  simp only [nearB, decide_eq_true_eq]
  omega
/-- The second candidate: both texts hold the same. -/
theorem second (hD : 1 ≤ D) (h : lo ≤ hi) {b : Int} {s : Int × Int} (hs : 0 < s.2) (hle : errV N D s.1 s.2 * b ≤ errV N D (gL N D lo hi b) b * s.2) :
    gStep N D s (cl lo hi (N * b / D + 1), b) = if gL N D lo hi b + 1 ≤ hi then sStep N D s (gL N D lo hi b + 1, b) else s := by
  rw [step_snd hs]
  have hq1 := Int.mul_ediv_add_emod (N * b) D
  have hq2 := Int.emod_nonneg (N * b) (b := D) (by omega)
  have hq3 := Int.emod_lt_of_pos (N * b) (b := D) (by omega)
  generalize hr : N * b % D = r at *
  generalize ha : N * b / D = a at *
  by_cases h1 : a < lo
  · have e1 : gL N D lo hi b = lo := by unfold gL; omega
    rw [e1] at hle ⊢
    have e2 : cl lo hi (a + 1) = lo := by unfold cl; omega
    rw [e2, not_near hle]
    by_cases h2 : lo + 1 ≤ hi
    · rw [if_pos h2, not_near]
      show errV N D s.1 s.2 * b ≤ errV N D (lo + 1) b * s.2
      have hm : D * a + D ≤ lo * D := by
        have := Int.mul_le_mul_of_nonneg_left (show a + 1 ≤ lo by omega) (show 0 ≤ D by omega)
        rw [Int.mul_add, Int.mul_one, Int.mul_comm D lo] at this
        exact this
      have hmm : errV N D lo b ≤ errV N D (lo + 1) b := by
        unfold errV
        rw [Int.add_mul, Int.one_mul]
        omega
      exact Int.le_trans hle (Int.mul_le_mul_of_nonneg_right hmm (by omega))
    · rw [if_neg h2]
  · by_cases h2 : a < hi
    · have e1 : gL N D lo hi b = a := by unfold gL; omega
      have e2 : cl lo hi (a + 1) = a + 1 := by unfold cl; omega
      rw [e1, e2, if_pos (by omega)]
    · have e1 : gL N D lo hi b = hi := by unfold gL; omega
      have e2 : cl lo hi (a + 1) = hi := by unfold cl; omega
      rw [e1] at hle ⊢
      rw [e2, not_near hle, if_neg (by omega)]
theorem gS_den (hlo : 1 ≤ lo) : ∀ k : Nat, 0 < (gS N D lo hi k).2
  | 0 => by show 0 < lo; omega
  | k + 1 => by
    have h1 := sStep_den (N := N) (D := D) (x := (gL N D lo hi (lo + k), lo + k)) (gS_den hlo k) (by show 0 < lo + (k : Int); omega)
    show 0 < (gS2 N D lo hi (lo + k) (gS N D lo hi k)).2
    unfold gS2 gS1
    split
    · exact sStep_den h1 (by show 0 < lo + (k : Int); omega)
    · exact h1
theorem first_step (hD : 1 ≤ D) (hlo : 1 ≤ lo) (h : lo ≤ hi) : sStep N D (lo, lo) (gL N D lo hi lo, lo) = (gL N D lo hi lo, lo) := by
  by_cases h1 : gL N D lo hi lo = lo
  · rw [h1]; unfold sStep; split <;> rfl
  · unfold sStep
    rw [if_pos]
    simp only [nearB, decide_eq_true_eq]
    refine Int.mul_lt_mul_of_pos_right ?_ (by omega)
    have hq1 := Int.mul_ediv_add_emod (N * lo) D
    have hq2 := Int.emod_nonneg (N * lo) (b := D) (by omega)
    have hl : lo + 1 ≤ gL N D lo hi lo := by unfold gL at h1 ⊢; omega
    have hl2 : gL N D lo hi lo ≤ N * lo / D := by unfold gL at h1 ⊢; omega
    generalize gL N D lo hi lo = l at *
    generalize N * lo / D = a at *
    have m1 := Int.mul_le_mul_of_nonneg_right hl2 (show 0 ≤ D by omega)
    have m2 := Int.mul_le_mul_of_nonneg_right hl (show 0 ≤ D by omega)
    rw [Int.add_mul, Int.one_mul] at m2
    rw [Int.mul_comm a D] at m1
    unfold errV
    omega
theorem gI_succ (k : Nat) : gI N D lo hi (k + 1) = gStep N D (gStep N D (gI N D lo hi k) (cl lo hi (N * (lo + k) / D), lo + k)) (cl lo hi (N * (lo + k) / D + 1), lo + k) := rfl
theorem gS_succ (k : Nat) : gS N D lo hi (k + 1) = gS2 N D lo hi (lo + k) (gS N D lo hi k) := rfl
theorem gI_one (hD : 1 ≤ D) (hlo : 1 ≤ lo) (h : lo ≤ hi) : gI N D lo hi 1 = gS N D lo hi 1 := by
  have e1 : ∀ x, gStep N D (0, 0) x = x := fun x => by unfold gStep; rw [if_pos rfl]
  have e0 : gI N D lo hi 0 = (0, 0) := rfl
  have e0' : gS N D lo hi 0 = (lo, lo) := rfl
  have e2 : lo + ((0 : Nat) : Int) = lo := by omega
  have hs := second (N := N) (s := (gL N D lo hi lo, lo)) (b := lo) hD h (by show 0 < lo; omega) (Int.le_refl _)
  rw [gI_succ, gS_succ, e0, e0', e1, e2, cl_eq h, hs]
  unfold gS2 gS1
  rw [first_step hD hlo h]
theorem gI_step (hD : 1 ≤ D) (hlo : 1 ≤ lo) (h : lo ≤ hi) (k : Nat) (ih : gI N D lo hi (k + 1) = gS N D lo hi (k + 1)) : gI N D lo hi (k + 1 + 1) = gS N D lo hi (k + 1 + 1) := by
  have hd := gS_den (N := N) (D := D) (hi := hi) hlo (k + 1)
  rw [gI_succ, gS_succ, ih]
  have hb : 0 < lo + ((k + 1 : Nat) : Int) := by omega
  generalize gS N D lo hi (k + 1) = s at *
  generalize lo + ((k + 1 : Nat) : Int) = b at *
  have hs := second (N := N) (s := sStep N D s (gL N D lo hi b, b)) (b := b) hD h (sStep_den hd hb) (sStep_le (x := (gL N D lo hi b, b)))
  rw [cl_eq h, step_snd hd, hs]
  unfold gS2 gS1
  rfl
theorem gI_eq (hD : 1 ≤ D) (hlo : 1 ≤ lo) (h : lo ≤ hi) (k : Nat) : gI N D lo hi (k + 1) = gS N D lo hi (k + 1) := by
  induction k with
  | zero => exact gI_one hD hlo h
  | succ k ih => exact gI_step hD hlo h k ih
end

/-- GearFor's results. -/
def gfF (lo hi : Int) : Bool := inR lo 1 1000 && inR hi lo 1000
def gfC (N D lo hi : Int) : Int := gearC N D (gfF lo hi)
def gfP (N D lo hi : Int) : Int := if gfC N D lo hi = 0 then (gS N D lo hi (hi + 1 - lo).toNat).1 else 0
def gfQ (N D lo hi : Int) : Int := if gfC N D lo hi = 0 then (gS N D lo hi (hi + 1 - lo).toNat).2 else 0
/-- The reference's inner states. -/
def gSj (N D b l : Int) (s : Int × Int) : Nat → Int × Int
  | 0 => s
  | j + 1 => sStep N D (gSj N D b l s j) (l + j, b)
theorem sStep_yes {N D : Int} {s x : Int × Int} (h : nearB N D x s = true) : sStep N D s x = x := by unfold sStep; rw [if_pos h]
theorem sStep_no {N D : Int} {s x : Int × Int} (h : nearB N D x s = false) : sStep N D s x = s := by unfold sStep; rw [if_neg (by rw [h]; exact Bool.false_ne_true)]
theorem gSj_end {N D lo hi b l : Int} {s : Int × Int} {j : Nat} (hl : gL N D lo hi b = l) (hj : j = 2 ∧ l + 1 ≤ hi ∨ j = 1 ∧ ¬ l + 1 ≤ hi) : gSj N D b l s j = gS2 N D lo hi b s := by
  unfold gS2 gS1
  rw [hl]
  have e1 : gSj N D b l s 1 = sStep N D s (l, b) := by
    show sStep N D s (l + ((0 : Nat) : Int), b) = _
    rw [show l + ((0 : Nat) : Int) = l by omega]
  rcases hj with ⟨rfl, h⟩ | ⟨rfl, h⟩
  · rw [if_pos h]
    show sStep N D (gSj N D b l s 1) (l + ((1 : Nat) : Int), b) = _
    rw [e1, show l + ((1 : Nat) : Int) = l + 1 by omega]
  · rw [if_neg h, e1]
def sm (n : Int) : Prop := 0 ≤ n ∧ n ≤ 1000
theorem sm_big {n : Int} (h : sm n) : big6 n := by obtain ⟨h1, h2⟩ := h; exact ⟨by omega, by omega⟩

set_option maxHeartbeats 4000000 in
theorem sGearFor_good (N D lo hi : Int) (w : World) (h0 : gfC N D lo hi = 0) :
    Calls Try.prog 16 #[fracV N D, .int .i64 lo, .int .i64 hi] w fun e w' => e = .returned (.tuple #[.int .i64 (gS N D lo hi (hi + 1 - lo).toNat).1, .int .i64 (gS N D lo hi (hi + 1 - lo).toNat).2, .int .i64 0]) ∧ Below w.heap.size w w' := by
  obtain ⟨hf, hr, ht⟩ := gearC_zero.1 h0
  obtain ⟨D1, _, _, _, _⟩ := fracOk_true.1 hf
  obtain ⟨N1, N2, D2⟩ := ratioB_true.1 hr
  obtain ⟨ha, hb⟩ : inR lo 1 1000 = true ∧ inR hi lo 1000 = true := by unfold gfF at ht; simpa using ht
  obtain ⟨lo1, lo2⟩ := inR_true.1 ha
  obtain ⟨hi1, hi2⟩ := inR_true.1 hb
  have G1 : gearC N D (inR lo 1 1000 && inR hi lo 1000) = 0 := h0
  have HG1 := Lib.hid G1
  have bN : big6 N := ⟨by omega, by omega⟩
  have bD : big6 D := ⟨by omega, by omega⟩
  have HbN := Lib.hid bN
  have HbD := Lib.hid bD
  clear G1 ha hb ht hr hf h0 bN bD
  obtain ⟨n, hn⟩ : ∃ n : Nat, (hi + 1 - lo).toNat = n := ⟨_, rfl⟩
  rw [hn]
  have hn' : (n : Int) = hi + 1 - lo := by omega
  have HN := Lib.hid hn'
  clear hn hn'
  unfold fracV
  go_enter Try.func16, Try.ntmps16
  go_wp2_with fail
  refine (l25Wheels_any N D lo hi _).mono ?_
  rw [HG1.out]
  rintro e w1 ⟨rfl, hb1⟩
  have k0 : w1.cell? ⟨w.heap.size, 0, none⟩ = some (.int .i64 N) := (hb1.cell (p := ⟨w.heap.size, 0, none⟩) (by simp)).trans (cell_one _ _ _ _)
  have k1 : w1.cell? ⟨w.heap.size, 1, none⟩ = some (.int .i64 D) := (hb1.cell (p := ⟨w.heap.size, 1, none⟩) (by simp)).trans (cell_one _ _ _ _)
  have hz1 : w.heap.size < w1.heap.size := by have := hb1.size; simp at this; omega
  have B1 : Below w.heap.size w w1 := ext_trans (ext1 _ _) hb1
  have K0 := Lib.hid k0
  have K1 := Lib.hid k1
  clear hb1 k0 k1
  go_wp2_with fail
  go_loopw [12, 10, 11] (fun t x y wr => ∃ (k : Nat) (b p q : Int), k ≤ n ∧ Hid (b = lo + k) ∧ lo ≤ b ∧ b ≤ hi + 1 ∧ t = .int .i64 b ∧ x = .int .i64 p ∧ y = .int .i64 q ∧ Hid (gS N D lo hi k = (p, q)) ∧ Hid (sm p ∧ sm q) ∧ Below w1.heap.size w1 wr) (fun t _ _ _ => (hi + 1 - intOf t).toNat)
  case atStart => exact ⟨0, lo, lo, lo, by omega, by unfold Hid; omega, by omega, by omega, rfl, rfl, rfl, rfl, ⟨⟨by omega, by omega⟩, ⟨by omega, by omega⟩⟩, Below.refl _ _⟩
  case round =>
    obtain ⟨k, b, p, q, hk, HBK, hb1, hb2, rfl, rfl, rfl, HS, HM, hbe⟩ := hrel
    have k0 := (hbe.cell (p := ⟨w.heap.size, 0, none⟩) hz1).trans K0.out
    have k1 := (hbe.cell (p := ⟨w.heap.size, 1, none⟩) hz1).trans K1.out
    by_cases hlt : b ≤ hi
    · obtain ⟨p1, p2⟩ := mul_bd (x := N) (y := b) (M := 1000000) (N := 1000) (by omega) (by omega) (by omega) (by omega) (by omega) (by omega)
      have HF : Hid (∀ W, Calls Try.prog 82 #[.int .i64 (N * b), .int .i64 D] W fun e w' => e = .returned (.int .i64 (N * b / D)) ∧ W = w') := fun W => l02Floor_any _ _ W (by omega) (by omega) (by omega) (by omega)
      obtain ⟨l, hl⟩ : ∃ l, gL N D lo hi b = l := ⟨_, rfl⟩
      have hl1 : lo ≤ l ∧ l ≤ hi := by rw [← hl]; unfold gL; omega
      obtain ⟨hl1, hl2⟩ := hl1
      have hl' := hl
      unfold gL at hl'
      have HL := Lib.hid hl
      have HL' := Lib.hid hl'
      clear hl hl'
      obtain ⟨m, hm⟩ : ∃ m, min hi (l + 1) = m := ⟨_, rfl⟩
      have hm1 : m ≤ hi ∧ m ≤ l + 1 ∧ (hi ≤ m ∨ l + 1 ≤ m) := by omega
      obtain ⟨hm1, hm2, hm3⟩ := hm1
      have HMM := Lib.hid hm
      clear hm
      go_wp2_with fail
      refine (HF.out _).mono ?_
      rintro e w' ⟨rfl, rfl⟩
      go_wp2_with fail
      refine (l00Min_any hi (N * b / D) _ rfl _).mono ?_
      rintro e w' ⟨rfl, rfl⟩
      go_wp2_with fail
      refine (l00Max_any lo _ l HL'.out _).mono ?_
      rintro e w' ⟨rfl, rfl⟩
      clear k0 k1
      go_wp2_with fail
      obtain ⟨wo, ho⟩ : ∃ wo : World, wo = wr := ⟨_, rfl⟩
      subst ho
      go_loopw [14, 10, 11] (fun t x y wr => ∃ (j : Nat) (a p' q' : Int), j ≤ 2 ∧ (2 ≤ j → l + 1 ≤ hi) ∧ Hid (a = l + j) ∧ l ≤ a ∧ a ≤ l + 2 ∧ t = .int .i64 a ∧ x = .int .i64 p' ∧ y = .int .i64 q' ∧ Hid (gSj N D b l (p, q) j = (p', q')) ∧ Hid (sm p' ∧ sm q') ∧ Below w1.heap.size w1 wr) (fun t _ _ _ => (l + 3 - intOf t).toNat)
      case atStart => exact ⟨0, l, p, q, by omega, by omega, by unfold Hid; omega, by omega, by omega, rfl, rfl, rfl, rfl, HM.out, hbe⟩
      case round =>
        obtain ⟨j, a, p', q', hj, hj2, HA, ha1, ha2, rfl, rfl, rfl, HS', HM', hbe'⟩ := hrel
        have hja := HA.out
        have k0 := (hbe'.cell (p := ⟨w.heap.size, 0, none⟩) hz1).trans K0.out
        have k1 := (hbe'.cell (p := ⟨w.heap.size, 1, none⟩) hz1).trans K1.out
        by_cases ham : a ≤ m
        · have hj1 : j ≤ 1 ∧ (1 ≤ j → l + 1 ≤ hi) := by omega
          obtain ⟨hj1, hj3⟩ := hj1
          clear hja
          have HC := Lib.hid (l25Nearer_any N D a b p' q' · HbN.out HbD.out ⟨by omega, by omega⟩ ⟨by omega, by omega⟩ (sm_big HM'.out.1) (sm_big HM'.out.2))
          cases hnear : decide (errV N D a b * q' < errV N D p' q' * b)
          all_goals
            rw [hnear] at HC
            have HNR : Hid (nearB N D (a, b) (p', q') = _) := hnear
            clear hnear
            go_wp2_with fail
            refine (l00Min_any hi (l + 1) m HMM.out _).mono ?_
            rintro e w' ⟨rfl, rfl⟩
            go_wp2_with fail
            refine (HC.out _).mono ?_
            rintro e w2 ⟨rfl, hb2'⟩
            go_wp2
            go_roundw
            case rel =>
              first
              | exact ⟨j + 1, a + 1, p', q', by omega, by omega, by have := HA.out; unfold Hid; omega, by omega, by omega, rfl, rfl, rfl, by unfold Hid; rw [gSj, ← HA.out, HS'.out, sStep_no HNR.out], HM'.out, ext_trans hbe' hb2'⟩
              | exact ⟨j + 1, a + 1, a, b, by omega, by omega, by have := HA.out; unfold Hid; omega, by omega, by omega, rfl, rfl, rfl, by unfold Hid; rw [gSj, ← HA.out, HS'.out, sStep_yes HNR.out], ⟨⟨by omega, by omega⟩, ⟨by omega, by omega⟩⟩, ext_trans hbe' hb2'⟩
            case measure => simp [intOf]; omega
        · have HE : Hid (gS N D lo hi (k + 1) = (p', q')) := by
            unfold Hid
            rw [gS_succ, HS.out, ← HBK.out, ← gSj_end (j := j) HL.out (by omega), HS'.out]
          clear hja
          go_wp2_with fail
          refine (l00Min_any hi (l + 1) m HMM.out _).mono ?_
          rintro e w' ⟨rfl, rfl⟩
          go_wp2
          go_roundw
          case rel => exact ⟨k + 1, b + 1, p', q', by have := HBK.out; have := HN.out; omega, by have := HBK.out; unfold Hid; omega, by omega, by omega, rfl, rfl, rfl, HE.out, HM'.out, hbe'⟩
          case measure => simp [intOf]; omega
    · have HE : Hid (gS N D lo hi n = (p, q)) := by
        have e : k = n := by have := HBK.out; have := HN.out; omega
        rw [← e]; exact HS.out
      go_wp2
      go_ret3
      rw [HE.out]
      exact ⟨rfl, ext_trans B1 hbe⟩

/-- What the program holds: its best fraction lies in block g. -/
structure BestIs (V : World) (p q : Int) (W : World) : Prop where
  c0 : W.cell? ⟨V.heap.size, 0, none⟩ = some (.int .i64 p)
  c1 : W.cell? ⟨V.heap.size, 1, none⟩ = some (.int .i64 q)
  f0 : W.frozen? ⟨V.heap.size, 0, none⟩ = false
  f1 : W.frozen? ⟨V.heap.size, 1, none⟩ = false
  lt : V.heap.size < W.heap.size
  be : Below V.heap.size V W
theorem BestIs.next {V W W' : World} {p q : Int} (h : BestIs V p q W) (hb : Below W.heap.size W W') : BestIs V p q W' :=
  ⟨(hb.cell (p := ⟨V.heap.size, 0, none⟩) h.lt).trans h.c0, (hb.cell (p := ⟨V.heap.size, 1, none⟩) h.lt).trans h.c1, (hb.frozen (p := ⟨V.heap.size, 0, none⟩) h.lt).trans h.f0, (hb.frozen (p := ⟨V.heap.size, 1, none⟩) h.lt).trans h.f1, Nat.lt_of_lt_of_le h.lt hb.size, ext_trans h.be hb⟩
theorem BestIs.set {V W : World} {p q a b : Int} (h : BestIs V p q W) : BestIs V a b ((W.setCell ⟨V.heap.size, 0, none⟩ (.int .i64 a)).setCell ⟨V.heap.size, 1, none⟩ (.int .i64 b)) := by
  obtain ⟨s0, s1⟩ := set_two h.c0 h.c1
  exact ⟨(World.cell?_setCell_other _ _ _ _ (by simp)).trans (s0 _), s1 _ _, (World.frozen?_setCell _ _ _ _).trans ((World.frozen?_setCell _ _ _ _).trans h.f0), (World.frozen?_setCell _ _ _ _).trans ((World.frozen?_setCell _ _ _ _).trans h.f1), by simpa using h.lt, ext_set (ext_set h.be (Nat.le_refl _) _) (Nat.le_refl _) _⟩
theorem BestIs.new (V : World) (T : TypeId) (p q : Int) : BestIs V p q (V.alloc (.cells #[.int .i64 p, .int .i64 q] T)) :=
  ⟨by rw [cell_one]; rfl, by rw [cell_one]; rfl, World.frozen?_alloc_at _ _ _ _ rfl, World.frozen?_alloc_at _ _ _ _ rfl, by simp, ext1 _ _⟩

/-- The program's inner states. -/
def gIj (N D b x1 x2 : Int) (s : Int × Int) : Nat → Int × Int
  | 0 => s
  | j + 1 => gStep N D (gIj N D b x1 x2 s j) (if j = 0 then x1 else x2, b)
/-- Two fractions in block h. -/
structure Elems (h : Nat) (x b y c : Int) (W : World) : Prop where
  e0 : W.cell? ⟨h, 0, none⟩ = some (.int .i64 x)
  e1 : W.cell? ⟨h, 1, none⟩ = some (.int .i64 b)
  e2 : W.cell? ⟨h, 2, none⟩ = some (.int .i64 y)
  e3 : W.cell? ⟨h, 3, none⟩ = some (.int .i64 c)
  lt : h < W.heap.size
theorem Elems.next {h : Nat} {x b y c : Int} {W W' : World} (k : Elems h x b y c W) (hb : Below W.heap.size W W') : Elems h x b y c W' :=
  ⟨(hb.cell (p := ⟨h, 0, none⟩) k.lt).trans k.e0, (hb.cell (p := ⟨h, 1, none⟩) k.lt).trans k.e1, (hb.cell (p := ⟨h, 2, none⟩) k.lt).trans k.e2, (hb.cell (p := ⟨h, 3, none⟩) k.lt).trans k.e3, Nat.lt_of_lt_of_le k.lt hb.size⟩
theorem Elems.set {h : Nat} {x b y c : Int} {W : World} {g j : Nat} {v : Value} (hg : g < h) (k : Elems h x b y c W) : Elems h x b y c (W.setCell ⟨g, j, none⟩ v) :=
  ⟨(World.cell?_setCell_other _ _ _ _ (by simp <;> omega)).trans k.e0, (World.cell?_setCell_other _ _ _ _ (by simp <;> omega)).trans k.e1, (World.cell?_setCell_other _ _ _ _ (by simp <;> omega)).trans k.e2, (World.cell?_setCell_other _ _ _ _ (by simp <;> omega)).trans k.e3, by simpa using k.lt⟩
theorem Elems.new (W : World) (T : TypeId) (x b y c : Int) : Elems W.heap.size x b y c (W.alloc (.cells #[.int .i64 x, .int .i64 b, .int .i64 y, .int .i64 c] T)) :=
  ⟨by rw [cell_one]; rfl, by rw [cell_one]; rfl, by rw [cell_one]; rfl, by rw [cell_one]; rfl, by simp⟩
theorem elems_eq {w : World} {T : TypeId} {a b c d x y : Int} (h : a = x) (k : c = y) : w.alloc (.cells #[.int .i64 a, .int .i64 b, .int .i64 c, .int .i64 d] T) = w.alloc (.cells #[.int .i64 x, .int .i64 b, .int .i64 y, .int .i64 d] T) := by rw [h, k]

set_option maxHeartbeats 4000000 in
theorem iGearFor_good (N D lo hi : Int) (w : World) (h0 : gfC N D lo hi = 0) :
    Calls Try.prog 15 #[fracV N D, .int .i64 lo, .int .i64 hi] w fun e w' => e = .returned (.tuple #[.int .i64 (gI N D lo hi (hi + 1 - lo).toNat).1, .int .i64 (gI N D lo hi (hi + 1 - lo).toNat).2, .int .i64 0]) ∧ Below w.heap.size w w' := by
  obtain ⟨hf, hr, ht⟩ := gearC_zero.1 h0
  obtain ⟨D1, _, _, _, _⟩ := fracOk_true.1 hf
  obtain ⟨N1, N2, D2⟩ := ratioB_true.1 hr
  obtain ⟨ha, hb⟩ : inR lo 1 1000 = true ∧ inR hi lo 1000 = true := by unfold gfF at ht; simpa using ht
  obtain ⟨lo1, lo2⟩ := inR_true.1 ha
  obtain ⟨hi1, hi2⟩ := inR_true.1 hb
  have G0 : gearC N D true = 0 := gearC_zero.2 ⟨hf, hr, rfl⟩
  have HG0 := Lib.hid G0
  have HA := Lib.hid ha
  have HB := Lib.hid hb
  have bN : big6 N := ⟨by omega, by omega⟩
  have bD : big6 D := ⟨by omega, by omega⟩
  have HbN := Lib.hid bN
  have HbD := Lib.hid bD
  clear G0 ha hb ht hr hf h0 bN bD
  obtain ⟨n, hn⟩ : ∃ n : Nat, (hi + 1 - lo).toNat = n := ⟨_, rfl⟩
  rw [hn]
  have hn' : (n : Int) = hi + 1 - lo := by omega
  have HN := Lib.hid hn'
  clear hn hn'
  unfold fracV
  go_enter Try.func15, Try.ntmps15
  go_wp2_with fail
  obtain ⟨W, hW⟩ : ∃ W, W = w.alloc (.cells #[.int .i64 N, .int .i64 D] 25) := ⟨_, rfl⟩
  rw [← hW]
  have c0 : ∀ d' os, (grow (redrawn W d') os).cell? ⟨w.heap.size, 0, none⟩ = some (.int .i64 N) := cell_regrown (by rw [hW, cell_one]; rfl)
  have c1 : ∀ d' os, (grow (redrawn W d') os).cell? ⟨w.heap.size, 1, none⟩ = some (.int .i64 D) := cell_regrown (by rw [hW, cell_one]; rfl)
  have HW := Lib.hid hW
  clear hW
  refine wp_region_quiet_below (by kernel_rfl) (by kernel_rfl) ?_
  repeat (first | go_big_quiet_step ((first | (with_reducible exact regrown_same (within_is HA.out _)) | (with_reducible exact regrown_same (within_is HB.out _)) | (with_reducible exact Calls.regrown_of (checkGear_is HG0.out _)))) | quiet_step ((first | (with_reducible exact regrown_same (within_is HA.out _)) | (with_reducible exact regrown_same (within_is HB.out _)) | (with_reducible exact Calls.regrown_of (checkGear_is HG0.out _)))))
  refine wpQuiet_nil ?_
  intro _ hw'
  obtain ⟨⟨dq, oq⟩, hw''⟩ := hw'
  subst hw''
  obtain ⟨w1, hw1, hb1⟩ : ∃ w1, w1 = grow (redrawn W dq) oq ∧ Below (w.alloc (.cells #[.int .i64 N, .int .i64 D] 25)).heap.size (w.alloc (.cells #[.int .i64 N, .int .i64 D] 25)) w1 := ⟨_, rfl, by rw [← HW.out]; exact below_regrown W dq oq⟩
  rw [← hw1]
  clear hw1 c0 c1
  have k0 : w1.cell? ⟨w.heap.size, 0, none⟩ = some (.int .i64 N) := (hb1.cell (p := ⟨w.heap.size, 0, none⟩) (by simp)).trans (cell_one _ _ _ _)
  have k1 : w1.cell? ⟨w.heap.size, 1, none⟩ = some (.int .i64 D) := (hb1.cell (p := ⟨w.heap.size, 1, none⟩) (by simp)).trans (cell_one _ _ _ _)
  have hz1 : w.heap.size < w1.heap.size := by have := hb1.size; simp at this; omega
  have B1 : Below w.heap.size w w1 := ext_trans (ext1 _ _) hb1
  have K0 := Lib.hid k0
  have K1 := Lib.hid k1
  clear hb1 k0 k1
  go_wp2_with fail
  go_loopw [11] (fun t wr => ∃ (k : Nat) (b p q : Int), k ≤ n ∧ Hid (b = lo + k) ∧ lo ≤ b ∧ b ≤ hi + 1 ∧ t = .int .i64 b ∧ Hid (gI N D lo hi k = (p, q)) ∧ Hid (sm p ∧ sm q) ∧ BestIs w1 p q wr) (fun t _ => (hi + 1 - intOf t).toNat)
  case atStart => exact ⟨0, lo, 0, 0, by omega, by unfold Hid; omega, by omega, by omega, rfl, rfl, ⟨⟨by omega, by omega⟩, ⟨by omega, by omega⟩⟩, BestIs.new w1 _ 0 0⟩
  case round =>
    obtain ⟨k, b, p, q, hk, HBK, hb1, hb2, rfl, HS, HM, hbi⟩ := hrel
    have k0 := (hbi.be.cell (p := ⟨w.heap.size, 0, none⟩) hz1).trans K0.out
    have k1 := (hbi.be.cell (p := ⟨w.heap.size, 1, none⟩) hz1).trans K1.out
    by_cases hlt : b ≤ hi
    · obtain ⟨p1, p2⟩ := mul_bd (x := N) (y := b) (M := 1000000) (N := 1000) (by omega) (by omega) (by omega) (by omega) (by omega) (by omega)
      obtain ⟨p3, p4⟩ : 0 ≤ N * b ∧ N * b ≤ 1000000000 := ⟨Int.mul_nonneg (by omega) (by omega), by omega⟩
      obtain ⟨q1, q2⟩ : 0 ≤ N * b / D ∧ N * b / D ≤ 1000000000 := ⟨Int.ediv_nonneg p3 (by omega), Int.le_trans (Int.ediv_le_self D p3) (by omega)⟩
      have d0 : (D == 0) = false := by simp; omega
      obtain ⟨wA, hwA⟩ : ∃ wA : World, wA = wr := ⟨_, rfl⟩
      subst hwA
      obtain ⟨x1, hx1⟩ : ∃ x, cl lo hi (N * b / D) = x := ⟨_, rfl⟩
      obtain ⟨x2, hx2⟩ : ∃ x, cl lo hi (N * b / D + 1) = x := ⟨_, rfl⟩
      obtain ⟨l1, l2, l3, l4⟩ : lo ≤ x1 ∧ x1 ≤ hi ∧ lo ≤ x2 ∧ x2 ≤ hi := by rw [← hx1, ← hx2]; unfold cl; omega
      have HX1 := Lib.hid hx1
      have HX2 := Lib.hid hx2
      clear hx1 hx2
      go_upto_region 9 with fail
      go_cut [55, 56, 57] (fun s m i wx => s = .slice (some ⟨wA.heap.size, 0, none⟩) 2 2 ∧ m = .int .i64 2 ∧ i = .int .i64 0 ∧ wx = wA.alloc (.cells #[.int .i64 x1, .int .i64 b, .int .i64 x2, .int .i64 b] 25))
      case first =>
        go_wp2_with fail
        all_goals
          go_meet
          refine ⟨rfl, rfl, rfl, elems_eq ?_ ?_⟩
          · have := HX1.out; unfold cl at this; omega
          · have := HX2.out; unfold cl at this; omega
      case rest =>
        obtain ⟨rfl, rfl, rfl, rfl⟩ := hcut
        have hel := Elems.new wA 25 x1 b x2 b
        have hbi1 := hbi.next (ext1 wA (.cells #[.int .i64 x1, .int .i64 b, .int .i64 x2, .int .i64 b] 25))
        have hgh : w1.heap.size < wA.heap.size := hbi.lt
        generalize wA.alloc (.cells #[.int .i64 x1, .int .i64 b, .int .i64 x2, .int .i64 b] 25) = wo at *
        clear k0 k1
        go_wp2_with fail
        go_loopw [57] (fun t W => ∃ (j : Nat) (p' q' : Int), j ≤ 2 ∧ t = .int .i64 j ∧ Hid (gIj N D b x1 x2 (p, q) j = (p', q')) ∧ Hid (sm p' ∧ sm q') ∧ BestIs w1 p' q' W ∧ Elems wA.heap.size x1 b x2 b W) (fun t _ => 2 - (intOf t).toNat)
        case atStart => exact ⟨0, p, q, by omega, rfl, rfl, HM.out, hbi1, hel⟩
        case round =>
          obtain ⟨j, p', q', hj, rfl, HS', HM', hbi', hel'⟩ := hrel
          have k0 := (hbi'.be.cell (p := ⟨w.heap.size, 0, none⟩) hz1).trans K0.out
          have k1 := (hbi'.be.cell (p := ⟨w.heap.size, 1, none⟩) hz1).trans K1.out
          have hlw : w.heap.size < wr.heap.size := Nat.lt_of_lt_of_le hz1 hbi'.be.size
          have hHB := Lib.hid hbi'
          have hHE := Lib.hid hel'
          obtain ⟨g0, g1, g2, g3, g4, _⟩ := hbi'
          obtain ⟨e0, e1, e2, e3, e4⟩ := hel'
          by_cases hj2 : j < 2
          · obtain ⟨xx, hxx⟩ : ∃ xx, (if j = 0 then x1 else x2) = xx := ⟨_, rfl⟩
            have hxl : lo ≤ xx ∧ xx ≤ hi := by rw [← hxx]; split <;> omega
            obtain ⟨hxl1, hxl2⟩ := hxl
            have HC := Lib.hid (compareErrors_any N D xx b p' q' · HbN.out HbD.out ⟨by omega, by omega⟩ ⟨by omega, by omega⟩ (sm_big HM'.out.1) (sm_big HM'.out.2))
            have hj01 : j = 0 ∧ xx = x1 ∨ j = 1 ∧ xx = x2 := by
              by_cases h0 : j = 0
              · left; rw [if_pos h0] at hxx; exact ⟨h0, hxx.symm⟩
              · right; rw [if_neg h0] at hxx; exact ⟨by omega, hxx.symm⟩
            have HN1 : Hid (gIj N D b x1 x2 (p, q) (j + 1) = gStep N D (p', q') (xx, b)) := by
              have h := HS'.out
              rcases hj01 with ⟨rfl, rfl⟩ | ⟨rfl, rfl⟩
              · show gStep N D _ _ = _; rw [h]; rfl
              · show gStep N D _ _ = _; rw [h]; rfl
            clear hxx
            by_cases hq0 : q' = 0
            · have t0 : (q' == 0) = true := by simpa using hq0
              have HQ : Hid (gStep N D (p', q') (xx, b) = (xx, b)) := by unfold Hid gStep; rw [if_pos hq0]
              clear hq0
              rcases hj01 with ⟨rfl, rfl⟩ | ⟨rfl, rfl⟩
              all_goals
                go_wp2
                go_roundw
                case rel => exact ⟨_, _, b, by omega, by go_num, HN1.out.trans HQ.out, ⟨⟨by omega, by omega⟩, ⟨by omega, by omega⟩⟩, (BestIs.set hHB.out).next (ext1 _ _), (Elems.set hgh (Elems.set hgh hHE.out)).next (ext1 _ _)⟩
                case measure => simp [intOf]
            · have t0 : (q' == 0) = false := by simpa using hq0
              cases hnear : decide (errV N D xx b * q' < errV N D p' q' * b)
              all_goals
                have HNR : Hid (nearB N D (xx, b) (p', q') = _) := hnear
                have HQ : Hid (gStep N D (p', q') (xx, b) = if nearB N D (xx, b) (p', q') = true then (xx, b) else (p', q')) := by unfold Hid gStep; rw [if_neg hq0]
                rw [HNR.out] at HQ
                have hcm : decide (cmp3 (errV N D xx b * q') (errV N D p' q' * b) < 0) = _ := (decide_eq_decide.2 cmp3_neg).trans hnear
                generalize cmp3 (errV N D xx b * q') (errV N D p' q' * b) = z at *
                first | have hz := of_decide_eq_true hcm | have hz := of_decide_eq_false hcm
                clear hnear hcm
                rcases hj01 with ⟨rfl, rfl⟩ | ⟨rfl, rfl⟩
                all_goals
                  go_wp2_with fail
                  refine (HC.out _).mono ?_
                  rintro e w2 ⟨rfl, hb2'⟩
                  have hbi2 := (hHB.out.next (ext1 _ _)).next hb2'
                  have hel2 := (hHE.out.next (ext1 _ _)).next hb2'
                  have hx0 := (hb2'.cell (p := ⟨wr.heap.size, 0, none⟩) (by simp)).trans (cell_one _ _ _ _)
                  have hx1 := (hb2'.cell (p := ⟨wr.heap.size, 1, none⟩) (by simp)).trans (cell_one _ _ _ _)
                  simp at hx0 hx1
                  obtain ⟨m0, m1, m2, m3, m4, _⟩ := id hbi2
                  go_wp2
                  go_roundw
                  case rel =>
                    first
                    | exact ⟨_, _, _, by omega, by go_num, HN1.out.trans HQ.out, HM'.out, hbi2, hel2⟩
                    | exact ⟨_, _, _, by omega, by go_num, HN1.out.trans HQ.out, ⟨⟨by omega, by omega⟩, ⟨by omega, by omega⟩⟩, BestIs.set hbi2, Elems.set hgh (Elems.set hgh hel2)⟩
                  case measure => simp [intOf]
          · have hjj : j = 2 := by omega
            have HE : Hid (gI N D lo hi (k + 1) = (p', q')) := by
              have h := HS'.out
              rw [hjj] at h
              unfold Hid
              rw [gI_succ, HS.out, ← HBK.out, HX1.out, HX2.out]
              exact h
            clear hjj
            go_wp2
            go_roundw
            case rel => exact ⟨k + 1, b + 1, p', q', by have := HBK.out; have := HN.out; omega, by have := HBK.out; unfold Hid; omega, by omega, by omega, rfl, HE.out, HM'.out, hHB.out⟩
            case measure => simp [intOf]; omega
    · have HE : Hid (gI N D lo hi n = (p, q)) := by
        have e : k = n := by have := HBK.out; have := HN.out; omega
        rw [← e]; exact HS.out
      have hHB := Lib.hid hbi
      obtain ⟨g0, g1, g2, g3, g4, g5⟩ := hbi
      go_wp2_with fail
      go_quiet (fail)
      go_wp2
      go_ret3
      rw [HE.out]
      exact ⟨rfl, ext_trans B1 (ext_trans hHB.out.be ⟨rfl, rfl, rfl, Nat.le_refl _, fun _ _ => rfl⟩)⟩

theorem iGearFor_any (N D lo hi : Int) (w : World) :
    Calls Try.prog 15 #[fracV N D, .int .i64 lo, .int .i64 hi] w fun e w' => e = .returned (.tuple #[.int .i64 (gfP N D lo hi), .int .i64 (gfQ N D lo hi), .int .i64 (gfC N D lo hi)]) ∧ Below w.heap.size w w' := by
  by_cases h0 : gfC N D lo hi = 0
  · have h := iGearFor_good N D lo hi w h0
    obtain ⟨hf, hr, ht⟩ := gearC_zero.1 h0
    obtain ⟨D1, _, _, _, _⟩ := fracOk_true.1 hf
    obtain ⟨ha, hb⟩ : inR lo 1 1000 = true ∧ inR hi lo 1000 = true := by unfold gfF at ht; simpa using ht
    obtain ⟨lo1, lo2⟩ := inR_true.1 ha
    obtain ⟨hi1, hi2⟩ := inR_true.1 hb
    obtain ⟨k, hk⟩ : ∃ k : Nat, (hi + 1 - lo).toNat = k + 1 := ⟨(hi - lo).toNat, by omega⟩
    have e := gI_eq (N := N) D1 lo1 hi1 k
    rw [hk, e, ← hk] at h
    unfold gfP gfQ
    rw [if_pos h0, if_pos h0, h0]
    exact h
  · have e1 : gfP N D lo hi = 0 := by rw [gfP, if_neg h0]
    have e2 : gfQ N D lo hi = 0 := by rw [gfQ, if_neg h0]
    rw [e1, e2]
    have HG : Hid (∀ W, Calls Try.prog 76 #[fracV N D, .bool (gfF lo hi)] W fun e w' => e = .returned (.int .i64 (gfC N D lo hi)) ∧ Below W.heap.size W w') := fun W => checkGear_any N D _ W
    generalize gfC N D lo hi = v at *
    have v1 : (v != 0) = true := by simpa using h0
    have v2 : (v == 0) = false := by simpa using h0
    clear e1 e2 h0
    have hF : (inR lo 1 1000 = false ∧ gfF lo hi = false) ∨ (inR lo 1 1000 = true ∧ inR hi lo 1000 = false ∧ gfF lo hi = false) ∨ (inR lo 1 1000 = true ∧ inR hi lo 1000 = true ∧ gfF lo hi = true) := by
      unfold gfF
      cases inR lo 1 1000 <;> cases inR hi lo 1000 <;> simp
    rcases hF with ⟨ha, hb⟩ | ⟨ha, hb, hc⟩ | ⟨ha, hb, hc⟩
    all_goals
      (first | rw [hb] at HG | rw [hc] at HG)
      have HA := Lib.hid ha
      have HB := Lib.hid hb
      clear ha hb
      (try clear hc)
      unfold fracV at *
      go_enter Try.func15, Try.ntmps15
      go_wp2_with fail
      obtain ⟨W, hW⟩ : ∃ W, W = w.alloc (.cells #[.int .i64 N, .int .i64 D] 25) := ⟨_, rfl⟩
      rw [← hW]
      have hb0 : Below w.heap.size w W := by rw [hW]; exact ext1 _ _
      have c0 : ∀ d' os, (grow (redrawn W d') os).cell? ⟨w.heap.size, 0, none⟩ = some (.int .i64 N) := cell_regrown (by rw [hW, cell_one]; rfl)
      have c1 : ∀ d' os, (grow (redrawn W d') os).cell? ⟨w.heap.size, 1, none⟩ = some (.int .i64 D) := cell_regrown (by rw [hW, cell_one]; rfl)
      clear hW
      refine wp_region_quiet_below (by kernel_rfl) (by kernel_rfl) ?_
      repeat (first | go_big_quiet_step ((first | (with_reducible exact regrown_same (within_is HA.out _)) | (with_reducible exact regrown_same (within_is HB.out _)) | (with_reducible exact Calls.regrown_of (HG.out _)))) | quiet_step ((first | (with_reducible exact regrown_same (within_is HA.out _)) | (with_reducible exact regrown_same (within_is HB.out _)) | (with_reducible exact Calls.regrown_of (HG.out _)))))
      refine wpQuiet_nil ?_
      intro _ hw'
      obtain ⟨⟨dq, oq⟩, hw''⟩ := hw'
      subst hw''
      go_wp2
      go_ret3
      exact ⟨rfl, ext_trans hb0 (below_regrown W dq oq)⟩
theorem sGearFor_any (N D lo hi : Int) (w : World) :
    Calls Try.prog 16 #[fracV N D, .int .i64 lo, .int .i64 hi] w fun e w' => e = .returned (.tuple #[.int .i64 (gfP N D lo hi), .int .i64 (gfQ N D lo hi), .int .i64 (gfC N D lo hi)]) ∧ Below w.heap.size w w' := by
  by_cases h0 : gfC N D lo hi = 0
  · have h := sGearFor_good N D lo hi w h0
    unfold gfP gfQ
    rw [if_pos h0, if_pos h0, h0]
    exact h
  · have e1 : gfP N D lo hi = 0 := by rw [gfP, if_neg h0]
    have e2 : gfQ N D lo hi = 0 := by rw [gfQ, if_neg h0]
    rw [e1, e2]
    have H1 : Hid (∀ W, Calls Try.prog 79 #[fracV N D, .int .i64 lo, .int .i64 hi] W fun e w' => e = .returned (.int .i64 (gfC N D lo hi)) ∧ Below W.heap.size W w') := fun W => l25Wheels_any N D lo hi W
    generalize gfC N D lo hi = v at *
    have v1 : (v != 0) = true := by simpa using h0
    have v2 : (v == 0) = false := by simpa using h0
    clear e1 e2 h0
    unfold fracV at *
    go_enter Try.func16, Try.ntmps16
    go_wp2_with fail
    refine (H1.out _).mono ?_
    rintro e w1 ⟨rfl, hb1⟩
    go_wp2
    go_ret3
    exact ⟨rfl, ext_trans (ext1 _ _) hb1⟩
end Go.Proofs.Ytgnifhegkjmgaaa
