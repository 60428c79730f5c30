/- Parts of the proof, merged: PerP PerW PerK. No condition but those that each theorem names. -/
import Derived.Test.YtjgafjbccfjojaaGreatMgAO
import Derived.Test.YtjgafjbccfjojaaGreatMgAB
import Derived.Deep.RegionHeld3
import Derived.IntWalk
import Derived.Test.YtjgafjbccfjojaaGreatMgAA
import Derived.DeepKeys4
import Derived.Maps.OwnSet
import Derived.Maps.Views
import Derived.Carry
namespace Go.Proofs.YtjgafjbccfjojaaGreat
open Go.RowKit Go.Sort
/-- A surd: P, D, Q. -/
abbrev Sd := Int × Int × Int
def sdOk (s : Sd) : Bool := surdB s.1 s.2.1 s.2.2
def flS (s : Sd) : Int := if 0 < s.2.2 then (s.1 + rtI s.2.1) / s.2.2 else -((s.1 + rtI s.2.1) / (-s.2.2)) - 1
def npS (s : Sd) : Int := flS s * s.2.2 - s.1
def nqS (s : Sd) : Int := (s.2.1 - npS s * npS s).tdiv s.2.2
def nxS (s : Sd) : Sd := (npS s, s.2.1, nqS s)
theorem rt_small {d : Int} (h1 : 2 ≤ d) (h2 : d ≤ 1000000) (h3 : sqB d = false) : 1 ≤ rtI d ∧ rtI d ≤ 999 ∧ rtI d * rtI d < d ∧ d < (rtI d + 1) * (rtI d + 1) := by
  obtain ⟨a, b, c⟩ := rtI_is (n := d) (by omega)
  have hne : rtI d * rtI d ≠ d := by simpa [sqB] using h3
  have hlo : 1 ≤ rtI d := by
    rcases Int.lt_or_le (rtI d) 1 with g | g
    · have e : rtI d = 0 := by omega
      rw [e] at c
      omega
    · exact g
  have hhi : rtI d ≤ 999 := by
    rcases Int.lt_or_le 999 (rtI d) with g | g
    · have := sq_mono (a := 1000) (b := rtI d) (by omega) (by omega)
      omega
    · exact g
  exact ⟨hlo, hhi, by omega, c⟩
theorem neg_floor (x m : Int) (hm : 0 < m) : -(x / m) - 1 = (-x - 1) / m := by
  have h1 := Int.mul_ediv_add_emod x m
  have h2 := Int.emod_nonneg x (show m ≠ 0 by omega)
  have h3 := Int.emod_lt_of_pos x hm
  have key : -x - 1 = (-(x / m) - 1) * m + (m - 1 - x % m) := by
    have : (-(x / m) - 1) * m = -(m * (x / m)) - m := by rw [Int.sub_mul, Int.neg_mul, Int.mul_comm (x / m) m, Int.one_mul]
    omega
  have z : (m - 1 - x % m) / m = 0 := Int.ediv_eq_zero_of_lt (by omega) (by omega)
  rw [key, Int.add_comm, Int.add_mul_ediv_right _ _ (show m ≠ 0 by omega), z]
  omega
/-- Where the next P lies. -/
theorem npS_rng {s : Sd} (h : sdOk s = true) : (0 < s.2.2 → rtI s.2.1 - s.2.2 < npS s ∧ npS s ≤ rtI s.2.1) ∧ (s.2.2 < 0 → rtI s.2.1 < npS s ∧ npS s ≤ rtI s.2.1 - s.2.2) := by
  obtain ⟨p, d, q⟩ := s
  refine ⟨fun hq => ?_, fun hq => ?_⟩
  · have hq' : 0 < q := hq
    have h1 := Int.mul_ediv_add_emod (p + rtI d) q
    have h2 := Int.emod_nonneg (p + rtI d) (show q ≠ 0 by omega)
    have h3 := Int.emod_lt_of_pos (p + rtI d) hq'
    have e : flS (p, d, q) = (p + rtI d) / q := by simp [flS, hq']
    simp only [npS, e]
    rw [Int.mul_comm]
    generalize q * ((p + rtI d) / q) = X at *
    omega
  · have hq' : q < 0 := hq
    have h1 := Int.mul_ediv_add_emod (p + rtI d) (-q)
    have h2 := Int.emod_nonneg (p + rtI d) (show -q ≠ 0 by omega)
    have h3 := Int.emod_lt_of_pos (p + rtI d) (show 0 < -q by omega)
    have e : flS (p, d, q) = -((p + rtI d) / (-q)) - 1 := by
      have : ¬ 0 < q := by omega
      simp [flS, this]
    simp only [npS, e]
    have k : (-((p + rtI d) / -q) - 1) * q = -q * ((p + rtI d) / -q) - q := by
      rw [Int.sub_mul, Int.neg_mul, Int.neg_mul, Int.mul_comm q]; omega
    rw [k]
    generalize -q * ((p + rtI d) / -q) = X at *
    omega
/-- All that the walks must know of the numbers on the way to the next surd. -/
theorem step_bds {p d q : Int} (h : surdB p d q = true) : (2 ≤ d ∧ d ≤ 1000000) ∧ (1 ≤ rtI d ∧ rtI d ≤ 999) ∧ (-1000000 ≤ p ∧ p ≤ 1000000) ∧ (-1000000 ≤ q ∧ q ≤ 1000000 ∧ q ≠ 0) ∧
    (-1001001 ≤ flS (p, d, q) ∧ flS (p, d, q) ≤ 1001001) ∧ (-1001000 ≤ npS (p, d, q) ∧ npS (p, d, q) ≤ 1001000) ∧ (0 ≤ npS (p, d, q) * npS (p, d, q) ∧ npS (p, d, q) * npS (p, d, q) ≤ 1002001000000) ∧
    (-2002001 ≤ flS (p, d, q) * q ∧ flS (p, d, q) * q ≤ 2002001) ∧ (-1002001000000 ≤ nqS (p, d, q) ∧ nqS (p, d, q) ≤ 1002001000000) := by
  obtain ⟨⟨d1, d2⟩, hs, ⟨p1, p2⟩, ⟨q1, q2⟩, q0, hm⟩ := surdB_true.1 h
  obtain ⟨r1, r2, r3, r4⟩ := rt_small d1 d2 hs
  have hrng := npS_rng (s := (p, d, q)) h
  have hnp : -1001000 ≤ npS (p, d, q) ∧ npS (p, d, q) ≤ 1001000 := by
    rcases Int.lt_or_lt_of_ne q0 with g | g
    · have := hrng.2 g; simp only at this; omega
    · have := hrng.1 g; simp only at this; omega
  have hfl : -1001001 ≤ flS (p, d, q) ∧ flS (p, d, q) ≤ 1001001 := by
    unfold flS
    simp only
    split
    · rename_i g
      have := ediv_bd (n := p + rtI d) (M := 1001000) g (by omega) (by omega)
      omega
    · rename_i g
      have := ediv_bd (n := p + rtI d) (M := 1001000) (show 0 < -q by omega) (by omega) (by omega)
      omega
  have hsq : 0 ≤ npS (p, d, q) * npS (p, d, q) ∧ npS (p, d, q) * npS (p, d, q) ≤ 1002001000000 := by
    obtain ⟨m1, m2⟩ := hnp
    have := mul_bd (x := npS (p, d, q)) (y := npS (p, d, q)) (M := 1001000) (N := 1001000) (by omega) m2 (by omega) m2 m1 m1
    have h0 : 0 ≤ npS (p, d, q) * npS (p, d, q) := by
      rcases Int.le_total 0 (npS (p, d, q)) with g | g
      · exact Int.mul_nonneg g g
      · exact Int.mul_nonneg_of_nonpos_of_nonpos g g
    omega
  have hnq : -1002001000000 ≤ nqS (p, d, q) ∧ nqS (p, d, q) ≤ 1002001000000 := by
    unfold nqS
    simp only
    generalize npS (p, d, q) * npS (p, d, q) = X at *
    have : ((d - X).tdiv q).natAbs ≤ (d - X).natAbs := by
      rw [Int.natAbs_tdiv]
      exact Nat.div_le_self _ _
    omega
  have hmul : flS (p, d, q) * q = npS (p, d, q) + p := by simp only [npS]; omega
  exact ⟨⟨d1, d2⟩, ⟨r1, r2⟩, ⟨p1, p2⟩, ⟨q1, q2, q0⟩, hfl, hnp, hsq, by omega, hnq⟩
/-- The surds up to the last one before one comes again, and the place of this one; k: how many may still come. -/
def per : Nat → List Sd → Sd → Option (List Sd × Nat)
  | 0, L, s => if s ∈ L then some (L, L.idxOf s) else none
  | k + 1, L, s => if s ∈ L then some (L, L.idxOf s) else if sdOk (nxS s) = true then per k (L ++ [s]) (nxS s) else none
def perOf (s : Sd) : Option (List Sd × Nat) := per 400 [] s
def headOf (R : List Sd × Nat) : List Int := (R.1.take R.2).map flS
def cycOf (R : List Sd × Nat) : List Int := (R.1.drop R.2).map flS
theorem per_facts : ∀ (k : Nat) (L : List Sd) (s : Sd) (R : List Sd × Nat), per k L s = some R → R.2 < R.1.length ∧ R.1.length ≤ L.length + k
  | 0, L, s, R, h => by
    unfold per at h
    split at h
    · rename_i g
      injection h with h; subst h
      exact ⟨List.idxOf_lt_length_of_mem g, by simp⟩
    · cases h
  | k + 1, L, s, R, h => by
    unfold per at h
    split at h
    · rename_i g
      injection h with h; subst h
      exact ⟨List.idxOf_lt_length_of_mem g, by simp⟩
    · split at h
      · have := per_facts k _ _ R h
        simp at this
        omega
      · cases h
end Go.Proofs.YtjgafjbccfjojaaGreat
namespace Go.Proofs.YtjgafjbccfjojaaGreat
open Go.RowKit Go.Sort
set_option maxHeartbeats 1000000 in
theorem l07Floor_any (p d q : Int) (w : World) (h : surdB p d q = true) :
    Calls Tryz.prog 102 #[surdV p d q] w fun e w' => e = .returned (.int .i64 (flS (p, d, q))) ∧ Below w.heap.size w w' := by
  obtain ⟨⟨d1, d2⟩, ⟨r1, r2⟩, ⟨p1, p2⟩, ⟨q1, q2, q0⟩, ⟨f1, f2⟩, _⟩ := step_bds h
  have HQ : Hid (∀ W, Calls Tryz.prog 104 #[.int .i64 d] W fun e w' => e = .returned (.int .i64 (rtI d)) ∧ W = w') := fun W => l07Root_any d W (by omega) (by omega)
  have HF : Hid (flS (p, d, q) = if 0 < q then (p + rtI d) / q else -((p + rtI d) / (-q)) - 1) := rfl
  have HN : Hid (∀ x m : Int, 0 < m → -(x / m) - 1 = (-x - 1) / m) := neg_floor
  clear h
  generalize rtI d = r at *
  generalize flS (p, d, q) = a at *
  unfold surdV
  by_cases g : 0 < q
  · have HE := Lib.hid (HF.out.trans (if_pos g))
    have HD : Hid (∀ W, Calls Tryz.prog 41 #[.int .i64 (p + r), .int .i64 q] W fun e w' => e = .returned (.int .i64 ((p + r) / q)) ∧ W = w') := fun W => l02Floor_any _ _ W (by omega) (by omega) (by omega) (by omega)
    clear HF HN f1 f2
    go_enter Tryz.func102, Tryz.ntmps102
    go_wp2_with (first | (go_at_call 104; (with_reducible refine (HQ.out _).mono ?_); rintro e w' ⟨rfl, rfl⟩) | (go_at_call 41; (with_reducible refine (HD.out _).mono ?_); rintro e w' ⟨rfl, rfl⟩))
    go_ret
    exact ⟨ret_int HE.out.symm, ext1 _ _⟩
  · have HE := Lib.hid (HF.out.trans (if_neg g))
    have HX : Hid ((-(p + r) - 1) / (-q) = a) := by
      unfold Hid
      rw [HE.out, HN.out (p + r) (-q) (by omega)]
    have hq' : 1 ≤ -q := by omega
    have HD1 : Hid (∀ W, Calls Tryz.prog 41 #[.int .i64 (p + r), .int .i64 (-q)] W fun e w' => e = .returned (.int .i64 ((p + r) / (-q))) ∧ W = w') := fun W => l02Floor_any _ _ W (by omega) (by omega) (by omega) (by omega)
    have HD2 : Hid (∀ W, Calls Tryz.prog 41 #[.int .i64 (-p - r - 1), .int .i64 (-q)] W fun e w' => e = .returned (.int .i64 a) ∧ W = w') := fun W => by
      have hc : Calls Tryz.prog 41 #[.int .i64 (-p - r - 1), .int .i64 (-q)] W fun e w' => e = .returned (.int .i64 ((-p - r - 1) / (-q))) ∧ W = w' := l02Floor_any _ _ W (by omega) (by omega) (by omega) (by omega)
      have e1 : (-p - r - 1) / (-q) = a := by rw [show -p - r - 1 = -(p + r) - 1 by omega]; exact HX.out
      rw [e1] at hc
      exact hc
    have hb := ediv_bd (n := p + r) (g := -q) (M := 1001000) (by omega) (by omega) (by omega)
    obtain ⟨b1, b2⟩ := hb
    have HZ : Hid (-((p + r) / (-q)) - 1 = a) := HE.out.symm
    clear HF HN HE HX
    generalize (p + r) / (-q) = z at *
    go_enter Tryz.func102, Tryz.ntmps102
    go_wp2_with (first | (go_at_call 104; (with_reducible refine (HQ.out _).mono ?_); rintro e w' ⟨rfl, rfl⟩) | (go_at_call 41; (with_reducible refine (HD1.out _).mono ?_); rintro e w' ⟨rfl, rfl⟩) | (go_at_call 41; (with_reducible refine (HD2.out _).mono ?_); rintro e w' ⟨rfl, rfl⟩))
    go_ret
    first
      | exact ⟨rfl, ext1 _ _⟩
      | exact ⟨ret_int HZ.out, ext1 _ _⟩
/-- What the reference's step returns: whether the next surd is one, and it. -/
def RetNx (w : World) (s : Sd) (e : Ending) (w' : World) : Prop :=
  ∃ t : Sd, e = .returned (.tuple #[surdV t.1 t.2.1 t.2.2, .bool (sdOk (nxS s))]) ∧ (sdOk (nxS s) = true → t = nxS s) ∧ Below w.heap.size w w'
set_option maxHeartbeats 2000000 in
theorem l07Next_any (p d q : Int) (w : World) (h : surdB p d q = true) :
    Calls Tryz.prog 103 #[surdV p d q, .int .i64 (flS (p, d, q))] w (RetNx w (p, d, q)) := by
  obtain ⟨⟨d1, d2⟩, ⟨r1, r2⟩, ⟨p1, p2⟩, ⟨q1, q2, q0⟩, ⟨f1, f2⟩, ⟨n1, n2⟩, ⟨m1, m2⟩, ⟨k1, k2⟩, ⟨o1, o2⟩⟩ := step_bds h
  have HP : Hid (flS (p, d, q) * q - p = npS (p, d, q)) := rfl
  have HQ : Hid ((d - npS (p, d, q) * npS (p, d, q)).tdiv q = nqS (p, d, q)) := rfl
  have HV : Hid (∀ W, Calls Tryz.prog 98 #[surdV (npS (p, d, q)) d (nqS (p, d, q))] W fun e w' => e = .returned (.bool (sdOk (nxS (p, d, q)))) ∧ Below W.heap.size W w') := fun W => l07Ok_any _ _ _ W
  have HOK : Hid (sdOk (nxS (p, d, q)) = surdB (npS (p, d, q)) d (nqS (p, d, q))) := rfl
  have HX : Hid (nxS (p, d, q) = (npS (p, d, q), d, nqS (p, d, q))) := rfl
  have e0 : (q == 0) = false := by simpa using q0
  clear h
  unfold RetNx
  generalize nxS (p, d, q) = X at *
  generalize hok : sdOk X = ok at *
  clear hok
  generalize flS (p, d, q) = a at *
  generalize npS (p, d, q) = np at *
  generalize nqS (p, d, q) = nq at *
  cases hin : inR np (-1000000) 1000000
  · have hf : ok = false := by
      have := HOK.out
      rw [this, surdB, hin]
      simp
    subst hf
    have HIN := Lib.hid hin
    clear HOK hin HX
    unfold surdV at *
    go_enter Tryz.func103, Tryz.ntmps103
    go_wp2_with fail
    rw [HP.out]
    have B2 : BoxV (w.heap.size + 1) [.int .i64 0, .int .i64 0, .int .i64 0] ((w.alloc (.cells #[.int .i64 p, .int .i64 d, .int .i64 q] 117)).alloc (.cells #[.int .i64 0, .int .i64 0, .int .i64 0] 117)) := by
      have := BoxV.new (w.alloc (.cells #[.int .i64 p, .int .i64 d, .int .i64 q] 117)) #[.int .i64 0, .int .i64 0, .int .i64 0] 117
      simpa using this
    have hbb := Lib.hid (ext_alloc (ext1 w (.cells #[.int .i64 p, .int .i64 d, .int .i64 q] 117)) (.cells #[.int .i64 0, .int .i64 0, .int .i64 0] 117))
    generalize ((w.alloc (.cells #[.int .i64 p, .int .i64 d, .int .i64 q] 117)).alloc (.cells #[.int .i64 0, .int .i64 0, .int .i64 0] 117)) = W at *
    obtain ⟨s0, s1, s2⟩ := set3 (B2.at 0 _ rfl) (B2.at 1 _ rfl) (B2.at 2 _ rfl)
    have y0 := B2.at 0 _ rfl
    have y1 := B2.at 1 _ rfl
    have y2 := B2.at 2 _ rfl
    have F0 := B2.f 0
    have F1 := B2.f 1
    have F2 := B2.f 2
    refine (l00In_is HIN.out _).mono ?_
    rintro e w' ⟨rfl, rfl⟩
    go_wp2
    exact bodyPost_ret (v := .tuple #[surdV 0 0 0, .bool false]) (by simp [results, Tryz.results103, go_sem, s0, s1, s2]; done) rfl ⟨(0, 0, 0), rfl, (fun h => by cases h), ext_set (ext_set (ext_set hbb.out (by simp) _) (by simp) _) (by simp) _⟩
  · have HIN := Lib.hid hin
    clear HOK hin
    have w1 : IntKind.i64.wrap (np * np) = np * np := IntWalk.i64_in _ (by omega)
    have w2 : IntKind.i64.wrap (d - np * np) = d - np * np := IntWalk.i64_in _ (by omega)
    have w3 : IntKind.i64.wrap ((d - np * np).tdiv q) = nq := by rw [HQ.out]; exact IntWalk.i64_in _ (by omega)
    unfold surdV at *
    go_enter Tryz.func103, Tryz.ntmps103
    go_wp2_with fail
    rw [HP.out]
    have B1 : BoxV w.heap.size [.int .i64 p, .int .i64 d, .int .i64 q] ((w.alloc (.cells #[.int .i64 p, .int .i64 d, .int .i64 q] 117)).alloc (.cells #[.int .i64 0, .int .i64 0, .int .i64 0] 117)) := ((BoxV.new w #[.int .i64 p, .int .i64 d, .int .i64 q] 117).alloc _)
    have B2 : BoxV (w.heap.size + 1) [.int .i64 0, .int .i64 0, .int .i64 0] ((w.alloc (.cells #[.int .i64 p, .int .i64 d, .int .i64 q] 117)).alloc (.cells #[.int .i64 0, .int .i64 0, .int .i64 0] 117)) := by
      have := BoxV.new (w.alloc (.cells #[.int .i64 p, .int .i64 d, .int .i64 q] 117)) #[.int .i64 0, .int .i64 0, .int .i64 0] 117
      simpa using this
    have hbb0 := Lib.hid (ext_alloc (ext1 w (.cells #[.int .i64 p, .int .i64 d, .int .i64 q] 117)) (.cells #[.int .i64 0, .int .i64 0, .int .i64 0] 117))
    refine (l00In_is HIN.out _).mono ?_
    rintro e w' ⟨rfl, rfl⟩
    generalize hWW : ((w.alloc (.cells #[.int .i64 p, .int .i64 d, .int .i64 q] 117)).alloc (.cells #[.int .i64 0, .int .i64 0, .int .i64 0] 117)) = W1 at *
    have hlt2 := B2.lt
    clear hWW
    have x0 := B1.at 0 _ rfl
    have x1 := B1.at 1 _ rfl
    have x2 := B1.at 2 _ rfl
    have H1 := Lib.hid (fun (W : World) (hb : BoxV w.heap.size [.int .i64 p, .int .i64 d, .int .i64 q] W) => And.intro (hb.at 0 _ rfl) (And.intro (hb.at 1 _ rfl) (hb.at 2 _ rfl)))
    go_wp2_with fail
    go_region_held3 (fun w' => w'.cell? ⟨w.heap.size, 0, none⟩ = some (.int .i64 p) ∧ w'.cell? ⟨w.heap.size, 1, none⟩ = some (.int .i64 d) ∧ w'.cell? ⟨w.heap.size, 2, none⟩ = some (.int .i64 q))
      (first | exact H1.out _ B1.drew | exact H1.out _ (B1.drew.alloc _) | exact H1.out _ ((((B1.drew.alloc _).setFar _ (by simp; omega)).setFar _ (by simp; omega)).setFar _ (by simp; omega)))
      (fail)
    go_wp2_with fail
    have B3 : BoxV W1.heap.size [.int .i64 np, .int .i64 d, .int .i64 nq] ((W1.alloc (.cells #[.int .i64 np, .int .i64 d, .int .i64 nq] 117)).drew) := (BoxV.new W1 #[.int .i64 np, .int .i64 d, .int .i64 nq] 117).drew
    have B4 : Hid (BoxV (w.heap.size + 1) [.int .i64 0, .int .i64 0, .int .i64 0] ((W1.alloc (.cells #[.int .i64 np, .int .i64 d, .int .i64 nq] 117)).drew)) := (B2.alloc _).drew
    have hbb : Hid (Below w.heap.size w ((W1.alloc (.cells #[.int .i64 np, .int .i64 d, .int .i64 nq] 117)).drew)) := ext_drew (ext_alloc hbb0.out _)
    clear x0 x1 x2 H1 B1 B2 hbb0
    generalize ((W1.alloc (.cells #[.int .i64 np, .int .i64 d, .int .i64 nq] 117)).drew) = W at *
    generalize W1.heap.size = g at *
    have x0 := B3.at 0 _ rfl
    have x1 := B3.at 1 _ rfl
    have x2 := B3.at 2 _ rfl
    have H3 := Lib.hid (fun (W : World) (hb : BoxV g [.int .i64 np, .int .i64 d, .int .i64 nq] W) => And.intro (hb.at 0 _ rfl) (And.intro (hb.at 1 _ rfl) (hb.at 2 _ rfl)))
    go_region_held3 (fun w' => w'.cell? ⟨g, 0, none⟩ = some (.int .i64 np) ∧ w'.cell? ⟨g, 1, none⟩ = some (.int .i64 d) ∧ w'.cell? ⟨g, 2, none⟩ = some (.int .i64 nq))
      (first | exact H3.out _ B3.drew | exact H3.out _ (B3.drew.next (by assumption)) | exact H3.out _ ((((B3.drew.next hb4).setFar _ (by omega)).setFar _ (by omega)).setFar _ (by omega)))
      (first | (go_at_call 98; (with_reducible refine (HV.out _).mono ?_); rintro e w4 ⟨rfl, hb4⟩; have B5 := B4.out.drew.next hb4; have y0 := B5.at 0 _ rfl; have y1 := B5.at 1 _ rfl; have y2 := B5.at 2 _ rfl; have F0 := B5.f 0; have F1 := B5.f 1; have F2 := B5.f 2))
    obtain ⟨s0, s1, s2⟩ := set3 y0 y1 y2
    go_wp2
    exact bodyPost_ret (v := .tuple #[surdV np d nq, .bool ok]) (by simp [results, Tryz.results103, go_sem, s0, s1, s2]; done) rfl ⟨(np, d, nq), rfl, (fun _ => HX.out.symm), ext_set (ext_set (ext_set (ext_trans (ext_drew hbb.out) hb4) (by simp) _) (by simp) _) (by simp) _⟩
end Go.Proofs.YtjgafjbccfjojaaGreat
namespace Go.Proofs.YtjgafjbccfjojaaGreat
open Go.RowKit Go.Sort Go.Maps Go.WideMaps
/-- Surds as a row of integers. -/
def sdL (L : List Sd) : List Int := L.flatMap fun s => [s.1, s.2.1, s.2.2]
theorem sdL_length (L : List Sd) : (sdL L).length = L.length * 3 := by
  induction L with
  | nil => rfl
  | cons p ps ih => simp only [sdL, List.flatMap_cons, List.length_append, List.length_cons, List.length_nil] at *; omega
theorem sdL_snoc (L : List Sd) (s : Sd) : sdL (L ++ [s]) = sdL L ++ [s.1, s.2.1, s.2.2] := by simp [sdL]
theorem sdL_get {L : List Sd} {j : Nat} {s : Sd} (h : L[j]? = some s) : (sdL L)[j * 3]? = some s.1 ∧ (sdL L)[j * 3 + 1]? = some s.2.1 ∧ (sdL L)[j * 3 + 2]? = some s.2.2 := by
  induction L generalizing j with
  | nil => simp at h
  | cons a ps ih =>
    cases j with
    | zero =>
      simp at h
      subst h
      simp [sdL]
    | succ j =>
      have := ih (j := j) (by simpa using h)
      have e1 : (j + 1) * 3 = j * 3 + 1 + 1 + 1 := by omega
      simp only [sdL, List.flatMap_cons] at *
      rw [e1]
      exact this
theorem own_setFar {w : World} {base : Nat} {e : TypeId} {size n : Nat} {v : Value} {xs : List Value} (h : w.ownsRow base e size v n xs) {g j : Nat} (u : Value) (hg : g < base) : (w.setCell ⟨g, j, none⟩ u).ownsRow base e size v n xs := by
  obtain ⟨h1, h2⟩ := h
  refine ⟨h1, ?_⟩
  rcases h2 with h2 | ⟨g', cap, cur, hv, hb, hh, r⟩
  · exact .inl h2
  · refine .inr ⟨g', cap, cur, hv, hb, (Below.heap_setCell w ⟨g, j, none⟩ u g' ?_).trans hh, r⟩
    intro e
    have e : g' = g := e
    omega
theorem own_far {w : World} {base : Nat} {e : TypeId} {size n : Nat} {v : Value} {xs : List Value} (h : w.ownsRow base e size v n xs) {g : Nat} (hg : g < base) : v.ownBlock ≠ some g := fun e => by have := (h.lt g e).1; omega
end Go.Proofs.YtjgafjbccfjojaaGreat
