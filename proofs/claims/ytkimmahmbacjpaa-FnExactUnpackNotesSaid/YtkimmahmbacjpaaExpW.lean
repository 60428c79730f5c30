/- The terms of a fraction: both walks. No condition but those that each theorem names. -/
import Derived.Test.YtkimmahmbacjpaaDriftW
import Derived.Test.YtkimmahmbacjpaaSlices
namespace Go.Proofs.Ytkimmahmbacjpaa
open Go.RowKit Go.Sort

theorem floorDiv_any (n d : Int) (w : World) (n1 : -9223372036854775806 ≤ n) (n2 : n ≤ 9223372036854775806) (d1 : 1 ≤ d) (d2 : d ≤ 9223372036854775807) :
    Calls Try.prog 85 #[.int .i64 n, .int .i64 d] w fun e w' => e = .returned (.int .i64 (n / d)) ∧ w = w' := by
  rw [floor_eq (by omega)]
  obtain ⟨q1, q2⟩ := tdiv_bd (n := n) (d := d) (by omega) n1 n2
  obtain ⟨r1, r2⟩ := tmod_bd (n := n) (d := d) (by omega)
  have hs : (0 ≤ n → 0 ≤ n.tmod d) ∧ (n < 0 → n.tmod d ≤ 0) := by
    refine ⟨fun h => Int.tmod_nonneg _ h, fun h => ?_⟩
    have := Int.tmod_nonneg d (show 0 ≤ -n by omega)
    rw [Int.neg_tmod] at this
    omega
  have d0 : (d == 0) = false := by simp; omega
  have e2 : decide (d < 0) = false := by simp; omega
  generalize hq : n.tdiv d = q at *
  generalize hr : n.tmod d = r at *
  have w1 : IntKind.i64.wrap q = q := IntWalk.i64_in _ (by omega)
  have w2 : IntKind.i64.wrap r = r := IntWalk.i64_in _ (by omega)
  by_cases h0 : r = 0
  · have h1 : (r != 0) = false := by simpa using h0
    rw [if_neg (show ¬ r < 0 by omega)]
    clear h0 hs
    go_enter Try.func85, Try.ntmps85
    go_wp2
    go_ret
    exact ⟨rfl, rfl⟩
  · have h1 : (r != 0) = true := by simpa using h0
    by_cases hn : n < 0
    · rw [if_pos (show r < 0 by have := hs.2 hn; omega)]
      have e1 : decide (n < 0) = true := by simpa using hn
      clear h0 hs
      go_enter Try.func85, Try.ntmps85
      go_wp2
      go_ret
      exact ⟨rfl, rfl⟩
    · rw [if_neg (show ¬ r < 0 by have := hs.1 (by omega); omega)]
      have e1 : decide (n < 0) = false := by simpa using hn
      clear h0 hs
      go_enter Try.func85, Try.ntmps85
      go_wp2
      go_ret
      exact ⟨rfl, rfl⟩

/-- The short terms of n / d, k at most. -/
def expT : Nat → Int → Int → List Int
  | 0, _, _ => []
  | k + 1, n, d => if d = 0 then [] else n / d :: expT k d (n % d)
def termsOf (n d : Int) : List Int := expT d.toNat n d
theorem expT_zero (k : Nat) (n : Int) : expT k n 0 = [] := by cases k <;> simp [expT]
theorem expT_step {k : Nat} {n d : Int} (h : 1 ≤ d) (hk : d ≤ k) : ∃ j : Nat, k = j + 1 ∧ n % d ≤ j ∧ 0 ≤ n % d ∧ n % d < d ∧ expT k n d = n / d :: expT j d (n % d) := by
  have h1 := Int.emod_nonneg n (b := d) (by omega)
  have h2 := Int.emod_lt_of_pos n (show 0 < d by omega)
  refine ⟨k - 1, by omega, by omega, h1, h2, ?_⟩
  obtain ⟨j, rfl⟩ : ∃ j, k = j + 1 := ⟨k - 1, by omega⟩
  rw [expT, if_neg (by omega)]; rfl
theorem expT_length : ∀ (k : Nat) (n d : Int), (expT k n d).length ≤ k
  | 0, _, _ => by simp [expT]
  | k + 1, n, d => by
    unfold expT
    split
    · simp
    · have := expT_length k d (n % d)
      simp; omega
theorem ediv_rng {n d : Int} (d1 : 1 ≤ d) (n1 : -1000000000 ≤ n) (n2 : n ≤ 1000000000) : -1000000000 ≤ n / d ∧ n / d ≤ 1000000000 := ediv_bd (by omega) n1 n2
theorem expT_bd : ∀ (k : Nat) (n d : Int), -1000000000 ≤ n → n ≤ 1000000000 → 0 ≤ d → d ≤ 1000000000 → ∀ t ∈ expT k n d, -1000000000 ≤ t ∧ t ≤ 1000000000
  | 0, _, _, _, _, _, _, t, ht => by simp [expT] at ht
  | k + 1, n, d, n1, n2, d1, d2, t, ht => by
    unfold expT at ht
    split at ht
    · simp at ht
    · rename_i h0
      rcases List.mem_cons.1 ht with rfl | ht
      · exact ediv_rng (by omega) n1 n2
      · have h1 := Int.emod_nonneg n (b := d) (by omega)
        have h2 := Int.emod_lt_of_pos n (show 0 < d by omega)
        exact expT_bd k d (n % d) (by omega) d2 h1 (by omega) t ht

/-- What a call returns that makes a slice of integers. -/
def RetList (w : World) (xs : List Int) (e : Ending) (w' : World) : Prop :=
  ∃ A c, e = .returned (.slice A xs.length c) ∧ Wr (Value.int .i64) w' w.heap.size A xs ∧ Below w.heap.size w w'

/-- What holds of a list on its way. -/
def OutI (w : World) (base : Nat) (out : List Int) (v : Value) (wr : World) : Prop :=
  wr.ownsRow base 2 1 v out.length (out.map (Value.int .i64)) ∧ Below w.heap.size w wr ∧ base ≤ wr.heap.size
theorem OutI.push {w : World} {base : Nat} {out : List Int} {v : Value} {wr : World} (h : OutI w base out v wr) (hbase : w.heap.size ≤ base) {t : Int} (v' : Value) (w3 : World) {o : Obj}
    (hown3 : w3.ownsRow base 2 1 v' (out.length + 1) (out.map (Value.int .i64) ++ [.int .i64 t])) (hg : (wr.alloc o).grownBy w3 v.ownBlock) : OutI w base (out ++ [t]) v' w3 := by
  obtain ⟨hown, hbel, hsz⟩ := h
  refine ⟨by simpa using hown3, below_grown (ext_alloc hbel o) (hown.alloc o) hbase hg, ?_⟩
  have := hg.size
  simp at this
  omega

theorem outI_start (w : World) (o : Obj) : OutI w (w.heap.size + 1) [] (.slice (some ⟨w.heap.size + 1, 0, none⟩) 0 0) ((w.alloc o).alloc (.cells #[] 2)) := by
  refine ⟨?_, ext_alloc (ext1 _ _) _, by simp⟩
  have h := World.ownsRow_lit (base := w.heap.size + 1) (e := 2) (size := 1) (w.alloc o) #[] 0 (by simp) (by simp) rfl
  simpa using h
set_option maxHeartbeats 2000000 in
theorem expand_any (n d : Int) (w : World) (n1 : -1000000000 ≤ n) (n2 : n ≤ 1000000000) (d1 : 1 ≤ d) (d2 : d ≤ 1000000000) :
    Calls Try.prog 48 #[.int .i64 n, .int .i64 d] w (RetList w (termsOf n d)) := by
  obtain ⟨i0, hi, hz0, hz1, hz2⟩ := info_parts info64
  have HI := Lib.hid hi
  obtain ⟨R, hR⟩ : ∃ R, termsOf n d = R := ⟨_, rfl⟩
  rw [hR]
  have HR : Hid (expT d.toNat n d = R) := hR
  clear hR
  (try unfold fracV)
  go_enter Try.func48, Try.ntmps48
  go_wp2_with fail
  go_loopw [0, 1, 5] (fun s t v wr => ∃ (k : Nat) (m e : Int) (out : List Int), s = .int .i64 m ∧ t = .int .i64 e ∧ -1000000000 ≤ m ∧ m ≤ 1000000000 ∧ 0 ≤ e ∧ e ≤ 1000000000 ∧ e ≤ k ∧ out.length + e ≤ 1000000000 ∧ Hid (out ++ expT k m e = R) ∧ OutI w (w.heap.size) out v wr) (fun _ t _ _ => (intOf t).toNat)
  case atStart =>
    have HR' := HR.out
    subst HR'
    exact ⟨d.toNat, n, d, [], rfl, rfl, by omega, by omega, by omega, by omega, by omega, (by simp; exact d2), rfl, own_nil, Below.refl _ _, Nat.le_refl _⟩
  case round =>
    obtain ⟨k, m, e, out, rfl, rfl, m1, m2, e1, e2, hek, hol, HO, HV⟩ := hrel
    clear HR
    have HVV := Lib.hid HV
    clear HV
    by_cases h0 : e = 0
    · have t0 : (e != 0) = false := by simpa using h0
      have HE : Hid (R = out) := by
        have h := HO.out
        rw [h0, expT_zero, List.append_nil] at h
        exact h.symm
      clear h0
      go_wp2
      go_ret
      rw [HE.out]
      obtain ⟨hown, hbel, hsz⟩ := HVV.out
      obtain ⟨hn, A, c, rfl, hw⟩ := Wr.of_own hown
      exact ⟨A, c, rfl, hw.more (by omega), hbel⟩
    · have t0 : (e != 0) = true := by simpa using h0
      obtain ⟨j, hj, g1, g2, g3, hst⟩ := expT_step (n := m) (show 1 ≤ e by omega) hek
      obtain ⟨q1, q2⟩ := ediv_rng (n := m) (d := e) (by omega) m1 m2
      have hme := Int.mul_ediv_add_emod m e
      have hcm : e * (m / e) = m / e * e := Int.mul_comm _ _
      have HN : Hid ((out ++ [m / e]) ++ expT j e (m % e) = R) := by
        have h := HO.out
        rw [hst] at h
        unfold Hid
        rw [List.append_assoc]
        exact h
      generalize hq : m / e = q at *
      generalize hr : m % e = r at *
      have hqe : q * e = m - r := by omega
      have hqe1 : -3000000000 ≤ q * e ∧ q * e ≤ 3000000000 := by omega
      obtain ⟨p1, p2⟩ := hqe1
      have HQ := Lib.hid hqe
      have HC : Hid (∀ W, Calls Try.prog 85 #[.int .i64 m, .int .i64 e] W fun x w' => x = .returned (.int .i64 q) ∧ W = w') := fun W => by
        have h : Calls Try.prog 85 #[.int .i64 m, .int .i64 e] W fun x w' => x = .returned (.int .i64 (m / e)) ∧ W = w' := floorDiv_any _ _ _ (by omega) (by omega) (by omega) (by omega)
        rwa [hq] at h
      clear hst hme hcm hq hr hqe h0 HO
      go_wp2_with fail
      refine (HC.out _).mono ?_
      rintro x w' ⟨rfl, rfl⟩
      have hown := HVV.out.1
      have hbz := HVV.out.2.2
      go_wp2_with (at_builtin; refine wpList_append_own _ rfl _ _ 32 rfl (w.heap.size) 2 i0 (.int .i64 0) 1 8 Try.underlying32 HI.out hz0 hz1 hz2 rfl (by decide) _ _ _ rfl (hown.alloc _) ⟨wr.heap.size, 0, none⟩ 1 1 [.int .i64 q] rfl rfl ?c1 ?c2 ?c3 ?c4 ?c5 ?_)
      case c1 => exact cell_one_new _ _ _
      case c2 => simp [Value.oneCell']
      case c3 => unfold maxLen; omega
      case c4 => omega
      case c5 => simp; omega
      intro v' w3 hown3 hgrow _
      have HV3 := OutI.push HVV.out (by omega) _ _ hown3 hgrow
      clear hown3 hgrow hown
      go_wp2
      go_roundw
      case rel => exact ⟨j, e, r, out ++ [q], rfl, val_int (by have := HQ.out; omega), by omega, by omega, by omega, by omega, g1, by simp; omega, HN.out, HV3⟩
      case measure => have := HQ.out; simp [intOf]; omega
set_option maxHeartbeats 2000000 in
theorem l03Terms_any (n d : Int) (w : World) (n1 : -1000000000 ≤ n) (n2 : n ≤ 1000000000) (d1 : 1 ≤ d) (d2 : d ≤ 1000000000) :
    Calls Try.prog 77 #[fracV n d] w (RetList w (termsOf n d)) := by
  obtain ⟨i0, hi, hz0, hz1, hz2⟩ := info_parts info64
  have HI := Lib.hid hi
  obtain ⟨R, hR⟩ : ∃ R, termsOf n d = R := ⟨_, rfl⟩
  rw [hR]
  have HR : Hid (expT d.toNat n d = R) := hR
  clear hR
  (try unfold fracV)
  go_enter Try.func77, Try.ntmps77
  go_wp2_with fail
  go_loopw [4, 5, 3] (fun s t v wr => ∃ (k : Nat) (m e : Int) (out : List Int), s = .int .i64 m ∧ t = .int .i64 e ∧ -1000000000 ≤ m ∧ m ≤ 1000000000 ∧ 0 ≤ e ∧ e ≤ 1000000000 ∧ e ≤ k ∧ out.length + e ≤ 1000000000 ∧ Hid (out ++ expT k m e = R) ∧ OutI w (w.heap.size+1) out v wr) (fun _ t _ _ => (intOf t).toNat)
  case atStart =>
    have HR' := HR.out
    subst HR'
    exact ⟨d.toNat, n, d, [], rfl, rfl, by omega, by omega, by omega, by omega, by omega, (by simp; exact d2), rfl, outI_start w _⟩
  case round =>
    obtain ⟨k, m, e, out, rfl, rfl, m1, m2, e1, e2, hek, hol, HO, HV⟩ := hrel
    clear HR
    have HVV := Lib.hid HV
    clear HV
    by_cases h0 : e = 0
    · have t0 : (e != 0) = false := by simpa using h0
      have HE : Hid (R = out) := by
        have h := HO.out
        rw [h0, expT_zero, List.append_nil] at h
        exact h.symm
      clear h0
      go_wp2
      go_ret
      rw [HE.out]
      obtain ⟨hown, hbel, hsz⟩ := HVV.out
      obtain ⟨hn, A, c, rfl, hw⟩ := Wr.of_own hown
      exact ⟨A, c, rfl, hw.more (by omega), hbel⟩
    · have t0 : (e != 0) = true := by simpa using h0
      obtain ⟨j, hj, g1, g2, g3, hst⟩ := expT_step (n := m) (show 1 ≤ e by omega) hek
      obtain ⟨q1, q2⟩ := ediv_rng (n := m) (d := e) (by omega) m1 m2
      have hme := Int.mul_ediv_add_emod m e
      have hcm : e * (m / e) = m / e * e := Int.mul_comm _ _
      have HN : Hid ((out ++ [m / e]) ++ expT j e (m % e) = R) := by
        have h := HO.out
        rw [hst] at h
        unfold Hid
        rw [List.append_assoc]
        exact h
      generalize hq : m / e = q at *
      generalize hr : m % e = r at *
      have hqe : q * e = m - r := by omega
      have hqe1 : -3000000000 ≤ q * e ∧ q * e ≤ 3000000000 := by omega
      obtain ⟨p1, p2⟩ := hqe1
      have HQ := Lib.hid hqe
      have HC : Hid (∀ W, Calls Try.prog 109 #[.int .i64 m, .int .i64 e] W fun x w' => x = .returned (.int .i64 q) ∧ W = w') := fun W => by
        have h : Calls Try.prog 109 #[.int .i64 m, .int .i64 e] W fun x w' => x = .returned (.int .i64 (m / e)) ∧ W = w' := l02Floor_any _ _ _ (by omega) (by omega) (by omega) (by omega)
        rwa [hq] at h
      clear hst hme hcm hq hr hqe h0 HO
      go_wp2_with fail
      refine (HC.out _).mono ?_
      rintro x w' ⟨rfl, rfl⟩
      have hown := HVV.out.1
      have hbz := HVV.out.2.2
      go_wp2_with (at_builtin; refine wpList_append_own _ rfl _ _ 32 rfl (w.heap.size+1) 2 i0 (.int .i64 0) 1 8 Try.underlying32 HI.out hz0 hz1 hz2 rfl (by decide) _ _ _ rfl (hown.alloc _) ⟨wr.heap.size, 0, none⟩ 1 1 [.int .i64 q] rfl rfl ?c1 ?c2 ?c3 ?c4 ?c5 ?_)
      case c1 => exact cell_one_new _ _ _
      case c2 => simp [Value.oneCell']
      case c3 => unfold maxLen; omega
      case c4 => omega
      case c5 => simp; omega
      intro v' w3 hown3 hgrow _
      have HV3 := OutI.push HVV.out (by omega) _ _ hown3 hgrow
      clear hown3 hgrow hown
      go_wp2
      go_roundw
      case rel => exact ⟨j, e, r, out ++ [q], rfl, val_int (by have := HQ.out; omega), by omega, by omega, by omega, by omega, g1, by simp; omega, HN.out, HV3⟩
      case measure => have := HQ.out; simp [intOf]; omega
end Go.Proofs.Ytkimmahmbacjpaa
