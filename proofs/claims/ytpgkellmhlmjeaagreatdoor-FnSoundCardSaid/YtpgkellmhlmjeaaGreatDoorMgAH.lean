/- Parts of the proof, merged: CheckP NameW BoxW. No condition but those that each theorem names. -/
import Derived.Test.YtpgkellmhlmjeaaGreatDoorMgAE
import Derived.Test.YtpgkellmhlmjeaaGreatDoorMgAC
import Derived.Test.YtpgkellmhlmjeaaGreatDoorMgAF
import Derived.Test.YtpgkellmhlmjeaaGreatDoorMgAG
import Derived.Test.YtpgkellmhlmjeaaGreatDoorMgAB
import Derived.Deep.AppendLies
namespace Go.Proofs.YtpgkellmhlmjeaaGreatDoor
open Go.RowKit Go.Sort
/-- The first three kinds. -/
def gcB : List Int → Bool
  | [a, b, g, x, y] => decide (1 ≤ g) && (a.tmod g == 0 && (b.tmod g == 0 && (a * x + b * y == g)))
  | _ => false
def roB : List Int → Bool
  | [n, r] => decide (0 ≤ r) && (decide (r * r < n) && decide (n < (r + 1) * (r + 1)))
  | _ => false
def liB : List Int → Bool
  | [a, b, c, g] => decide (2 ≤ g) && (a.tmod g == 0 && (b.tmod g == 0 && (c.tmod g != 0)))
  | _ => false
theorem gcB_len {n : List Int} (h : n.length ≠ 5) : gcB n = false := by
  unfold gcB; split
  · exact absurd rfl h
  · rfl
theorem roB_len {n : List Int} (h : n.length ≠ 2) : roB n = false := by
  unfold roB; split
  · exact absurd rfl h
  · rfl
theorem liB_len {n : List Int} (h : n.length ≠ 4) : liB n = false := by
  unfold liB; split
  · exact absurd rfl h
  · rfl
theorem len5 {n : List Int} (h : n.length = 5) : ∃ a b c d e, n = [a, b, c, d, e] := by
  match n, h with
  | [a, b, c, d, e], _ => exact ⟨a, b, c, d, e, rfl⟩
theorem len2 {n : List Int} (h : n.length = 2) : ∃ a b, n = [a, b] := by
  match n, h with
  | [a, b], _ => exact ⟨a, b, rfl⟩
theorem len4 {n : List Int} (h : n.length = 4) : ∃ a b c d, n = [a, b, c, d] := by
  match n, h with
  | [a, b, c, d], _ => exact ⟨a, b, c, d, rfl⟩
/-- The surds behind a surd whose floors are told; none if one is wrong. -/
def alg : List Int → Sd → Option (List Sd)
  | [], _ => some []
  | t :: ts, s => if (decide (flS s = t) && sdOk (nxS s)) = true then (alg ts (nxS s)).map (nxS s :: ·) else none
theorem alg_step {ts : List Int} {k : Nat} {t : Int} {s : Sd} (h : ts[k]? = some t) : alg (ts.drop k) s = if (decide (flS s = t) && sdOk (nxS s)) = true then (alg (ts.drop (k + 1)) (nxS s)).map (nxS s :: ·) else none := by
  obtain ⟨h1, h2⟩ := List.getElem?_eq_some_iff.1 h
  rw [List.drop_eq_getElem_cons h1, h2]; rfl
theorem alg_end {ts : List Int} {k : Nat} {s : Sd} (h : ¬ k < ts.length) : alg (ts.drop k) s = some [] := by
  rw [List.drop_eq_nil_of_le (by omega)]; rfl
/-- .. with the surd itself ahead. -/
def along (s : Sd) (ts : List Int) : Option (List Sd) := if sdOk s = true then (alg ts s).map (s :: ·) else none
theorem alg_len : ∀ (ts : List Int) (s : Sd) (L : List Sd), alg ts s = some L → L.length = ts.length
  | [], s, L, h => by
    have : L = [] := by simpa [alg] using h.symm
    subst this; rfl
  | t :: ts, s, L, h => by
    unfold alg at h
    split at h
    · cases hr : alg ts (nxS s) with
      | none => rw [hr] at h; cases h
      | some M =>
        rw [hr] at h
        injection h with h
        subst h
        simp [alg_len ts _ M hr]
    · cases h
theorem along_len {s : Sd} {ts : List Int} {L : List Sd} (h : along s ts = some L) : L.length = ts.length + 1 := by
  unfold along at h
  split at h
  · cases hr : alg ts s with
    | none => rw [hr] at h; cases h
    | some M =>
      rw [hr] at h
      injection h with h
      subst h
      simp [alg_len ts _ M hr]
  · cases h
theorem alg_ok : ∀ (ts : List Int) (s : Sd) (L : List Sd), alg ts s = some L → ∀ t ∈ L, sdOk t = true
  | [], s, L, h => by
    have : L = [] := by simpa [alg] using h.symm
    subst this; simp
  | t :: ts, s, L, h => by
    unfold alg at h
    split at h
    · rename_i hh
      cases hr : alg ts (nxS s) with
      | none => rw [hr] at h; cases h
      | some M =>
        rw [hr] at h
        injection h with h
        subst h
        intro u hu
        rcases List.mem_cons.1 hu with rfl | hu
        · rw [Bool.and_eq_true] at hh; exact hh.2
        · exact alg_ok ts _ M hr u hu
    · cases h
theorem along_ok {s : Sd} {ts : List Int} {L : List Sd} (h : along s ts = some L) : ∀ t ∈ L, sdOk t = true := by
  unfold along at h
  split at h
  · rename_i hs
    cases hr : alg ts s with
    | none => rw [hr] at h; cases h
    | some M =>
      rw [hr] at h
      injection h with h
      subst h
      intro u hu
      rcases List.mem_cons.1 hu with rfl | hu
      · exact hs
      · exact alg_ok ts s M hr u hu
  · cases h
/-- The product of the matrices of terms as the reference reckons it: none if it becomes too great. -/
def mtx : List Int → Int → Int → Int → Int → Option (Int × Int)
  | [], p, q, _, _ => some (p, q)
  | t :: ts, p, q, x, y => if smB (t * p + x) (t * q + y) = true then mtx ts (t * p + x) (t * q + y) p q else none
theorem mtx_step {ts : List Int} {k : Nat} {t p q x y : Int} (h : ts[k]? = some t) : mtx (ts.drop k) p q x y = if smB (t * p + x) (t * q + y) = true then mtx (ts.drop (k + 1)) (t * p + x) (t * q + y) p q else none := by
  obtain ⟨h1, h2⟩ := List.getElem?_eq_some_iff.1 h
  rw [List.drop_eq_getElem_cons h1, h2]; rfl
theorem mtx_end {ts : List Int} {k : Nat} {p q x y : Int} (h : ¬ k < ts.length) : mtx (ts.drop k) p q x y = some (p, q) := by
  rw [List.drop_eq_nil_of_le (by omega)]; rfl
/-- A pair whose determinant with another one is 1 or -1 has no common divisor. -/
theorem gcd_det {p q x y : Int} (h : p * y - q * x = 1 ∨ p * y - q * x = -1) : Int.gcd p q = 1 := by
  have h1 : (Int.gcd p q : Int) ∣ p := Int.gcd_dvd_left ..
  have h2 : (Int.gcd p q : Int) ∣ q := Int.gcd_dvd_right ..
  have h3 : (Int.gcd p q : Int) ∣ p * y - q * x := Int.dvd_sub (Int.dvd_trans h1 (Int.dvd_mul_right _ _)) (Int.dvd_trans h2 (Int.dvd_mul_right _ _))
  have h4 : (Int.gcd p q : Int) ∣ 1 := by
    rcases h with h | h
    · rwa [h] at h3
    · rw [h] at h3
      exact (Int.dvd_neg.1 (by simpa using h3))
  have := Int.eq_one_of_dvd_one (by omega) h4
  omega
theorem det_step {p q x y t : Int} (h : p * y - q * x = 1 ∨ p * y - q * x = -1) : (t * p + x) * q - (t * q + y) * p = 1 ∨ (t * p + x) * q - (t * q + y) * p = -1 := by
  have e : (t * p + x) * q - (t * q + y) * p = -(p * y - q * x) := by
    rw [Int.add_mul, Int.add_mul]
    have e1 : t * p * q = t * q * p := by rw [Int.mul_assoc, Int.mul_comm p q, ← Int.mul_assoc]
    rw [e1, Int.mul_comm y p, Int.mul_comm x q]
    omega
  rw [e]
  omega
/-- For terms from 1 on the fractions are valid just where the matrices stay small. -/
theorem sm_frac {p q x y t : Int} (hd : p * y - q * x = 1 ∨ p * y - q * x = -1) (hp : 0 ≤ p) (hx : 0 ≤ x) (hq : 0 ≤ q) (hqy : 1 ≤ q + y) (ht : 1 ≤ t) : fracOk (t * p + x) (t * q + y) = smB (t * p + x) (t * q + y) ∧ 0 ≤ t * p + x ∧ 1 ≤ t * q + y := by
  have g := gcd_det (det_step (t := t) hd)
  have h1 : 0 ≤ t * p := Int.mul_nonneg (by omega) hp
  have h2 : q ≤ t * q := by
    have := Int.mul_le_mul_of_nonneg_right ht hq
    omega
  refine ⟨?_, by omega, by omega⟩
  rw [Bool.eq_iff_iff, fracOk_true, smB_true]
  have h3 : 0 ≤ t * p + x := by omega
  have h4 : 1 ≤ t * q + y := by omega
  generalize t * p + x = a at *
  generalize t * q + y = b at *
  constructor
  · rintro ⟨a1, a2, a3, a4, _⟩; constructor <;> omega
  · rintro ⟨a1, a2⟩
    refine ⟨?_, ?_, ?_, ?_, ?_⟩
    all_goals first | exact g | omega
theorem cv_mtx : ∀ (ts : List Int) (p q x y : Int), (p * y - q * x = 1 ∨ p * y - q * x = -1) → 0 ≤ p → 0 ≤ x → 0 ≤ q → 0 ≤ y → 1 ≤ q + y → (∀ t ∈ ts, 1 ≤ t) →
    ((cvG ts p q x y).isSome = (mtx ts p q x y).isSome ∧ ∀ F, cvG ts p q x y = some F → mtx ts p q x y = some (((p, q) :: F).getLastD (p, q)))
  | [], p, q, x, y, _, _, _, _, _, _, _ => ⟨rfl, fun F hF => by
      have : F = [] := by simpa [cvG] using hF.symm
      subst this; rfl⟩
  | t :: ts, p, q, x, y, hd, hp, hx, hq, hy, hqy, ht => by
    obtain ⟨e1, e2, e3⟩ := sm_frac hd hp hx hq hqy (ht t (by simp))
    have ih := cv_mtx ts (t * p + x) (t * q + y) p q (det_step hd) e2 hp (by omega) hq (by omega) (fun u hu => ht u (by simp [hu]))
    unfold cvG mtx
    rw [e1]
    cases hs : smB (t * p + x) (t * q + y)
    · simp
    · simp only [if_true]
      refine ⟨by rw [Option.isSome_map]; exact ih.1, fun F hF => ?_⟩
      cases hc : cvG ts (t * p + x) (t * q + y) p q with
      | none => rw [hc] at hF; cases hF
      | some G =>
        rw [hc] at hF
        injection hF with hF
        subst hF
        rw [ih.2 G hc]
        simp only [List.getLastD_cons]
theorem cvG_len : ∀ (ts : List Int) (p q x y : Int) (F : List (Int × Int)), cvG ts p q x y = some F → F.length = ts.length
  | [], p, q, x, y, F, h => by
    have : F = [] := by simpa [cvG] using h.symm
    subst this; rfl
  | t :: ts, p, q, x, y, F, h => by
    unfold cvG at h
    split at h
    · cases hc : cvG ts (t * p + x) (t * q + y) p q with
      | none => rw [hc] at h; cases h
      | some G =>
        rw [hc] at h
        injection h with h
        subst h
        simp [cvG_len ts _ _ _ _ G hc]
    · cases h
/-- The last fraction, or none. -/
def mtxLast (ts : List Int) : Option (Int × Int) := mtx ts 1 0 0 1
theorem convs_last {ts : List Int} (h : ∀ t ∈ ts, 1 ≤ t) : (convs ts).isSome = (mtxLast ts).isSome ∧ ∀ F, convs ts = some F → F.length = ts.length ∧ ∀ (k : Nat) (f : Int × Int), k + 1 = ts.length → F[k]? = some f → mtxLast ts = some f := by
  obtain ⟨h1, h2⟩ := cv_mtx ts 1 0 0 1 (.inl (by decide)) (by decide) (by decide) (by decide) (by decide) (by decide) h
  refine ⟨h1, fun F hF => ?_⟩
  have hl := cvG_len ts _ _ _ _ F hF
  refine ⟨hl, fun k f hk hf => ?_⟩
  have := h2 F hF
  unfold mtxLast
  rw [this]
  have hne : F ≠ [] := by intro e; subst e; simp at hf
  have hlast : F.getLast hne = f := by
    rw [List.getLast_eq_getElem]
    have hkl : k < F.length := (List.getElem?_eq_some_iff.1 hf).1
    have e := (List.getElem?_eq_some_iff.1 hf).2
    rw [← e]
    congr 1
    omega
  cases F with
  | nil => exact absurd rfl hne
  | cons a F =>
    rw [List.getLastD_cons, List.getLastD_cons, ← hlast, List.getLast_eq_getLastD]
/-- The Q of the surd at a place. -/
def qS (L : List Sd) (j : Nat) : Int := (L.getD j (0, 0, 0)).2.2
/-- p holds of all numbers below n. -/
def allK (p : Nat → Bool) : Nat → Bool
  | 0 => true
  | k + 1 => allK p k && p k
theorem allK_false {p : Nat → Bool} {k : Nat} (h : p k = false) : ∀ n, k < n → allK p n = false
  | n + 1, hn => by
    unfold allK
    rcases Nat.lt_or_ge k n with g | g
    · rw [allK_false h n g, Bool.false_and]
    · obtain rfl : k = n := by omega
      rw [h, Bool.and_false]
theorem allK_succ {p : Nat → Bool} {k : Nat} (h : allK p k = true) (hk : p k = true) : allK p (k + 1) = true := by rw [allK, h, hk]; rfl
theorem allK_congr {p q : Nat → Bool} : ∀ n, (∀ k, k < n → p k = q k) → allK p n = allK q n
  | 0, _ => rfl
  | n + 1, h => by rw [allK, allK, allK_congr n (fun k hk => h k (by omega)), h n (by omega)]
def midP (L : List Sd) (j : Nat) : Bool := qS L (j + 1) != 1
def refP (L : List Sd) (n j : Nat) : Bool := (qS L (j + 1) == 1) == decide (j + 1 = n)
/-- The Q of no surd but the first and the last one is 1. -/
def midQ (L : List Sd) : Bool := allK (midP L) (L.length - 2)
def lastQ (L : List Sd) : Bool := qS L (L.length - 1) == 1
theorem ref_mid {L : List Sd} {n : Nat} (h : L.length = n + 1) (hn : 1 ≤ n) : allK (refP L n) n = (midQ L && lastQ L) := by
  obtain ⟨m, rfl⟩ : ∃ m, n = m + 1 := ⟨n - 1, by omega⟩
  rw [allK]
  have e1 : allK (refP L (m + 1)) m = midQ L := by
    unfold midQ
    rw [show L.length - 2 = m by omega]
    refine allK_congr m fun k hk => ?_
    unfold refP midP
    rw [decide_eq_false (by omega)]
    cases h : (qS L (k + 1) == 1) <;> simp_all
  have e2 : refP L (m + 1) m = lastQ L := by
    unfold refP lastQ
    rw [decide_eq_true rfl, show L.length - 1 = m + 1 by omega]
    simp
  rw [e1, e2]
/-- The certificate of a least solution. -/
def unB (n : List Int) : Bool := decide (4 ≤ n.length) && (inR (n.getD 0 0) 2 10000 && (match along (0, n.getD 0 0, 1) (n.drop 3) with
  | none => false
  | some L => midQ L && (lastQ L && (mtxLast (n.drop 3) == some (n.getD 1 0, n.getD 2 0)))))
/-- The certificate of a period. -/
def peB (n : List Int) : Bool := decide (6 ≤ n.length) && (decide (0 ≤ n.getD 3 0) && (decide (1 ≤ n.getD 4 0) && (decide (n.getD 3 0 + n.getD 4 0 = (n.length : Int) - 5) && (match along (n.getD 0 0, n.getD 1 0, n.getD 2 0) (n.drop 5) with
  | none => false
  | some L => decide ((L.take (L.length - 1)).Nodup) && (L.getD (L.length - 1) (0, 0, 0) == L.getD (n.getD 3 0).toNat (0, 0, 0))))))
theorem alg_pos {d : Int} (hd : NoSq d) : ∀ (ts : List Int) (s : Sd) (L : List Sd), Red d s → alg ts s = some L → ∀ t ∈ ts, 1 ≤ t
  | [], _, _, _, _ => by simp
  | t :: ts, s, L, hs, h => by
    unfold alg at h
    split at h
    · rename_i hh
      rw [Bool.and_eq_true, decide_eq_true_iff] at hh
      cases hr : alg ts (nxS s) with
      | none => rw [hr] at h; cases h
      | some M =>
        intro u hu
        rcases List.mem_cons.1 hu with rfl | hu
        · rw [← hh.1]; exact (red_fl hs).2.1
        · exact alg_pos hd ts (nxS s) M (red_next hd hs).1 hr u hu
    · cases h
theorem along_pos {d : Int} (hd : NoSq d) {ts : List Int} {L : List Sd} (h : along (0, d, 1) ts = some L) : ∀ t ∈ ts, 1 ≤ t := by
  unfold along at h
  split at h
  · cases ts with
    | nil => simp
    | cons t ts =>
      cases hr : alg (t :: ts) (0, d, 1) with
      | none => rw [hr] at h; cases h
      | some M =>
        unfold alg at hr
        split at hr
        · rename_i hh
          rw [Bool.and_eq_true, decide_eq_true_iff] at hh
          obtain ⟨n1, n2, _⟩ := next_root hd
          rw [n2] at hr
          cases hr2 : alg ts (fsS d) with
          | none => rw [hr2] at hr; cases hr
          | some M2 =>
            intro u hu
            rcases List.mem_cons.1 hu with rfl | hu
            · rw [← hh.1, n1]; exact hd.rt.1
            · exact alg_pos hd ts (fsS d) M2 (red_first hd) hr2 u hu
        · cases hr
  · cases h
theorem along_root_sq {d : Int} (h : sqB d = true) (ts : List Int) : along (0, d, 1) ts = none := by
  unfold along
  rw [if_neg]
  intro hh
  have := (surdB_true.1 hh).2.1
  rw [h] at this
  cases this
theorem noSq_of {d : Int} {ts : List Int} {L : List Sd} (h1 : inR d 2 10000 = true) (h : along (0, d, 1) ts = some L) : NoSq d := by
  obtain ⟨a, b⟩ := inR_true.1 h1
  refine ⟨a, by omega, ?_⟩
  cases e : sqB d
  · rfl
  · rw [along_root_sq e] at h; cases h
end Go.Proofs.YtpgkellmhlmjeaaGreatDoor
namespace Go.Proofs.YtpgkellmhlmjeaaGreatDoor
open Go.RowKit Go.Sort
/-- A slice of integers with its capacity. -/
def RdC (w : World) (B : Nat) (T : Option Addr) (c : Nat) (xs : List Int) : Prop := Rd (Value.int .i64) w B T xs ∧ xs.length ≤ c ∧ c ≤ maxLen
/-- The index of the first element that p takes; -1 if there is none. -/
def ixP (p : Int → Bool) : List Int → Nat → Int
  | [], _ => -1
  | x :: xs, i => if p x = true then i else ixP p xs (i + 1)
theorem ixP_all (p : Int → Bool) : ∀ (xs : List Int) (i : Nat), decide (0 ≤ ixP p xs i) = xs.any p
  | [], _ => rfl
  | x :: xs, i => by
    unfold ixP
    cases h : p x
    · rw [if_neg (by simp), ixP_all p xs (i + 1), List.any_cons, h, Bool.false_or]
    · rw [if_pos rfl, List.any_cons, h, Bool.true_or, decide_eq_true (by omega)]
theorem ixP_step {p : Int → Bool} {xs : List Int} {k : Nat} {x : Int} (h : xs[k]? = some x) : ixP p (xs.drop k) k = if p x = true then (k : Int) else ixP p (xs.drop (k + 1)) (k + 1) := by
  obtain ⟨h1, h2⟩ := List.getElem?_eq_some_iff.1 h
  rw [List.drop_eq_getElem_cons h1, h2]; rfl
theorem ixP_end {p : Int → Bool} {xs : List Int} {k : Nat} (h : ¬ k < xs.length) : ixP p (xs.drop k) k = -1 := by
  rw [List.drop_eq_nil_of_le (by omega)]; rfl
set_option maxHeartbeats 1000000 in
theorem indexFuncBC_any (p : Int → Bool) (HF : Hid (∀ x W, Calls Tryz.prog 77 #[.int .i64 x] W fun e w' => e = .returned (.bool (p x)) ∧ W = w')) (A : Option Addr) (c : Nat) (xs : List Int) (w : World) (hx : Rd (Value.int .i64) w w.heap.size A xs) (hm : xs.length ≤ maxLen) :
    Calls Tryz.prog 124 #[.slice A xs.length c, .func (Fn.func 77) #[] #[]] w fun e w' => e = .returned (.int .i64 (ixP p xs 0)) ∧ w = w' := by
  unfold maxLen at hm
  obtain ⟨R, hR⟩ : ∃ R, ixP p xs 0 = R := ⟨_, rfl⟩
  rw [hR]
  have HR : Hid (ixP p (xs.drop 0) 0 = R) := hR
  clear hR
  go_enter Tryz.func124, Tryz.ntmps124
  go_wp2_with fail
  go_loop [8] (fun t => ∃ k : Nat, k ≤ xs.length ∧ t = .int .i64 k ∧ Hid (ixP p (xs.drop k) k = R)) (fun t => xs.length - (intOf t).toNat)
  case atStart => exact ⟨0, by omega, rfl, HR.out⟩
  case round =>
    obtain ⟨k, hk, rfl, HK⟩ := hrel
    clear HR
    by_cases hlt : k < xs.length
    · obtain ⟨b, off, rfl, hb, hc⟩ := hx (by omega)
      obtain ⟨x, hxk⟩ : ∃ x, xs[k]? = some x := ⟨_, List.getElem?_eq_getElem hlt⟩
      have c1 := hc k x hxk
      have HS := Lib.hid (ixP_step (p := p) hxk)
      clear hc hxk
      have i0 : (0 : Int) ≤ (k : Int) := by omega
      have i1 : (k : Int) < (xs.length : Int) := by omega
      have HC := Lib.hid (HF.out x)
      cases hp : p x
      · have HE : Hid (ixP p (xs.drop (k + 1)) (k + 1) = R) := by
          have h := HK.out
          rw [HS.out, hp, if_neg (by simp)] at h
          exact h
        rw [hp] at HC
        clear hp
        go_wp2_with fail
        refine (HC.out _).mono ?_
        rintro e w' ⟨rfl, rfl⟩
        go_wp2
        go_round
        case rel => exact ⟨k + 1, by omega, by go_num, HE.out⟩
        case measure => simp [intOf]; omega
      · have HE : Hid ((k : Int) = R) := by
          have h := HK.out
          rw [HS.out, hp, if_pos rfl] at h
          exact h
        rw [hp] at HC
        clear hp
        go_wp2_with fail
        refine (HC.out _).mono ?_
        rintro e w' ⟨rfl, rfl⟩
        go_wp2
        go_ret
        exact ⟨ret_int HE.out, rfl⟩
    · have HE : Hid (-1 = R) := (ixP_end hlt).symm.trans HK.out
      go_wp2
      go_ret
      exact ⟨ret_int HE.out, rfl⟩
theorem containsFuncBC_any (p : Int → Bool) (HF : Hid (∀ x W, Calls Tryz.prog 77 #[.int .i64 x] W fun e w' => e = .returned (.bool (p x)) ∧ W = w')) (A : Option Addr) (c : Nat) (xs : List Int) (w : World) (hx : Rd (Value.int .i64) w w.heap.size A xs) (hm : xs.length ≤ maxLen) :
    Calls Tryz.prog 76 #[.slice A xs.length c, .func (Fn.func 77) #[] #[]] w fun e w' => e = .returned (.bool (xs.any p)) ∧ w = w' := by
  have HC : Hid (∀ W, w = W → Calls Tryz.prog 124 #[.slice A xs.length c, .func (Fn.func 77) #[] #[]] W fun e w' => e = .returned (.int .i64 (ixP p xs 0)) ∧ W = w') := fun W hW => by subst hW; exact indexFuncBC_any p HF A c xs w hx hm
  rw [← ixP_all p xs 0]
  generalize ixP p xs 0 = z at *
  go_enter Tryz.func76, Tryz.ntmps76
  go_wp2_with fail
  refine (HC.out _ rfl).mono ?_
  rintro e w' ⟨rfl, rfl⟩
  go_wp2
  go_ret
  exact ⟨rfl, rfl⟩
end Go.Proofs.YtpgkellmhlmjeaaGreatDoor
namespace Go.Proofs.YtpgkellmhlmjeaaGreatDoor
open Go.RowKit Go.Sort
/-- Block g begins with the cells vs, and may be written. -/
structure BoxV (g : Nat) (vs : List Value) (W : World) : Prop where
  c : ∀ j v, vs[j]? = some v → W.cell? ⟨g, j, none⟩ = some v
  f : ∀ j, W.frozen? ⟨g, j, none⟩ = false
  lt : g < W.heap.size
theorem BoxV.new (W : World) (C : Array Value) (T : TypeId) : BoxV W.heap.size C.toList (W.alloc (.cells C T)) :=
  ⟨fun j v h => by rw [cell_one, ← Array.getElem?_toList]; exact h, fun j => World.frozen?_alloc_at _ _ _ _ rfl, by simp⟩
theorem BoxV.next {g : Nat} {vs : List Value} {W W' : World} (h : BoxV g vs W) (hb : Below W.heap.size W W') : BoxV g vs W' :=
  ⟨fun j v hv => (hb.cell (p := ⟨g, j, none⟩) h.lt).trans (h.c j v hv), fun j => (hb.frozen (p := ⟨g, j, none⟩) h.lt).trans (h.f j), Nat.lt_of_lt_of_le h.lt hb.size⟩
theorem BoxV.under {g B : Nat} {vs : List Value} {W W' : World} (h : BoxV g vs W) (hb : Below B W W') (hg : g < B) : BoxV g vs W' :=
  ⟨fun j v hv => (hb.cell (p := ⟨g, j, none⟩) hg).trans (h.c j v hv), fun j => (hb.frozen (p := ⟨g, j, none⟩) hg).trans (h.f j), Nat.lt_of_lt_of_le h.lt hb.size⟩
theorem BoxV.alloc {g : Nat} {vs : List Value} {W : World} (h : BoxV g vs W) (o : Obj) : BoxV g vs (W.alloc o) := h.next (ext1 W o)
theorem BoxV.drew {g : Nat} {vs : List Value} {W : World} (h : BoxV g vs W) : BoxV g vs W.drew := ⟨h.c, h.f, h.lt⟩
theorem BoxV.grown {g : Nat} {vs : List Value} {W W' : World} {row : Option Nat} (h : BoxV g vs W) (hg : W.grownBy W' row) (hn : row ≠ some g) : BoxV g vs W' := by
  have hb : W'.heap[g]? = W.heap[g]? := hg.block g h.lt (fun e => hn e.symm)
  exact ⟨fun j v hv => (World.cell?_of_block (a := ⟨g, j, none⟩) hb).trans (h.c j v hv), fun j => by have := h.f j; simpa only [World.frozen?, hb] using this, Nat.lt_of_lt_of_le h.lt hg.size⟩
theorem BoxV.set {g : Nat} {vs : List Value} {W : World} (h : BoxV g vs W) (j : Nat) (u : Value) (hj : j < vs.length) : BoxV g (vs.set j u) (W.setCell ⟨g, j, none⟩ u) := by
  refine ⟨fun i v hv => ?_, fun i => (World.frozen?_setCell _ _ _ _).trans (h.f i), by simpa using h.lt⟩
  by_cases hij : i = j
  · subst hij
    rw [List.getElem?_set_self hj] at hv
    obtain rfl := Option.some.inj hv
    exact World.cell?_setCell_same _ _ _ (h.c i _ (List.getElem?_eq_getElem hj))
  · rw [List.getElem?_set_ne (fun e => hij e.symm)] at hv
    exact (World.cell?_setCell_other _ _ _ _ (by intro e; injection e; omega)).trans (h.c i v hv)
theorem BoxV.setFar {g b j : Nat} {vs : List Value} {W : World} (h : BoxV g vs W) (u : Value) (hb : b ≠ g) : BoxV g vs (W.setCell ⟨b, j, none⟩ u) :=
  ⟨fun i v hv => (World.cell?_setCell_other _ _ _ _ (by intro e; injection e; omega)).trans (h.c i v hv), fun i => (World.frozen?_setCell _ _ _ _).trans (h.f i), by simpa using h.lt⟩
theorem BoxV.at {g : Nat} {vs : List Value} {W : World} (h : BoxV g vs W) (j : Nat) (v : Value) (hv : vs[j]? = some v) : W.cell? ⟨g, j, none⟩ = some v := h.c j v hv
theorem set3 {w : World} {b : Nat} {x y z : Value} (h0 : w.cell? ⟨b, 0, none⟩ = some x) (h1 : w.cell? ⟨b, 1, none⟩ = some y) (h2 : w.cell? ⟨b, 2, none⟩ = some z) :
    (∀ v, (w.setCell ⟨b, 0, none⟩ v).cell? ⟨b, 0, none⟩ = some v) ∧ (∀ u v, ((w.setCell ⟨b, 0, none⟩ u).setCell ⟨b, 1, none⟩ v).cell? ⟨b, 1, none⟩ = some v) ∧ (∀ t u v, (((w.setCell ⟨b, 0, none⟩ t).setCell ⟨b, 1, none⟩ u).setCell ⟨b, 2, none⟩ v).cell? ⟨b, 2, none⟩ = some v) :=
  ⟨fun v => World.cell?_setCell_same _ _ _ h0, fun u v => World.cell?_setCell_same (v := v) _ _ ((World.cell?_setCell_other _ ⟨b, 0, none⟩ ⟨b, 1, none⟩ _ (by simp)).trans h1),
   fun t u v => World.cell?_setCell_same (v := v) _ _ ((World.cell?_setCell_other _ ⟨b, 1, none⟩ ⟨b, 2, none⟩ _ (by simp)).trans ((World.cell?_setCell_other _ ⟨b, 0, none⟩ ⟨b, 2, none⟩ _ (by simp)).trans h2))⟩
end Go.Proofs.YtpgkellmhlmjeaaGreatDoor
