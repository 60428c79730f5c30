/- Parts of the proof, merged: CheckP BoxW PerW MapK PerK. No condition but those that each theorem names. -/
import Derived.Test.YtpgkellmhlmjeaaGreatDoorMgAE
import Derived.Test.YtpgkellmhlmjeaaGreatDoorMgAC
import Derived.Test.YtpgkellmhlmjeaaGreatDoorMgAH
import Derived.Test.YtpgkellmhlmjeaaGreatDoorMgAI
import Derived.Test.YtpgkellmhlmjeaaGreatDoorMgAB
import Derived.Deep.AppendLies
import Derived.Deep.RegionHeld3
import Derived.IntWalk
import Derived.DeepKeys4
import Derived.Maps.OwnSet
import Derived.Maps.Views
import Derived.Carry
namespace Go.Proofs.YtpgkellmhlmjeaaGreatDoor
open Go.RowKit Go.Sort
/-- The first three kinds. -/
def gcB : List Int → Bool
  | [a, b, g, x, y] => decide (1 ≤ g) && (a.tmod g == 0 && (b.tmod g == 0 && (a * x + b * y == g)))
  | _ => false
def roB : List Int → Bool
  | [n, r] => decide (0 ≤ r) && (decide (r * r < n) && decide (n < (r + 1) * (r + 1)))
  | _ => false
def liB : List Int → Bool
  | [a, b, c, g] => decide (2 ≤ g) && (a.tmod g == 0 && (b.tmod g == 0 && (c.tmod g != 0)))
  | _ => false
theorem gcB_len {n : List Int} (h : n.length ≠ 5) : gcB n = false := by
  unfold gcB; split
  · exact absurd rfl h
  · rfl
theorem roB_len {n : List Int} (h : n.length ≠ 2) : roB n = false := by
  unfold roB; split
  · exact absurd rfl h
  · rfl
theorem liB_len {n : List Int} (h : n.length ≠ 4) : liB n = false := by
  unfold liB; split
  · exact absurd rfl h
  · rfl
theorem len5 {n : List Int} (h : n.length = 5) : ∃ a b c d e, n = [a, b, c, d, e] := by
  match n, h with
  | [a, b, c, d, e], _ => exact ⟨a, b, c, d, e, rfl⟩
theorem len2 {n : List Int} (h : n.length = 2) : ∃ a b, n = [a, b] := by
  match n, h with
  | [a, b], _ => exact ⟨a, b, rfl⟩
theorem len4 {n : List Int} (h : n.length = 4) : ∃ a b c d, n = [a, b, c, d] := by
  match n, h with
  | [a, b, c, d], _ => exact ⟨a, b, c, d, rfl⟩
/-- The surds behind a surd whose floors are told; none if one is wrong. -/
def alg : List Int → Sd → Option (List Sd)
  | [], _ => some []
  | t :: ts, s => if (decide (flS s = t) && sdOk (nxS s)) = true then (alg ts (nxS s)).map (nxS s :: ·) else none
theorem alg_step {ts : List Int} {k : Nat} {t : Int} {s : Sd} (h : ts[k]? = some t) : alg (ts.drop k) s = if (decide (flS s = t) && sdOk (nxS s)) = true then (alg (ts.drop (k + 1)) (nxS s)).map (nxS s :: ·) else none := by
  obtain ⟨h1, h2⟩ := List.getElem?_eq_some_iff.1 h
  rw [List.drop_eq_getElem_cons h1, h2]; rfl
theorem alg_end {ts : List Int} {k : Nat} {s : Sd} (h : ¬ k < ts.length) : alg (ts.drop k) s = some [] := by
  rw [List.drop_eq_nil_of_le (by omega)]; rfl
/-- .. with the surd itself ahead. -/
def along (s : Sd) (ts : List Int) : Option (List Sd) := if sdOk s = true then (alg ts s).map (s :: ·) else none
theorem alg_len : ∀ (ts : List Int) (s : Sd) (L : List Sd), alg ts s = some L → L.length = ts.length
  | [], s, L, h => by
    have : L = [] := by simpa [alg] using h.symm
    subst this; rfl
  | t :: ts, s, L, h => by
    unfold alg at h
    split at h
    · cases hr : alg ts (nxS s) with
      | none => rw [hr] at h; cases h
      | some M =>
        rw [hr] at h
        injection h with h
        subst h
        simp [alg_len ts _ M hr]
    · cases h
theorem along_len {s : Sd} {ts : List Int} {L : List Sd} (h : along s ts = some L) : L.length = ts.length + 1 := by
  unfold along at h
  split at h
  · cases hr : alg ts s with
    | none => rw [hr] at h; cases h
    | some M =>
      rw [hr] at h
      injection h with h
      subst h
      simp [alg_len ts _ M hr]
  · cases h
theorem alg_ok : ∀ (ts : List Int) (s : Sd) (L : List Sd), alg ts s = some L → ∀ t ∈ L, sdOk t = true
  | [], s, L, h => by
    have : L = [] := by simpa [alg] using h.symm
    subst this; simp
  | t :: ts, s, L, h => by
    unfold alg at h
    split at h
    · rename_i hh
      cases hr : alg ts (nxS s) with
      | none => rw [hr] at h; cases h
      | some M =>
        rw [hr] at h
        injection h with h
        subst h
        intro u hu
        rcases List.mem_cons.1 hu with rfl | hu
        · rw [Bool.and_eq_true] at hh; exact hh.2
        · exact alg_ok ts _ M hr u hu
    · cases h
theorem along_ok {s : Sd} {ts : List Int} {L : List Sd} (h : along s ts = some L) : ∀ t ∈ L, sdOk t = true := by
  unfold along at h
  split at h
  · rename_i hs
    cases hr : alg ts s with
    | none => rw [hr] at h; cases h
    | some M =>
      rw [hr] at h
      injection h with h
      subst h
      intro u hu
      rcases List.mem_cons.1 hu with rfl | hu
      · exact hs
      · exact alg_ok ts s M hr u hu
  · cases h
/-- The product of the matrices of terms as the reference reckons it: none if it becomes too great. -/
def mtx : List Int → Int → Int → Int → Int → Option (Int × Int)
  | [], p, q, _, _ => some (p, q)
  | t :: ts, p, q, x, y => if smB (t * p + x) (t * q + y) = true then mtx ts (t * p + x) (t * q + y) p q else none
theorem mtx_step {ts : List Int} {k : Nat} {t p q x y : Int} (h : ts[k]? = some t) : mtx (ts.drop k) p q x y = if smB (t * p + x) (t * q + y) = true then mtx (ts.drop (k + 1)) (t * p + x) (t * q + y) p q else none := by
  obtain ⟨h1, h2⟩ := List.getElem?_eq_some_iff.1 h
  rw [List.drop_eq_getElem_cons h1, h2]; rfl
theorem mtx_end {ts : List Int} {k : Nat} {p q x y : Int} (h : ¬ k < ts.length) : mtx (ts.drop k) p q x y = some (p, q) := by
  rw [List.drop_eq_nil_of_le (by omega)]; rfl
/-- A pair whose determinant with another one is 1 or -1 has no common divisor. -/
theorem gcd_det {p q x y : Int} (h : p * y - q * x = 1 ∨ p * y - q * x = -1) : Int.gcd p q = 1 := by
  have h1 : (Int.gcd p q : Int) ∣ p := Int.gcd_dvd_left ..
  have h2 : (Int.gcd p q : Int) ∣ q := Int.gcd_dvd_right ..
  have h3 : (Int.gcd p q : Int) ∣ p * y - q * x := Int.dvd_sub (Int.dvd_trans h1 (Int.dvd_mul_right _ _)) (Int.dvd_trans h2 (Int.dvd_mul_right _ _))
  have h4 : (Int.gcd p q : Int) ∣ 1 := by
    rcases h with h | h
    · rwa [h] at h3
    · rw [h] at h3
      exact (Int.dvd_neg.1 (by simpa using h3))
  have := Int.eq_one_of_dvd_one (by omega) h4
  omega
/-- The last fraction, or none. -/
def mtxLast (ts : List Int) : Option (Int × Int) := mtx ts 1 0 0 1
/-- The Q of the surd at a place. -/
def qS (L : List Sd) (j : Nat) : Int := (L.getD j (0, 0, 0)).2.2
/-- p holds of all numbers below n. -/
def allK (p : Nat → Bool) : Nat → Bool
  | 0 => true
  | k + 1 => allK p k && p k
theorem allK_false {p : Nat → Bool} {k : Nat} (h : p k = false) : ∀ n, k < n → allK p n = false
  | n + 1, hn => by
    unfold allK
    rcases Nat.lt_or_ge k n with g | g
    · rw [allK_false h n g, Bool.false_and]
    · obtain rfl : k = n := by omega
      rw [h, Bool.and_false]
theorem allK_succ {p : Nat → Bool} {k : Nat} (h : allK p k = true) (hk : p k = true) : allK p (k + 1) = true := by rw [allK, h, hk]; rfl
theorem allK_congr {p q : Nat → Bool} : ∀ n, (∀ k, k < n → p k = q k) → allK p n = allK q n
  | 0, _ => rfl
  | n + 1, h => by rw [allK, allK, allK_congr n (fun k hk => h k (by omega)), h n (by omega)]
def midP (L : List Sd) (j : Nat) : Bool := qS L (j + 1) != 1
def refP (L : List Sd) (n j : Nat) : Bool := (qS L (j + 1) == 1) == decide (j + 1 = n)
/-- The Q of no surd but the first and the last one is 1. -/
def midQ (L : List Sd) : Bool := allK (midP L) (L.length - 2)
def lastQ (L : List Sd) : Bool := qS L (L.length - 1) == 1
theorem ref_mid {L : List Sd} {n : Nat} (h : L.length = n + 1) (hn : 1 ≤ n) : allK (refP L n) n = (midQ L && lastQ L) := by
  obtain ⟨m, rfl⟩ : ∃ m, n = m + 1 := ⟨n - 1, by omega⟩
  rw [allK]
  have e1 : allK (refP L (m + 1)) m = midQ L := by
    unfold midQ
    rw [show L.length - 2 = m by omega]
    refine allK_congr m fun k hk => ?_
    unfold refP midP
    rw [decide_eq_false (by omega)]
    cases h : (qS L (k + 1) == 1) <;> simp_all
  have e2 : refP L (m + 1) m = lastQ L := by
    unfold refP lastQ
    rw [decide_eq_true rfl, show L.length - 1 = m + 1 by omega]
    simp
  rw [e1, e2]
/-- The certificate of a least solution. -/
def unB (n : List Int) : Bool := decide (4 ≤ n.length) && (inR (n.getD 0 0) 2 10000 && (match along (0, n.getD 0 0, 1) (n.drop 3) with
  | none => false
  | some L => midQ L && (lastQ L && (mtxLast (n.drop 3) == some (n.getD 1 0, n.getD 2 0)))))
/-- The certificate of a period. -/
def peB (n : List Int) : Bool := decide (6 ≤ n.length) && (decide (0 ≤ n.getD 3 0) && (decide (1 ≤ n.getD 4 0) && (decide (n.getD 3 0 + n.getD 4 0 = (n.length : Int) - 5) && (match along (n.getD 0 0, n.getD 1 0, n.getD 2 0) (n.drop 5) with
  | none => false
  | some L => decide ((L.take (L.length - 1)).Nodup) && (L.getD (L.length - 1) (0, 0, 0) == L.getD (n.getD 3 0).toNat (0, 0, 0))))))
theorem alg_pos {d : Int} (hd : NoSq d) : ∀ (ts : List Int) (s : Sd) (L : List Sd), Red d s → alg ts s = some L → ∀ t ∈ ts, 1 ≤ t
  | [], _, _, _, _ => by simp
  | t :: ts, s, L, hs, h => by
    unfold alg at h
    split at h
    · rename_i hh
      rw [Bool.and_eq_true, decide_eq_true_iff] at hh
      cases hr : alg ts (nxS s) with
      | none => rw [hr] at h; cases h
      | some M =>
        intro u hu
        rcases List.mem_cons.1 hu with rfl | hu
        · rw [← hh.1]; exact (red_fl hs).2.1
        · exact alg_pos hd ts (nxS s) M (red_next hd hs).1 hr u hu
    · cases h
theorem along_pos {d : Int} (hd : NoSq d) {ts : List Int} {L : List Sd} (h : along (0, d, 1) ts = some L) : ∀ t ∈ ts, 1 ≤ t := by
  unfold along at h
  split at h
  · cases ts with
    | nil => simp
    | cons t ts =>
      cases hr : alg (t :: ts) (0, d, 1) with
      | none => rw [hr] at h; cases h
      | some M =>
        unfold alg at hr
        split at hr
        · rename_i hh
          rw [Bool.and_eq_true, decide_eq_true_iff] at hh
          obtain ⟨n1, n2, _⟩ := next_root hd
          rw [n2] at hr
          cases hr2 : alg ts (fsS d) with
          | none => rw [hr2] at hr; cases hr
          | some M2 =>
            intro u hu
            rcases List.mem_cons.1 hu with rfl | hu
            · rw [← hh.1, n1]; exact hd.rt.1
            · exact alg_pos hd ts (fsS d) M2 (red_first hd) hr2 u hu
        · cases hr
  · cases h
theorem along_root_sq {d : Int} (h : sqB d = true) (ts : List Int) : along (0, d, 1) ts = none := by
  unfold along
  rw [if_neg]
  intro hh
  have := (surdB_true.1 hh).2.1
  rw [h] at this
  cases this
end Go.Proofs.YtpgkellmhlmjeaaGreatDoor
namespace Go.Proofs.YtpgkellmhlmjeaaGreatDoor
open Go.RowKit Go.Sort
/-- Block g begins with the cells vs, and may be written. -/
structure BoxV (g : Nat) (vs : List Value) (W : World) : Prop where
  c : ∀ j v, vs[j]? = some v → W.cell? ⟨g, j, none⟩ = some v
  f : ∀ j, W.frozen? ⟨g, j, none⟩ = false
  lt : g < W.heap.size
theorem BoxV.new (W : World) (C : Array Value) (T : TypeId) : BoxV W.heap.size C.toList (W.alloc (.cells C T)) :=
  ⟨fun j v h => by rw [cell_one, ← Array.getElem?_toList]; exact h, fun j => World.frozen?_alloc_at _ _ _ _ rfl, by simp⟩
theorem BoxV.next {g : Nat} {vs : List Value} {W W' : World} (h : BoxV g vs W) (hb : Below W.heap.size W W') : BoxV g vs W' :=
  ⟨fun j v hv => (hb.cell (p := ⟨g, j, none⟩) h.lt).trans (h.c j v hv), fun j => (hb.frozen (p := ⟨g, j, none⟩) h.lt).trans (h.f j), Nat.lt_of_lt_of_le h.lt hb.size⟩
theorem BoxV.under {g B : Nat} {vs : List Value} {W W' : World} (h : BoxV g vs W) (hb : Below B W W') (hg : g < B) : BoxV g vs W' :=
  ⟨fun j v hv => (hb.cell (p := ⟨g, j, none⟩) hg).trans (h.c j v hv), fun j => (hb.frozen (p := ⟨g, j, none⟩) hg).trans (h.f j), Nat.lt_of_lt_of_le h.lt hb.size⟩
theorem BoxV.alloc {g : Nat} {vs : List Value} {W : World} (h : BoxV g vs W) (o : Obj) : BoxV g vs (W.alloc o) := h.next (ext1 W o)
theorem BoxV.drew {g : Nat} {vs : List Value} {W : World} (h : BoxV g vs W) : BoxV g vs W.drew := ⟨h.c, h.f, h.lt⟩
theorem BoxV.grown {g : Nat} {vs : List Value} {W W' : World} {row : Option Nat} (h : BoxV g vs W) (hg : W.grownBy W' row) (hn : row ≠ some g) : BoxV g vs W' := by
  have hb : W'.heap[g]? = W.heap[g]? := hg.block g h.lt (fun e => hn e.symm)
  exact ⟨fun j v hv => (World.cell?_of_block (a := ⟨g, j, none⟩) hb).trans (h.c j v hv), fun j => by have := h.f j; simpa only [World.frozen?, hb] using this, Nat.lt_of_lt_of_le h.lt hg.size⟩
theorem BoxV.set {g : Nat} {vs : List Value} {W : World} (h : BoxV g vs W) (j : Nat) (u : Value) (hj : j < vs.length) : BoxV g (vs.set j u) (W.setCell ⟨g, j, none⟩ u) := by
  refine ⟨fun i v hv => ?_, fun i => (World.frozen?_setCell _ _ _ _).trans (h.f i), by simpa using h.lt⟩
  by_cases hij : i = j
  · subst hij
    rw [List.getElem?_set_self hj] at hv
    obtain rfl := Option.some.inj hv
    exact World.cell?_setCell_same _ _ _ (h.c i _ (List.getElem?_eq_getElem hj))
  · rw [List.getElem?_set_ne (fun e => hij e.symm)] at hv
    exact (World.cell?_setCell_other _ _ _ _ (by intro e; injection e; omega)).trans (h.c i v hv)
theorem BoxV.setFar {g b j : Nat} {vs : List Value} {W : World} (h : BoxV g vs W) (u : Value) (hb : b ≠ g) : BoxV g vs (W.setCell ⟨b, j, none⟩ u) :=
  ⟨fun i v hv => (World.cell?_setCell_other _ _ _ _ (by intro e; injection e; omega)).trans (h.c i v hv), fun i => (World.frozen?_setCell _ _ _ _).trans (h.f i), by simpa using h.lt⟩
theorem BoxV.at {g : Nat} {vs : List Value} {W : World} (h : BoxV g vs W) (j : Nat) (v : Value) (hv : vs[j]? = some v) : W.cell? ⟨g, j, none⟩ = some v := h.c j v hv
theorem set3 {w : World} {b : Nat} {x y z : Value} (h0 : w.cell? ⟨b, 0, none⟩ = some x) (h1 : w.cell? ⟨b, 1, none⟩ = some y) (h2 : w.cell? ⟨b, 2, none⟩ = some z) :
    (∀ v, (w.setCell ⟨b, 0, none⟩ v).cell? ⟨b, 0, none⟩ = some v) ∧ (∀ u v, ((w.setCell ⟨b, 0, none⟩ u).setCell ⟨b, 1, none⟩ v).cell? ⟨b, 1, none⟩ = some v) ∧ (∀ t u v, (((w.setCell ⟨b, 0, none⟩ t).setCell ⟨b, 1, none⟩ u).setCell ⟨b, 2, none⟩ v).cell? ⟨b, 2, none⟩ = some v) :=
  ⟨fun v => World.cell?_setCell_same _ _ _ h0, fun u v => World.cell?_setCell_same (v := v) _ _ ((World.cell?_setCell_other _ ⟨b, 0, none⟩ ⟨b, 1, none⟩ _ (by simp)).trans h1),
   fun t u v => World.cell?_setCell_same (v := v) _ _ ((World.cell?_setCell_other _ ⟨b, 1, none⟩ ⟨b, 2, none⟩ _ (by simp)).trans ((World.cell?_setCell_other _ ⟨b, 0, none⟩ ⟨b, 2, none⟩ _ (by simp)).trans h2))⟩
end Go.Proofs.YtpgkellmhlmjeaaGreatDoor
namespace Go.Proofs.YtpgkellmhlmjeaaGreatDoor
open Go.RowKit Go.Sort
set_option maxHeartbeats 1000000 in
theorem floorSurd_any (p d q : Int) (w : World) (h : surdB p d q = true) :
    Calls Tryz.prog 145 #[surdV p d q] w fun e w' => e = .returned (.int .i64 (flS (p, d, q))) ∧ Below w.heap.size w w' := by
  obtain ⟨⟨d1, d2⟩, ⟨r1, r2⟩, ⟨p1, p2⟩, ⟨q1, q2, q0⟩, ⟨f1, f2⟩, _⟩ := step_bds h
  have HQ : Hid (∀ W, Calls Tryz.prog 54 #[.int .i64 d] W fun e w' => e = .returned (.int .i64 (rtI d)) ∧ W = w') := fun W => root_any d W (by omega) (by omega)
  have HF : Hid (flS (p, d, q) = if 0 < q then (p + rtI d) / q else -((p + rtI d) / (-q)) - 1) := rfl
  have HN : Hid (∀ x m : Int, 0 < m → -(x / m) - 1 = (-x - 1) / m) := neg_floor
  clear h
  generalize rtI d = r at *
  generalize flS (p, d, q) = a at *
  unfold surdV
  by_cases g : 0 < q
  · have HE := Lib.hid (HF.out.trans (if_pos g))
    have HD : Hid (∀ W, Calls Tryz.prog 106 #[.int .i64 (p + r), .int .i64 q] W fun e w' => e = .returned (.int .i64 ((p + r) / q)) ∧ W = w') := fun W => floorDiv_any _ _ W (by omega) (by omega) (by omega) (by omega)
    clear HF HN f1 f2
    go_enter Tryz.func145, Tryz.ntmps145
    go_wp2_with (first | (go_at_call 54; (with_reducible refine (HQ.out _).mono ?_); rintro e w' ⟨rfl, rfl⟩) | (go_at_call 106; (with_reducible refine (HD.out _).mono ?_); rintro e w' ⟨rfl, rfl⟩))
    go_ret
    exact ⟨ret_int HE.out.symm, ext1 _ _⟩
  · have HE := Lib.hid (HF.out.trans (if_neg g))
    have HX : Hid ((-(p + r) - 1) / (-q) = a) := by
      unfold Hid
      rw [HE.out, HN.out (p + r) (-q) (by omega)]
    have hq' : 1 ≤ -q := by omega
    have HD1 : Hid (∀ W, Calls Tryz.prog 106 #[.int .i64 (p + r), .int .i64 (-q)] W fun e w' => e = .returned (.int .i64 ((p + r) / (-q))) ∧ W = w') := fun W => floorDiv_any _ _ W (by omega) (by omega) (by omega) (by omega)
    have HD2 : Hid (∀ W, Calls Tryz.prog 106 #[.int .i64 (-p - r - 1), .int .i64 (-q)] W fun e w' => e = .returned (.int .i64 a) ∧ W = w') := fun W => by
      have hc : Calls Tryz.prog 106 #[.int .i64 (-p - r - 1), .int .i64 (-q)] W fun e w' => e = .returned (.int .i64 ((-p - r - 1) / (-q))) ∧ W = w' := floorDiv_any _ _ W (by omega) (by omega) (by omega) (by omega)
      have e1 : (-p - r - 1) / (-q) = a := by rw [show -p - r - 1 = -(p + r) - 1 by omega]; exact HX.out
      rw [e1] at hc
      exact hc
    have hb := ediv_bd (n := p + r) (g := -q) (M := 1001000) (by omega) (by omega) (by omega)
    obtain ⟨b1, b2⟩ := hb
    have HZ : Hid (-((p + r) / (-q)) - 1 = a) := HE.out.symm
    clear HF HN HE HX
    generalize (p + r) / (-q) = z at *
    go_enter Tryz.func145, Tryz.ntmps145
    go_wp2_with (first | (go_at_call 54; (with_reducible refine (HQ.out _).mono ?_); rintro e w' ⟨rfl, rfl⟩) | (go_at_call 106; (with_reducible refine (HD1.out _).mono ?_); rintro e w' ⟨rfl, rfl⟩) | (go_at_call 106; (with_reducible refine (HD2.out _).mono ?_); rintro e w' ⟨rfl, rfl⟩))
    go_ret
    first
      | exact ⟨rfl, ext1 _ _⟩
      | exact ⟨ret_int HZ.out, ext1 _ _⟩
set_option maxHeartbeats 1000000 in
theorem l07Floor_any (p d q : Int) (w : World) (h : surdB p d q = true) :
    Calls Tryz.prog 133 #[surdV p d q] w fun e w' => e = .returned (.int .i64 (flS (p, d, q))) ∧ Below w.heap.size w w' := by
  obtain ⟨⟨d1, d2⟩, ⟨r1, r2⟩, ⟨p1, p2⟩, ⟨q1, q2, q0⟩, ⟨f1, f2⟩, _⟩ := step_bds h
  have HQ : Hid (∀ W, Calls Tryz.prog 39 #[.int .i64 d] W fun e w' => e = .returned (.int .i64 (rtI d)) ∧ W = w') := fun W => l07Root_any d W (by omega) (by omega)
  have HF : Hid (flS (p, d, q) = if 0 < q then (p + rtI d) / q else -((p + rtI d) / (-q)) - 1) := rfl
  have HN : Hid (∀ x m : Int, 0 < m → -(x / m) - 1 = (-x - 1) / m) := neg_floor
  clear h
  generalize rtI d = r at *
  generalize flS (p, d, q) = a at *
  unfold surdV
  by_cases g : 0 < q
  · have HE := Lib.hid (HF.out.trans (if_pos g))
    have HD : Hid (∀ W, Calls Tryz.prog 137 #[.int .i64 (p + r), .int .i64 q] W fun e w' => e = .returned (.int .i64 ((p + r) / q)) ∧ W = w') := fun W => l02Floor_any _ _ W (by omega) (by omega) (by omega) (by omega)
    clear HF HN f1 f2
    go_enter Tryz.func133, Tryz.ntmps133
    go_wp2_with (first | (go_at_call 39; (with_reducible refine (HQ.out _).mono ?_); rintro e w' ⟨rfl, rfl⟩) | (go_at_call 137; (with_reducible refine (HD.out _).mono ?_); rintro e w' ⟨rfl, rfl⟩))
    go_ret
    exact ⟨ret_int HE.out.symm, ext1 _ _⟩
  · have HE := Lib.hid (HF.out.trans (if_neg g))
    have HX : Hid ((-(p + r) - 1) / (-q) = a) := by
      unfold Hid
      rw [HE.out, HN.out (p + r) (-q) (by omega)]
    have hq' : 1 ≤ -q := by omega
    have HD1 : Hid (∀ W, Calls Tryz.prog 137 #[.int .i64 (p + r), .int .i64 (-q)] W fun e w' => e = .returned (.int .i64 ((p + r) / (-q))) ∧ W = w') := fun W => l02Floor_any _ _ W (by omega) (by omega) (by omega) (by omega)
    have HD2 : Hid (∀ W, Calls Tryz.prog 137 #[.int .i64 (-p - r - 1), .int .i64 (-q)] W fun e w' => e = .returned (.int .i64 a) ∧ W = w') := fun W => by
      have hc : Calls Tryz.prog 137 #[.int .i64 (-p - r - 1), .int .i64 (-q)] W fun e w' => e = .returned (.int .i64 ((-p - r - 1) / (-q))) ∧ W = w' := l02Floor_any _ _ W (by omega) (by omega) (by omega) (by omega)
      have e1 : (-p - r - 1) / (-q) = a := by rw [show -p - r - 1 = -(p + r) - 1 by omega]; exact HX.out
      rw [e1] at hc
      exact hc
    have hb := ediv_bd (n := p + r) (g := -q) (M := 1001000) (by omega) (by omega) (by omega)
    obtain ⟨b1, b2⟩ := hb
    have HZ : Hid (-((p + r) / (-q)) - 1 = a) := HE.out.symm
    clear HF HN HE HX
    generalize (p + r) / (-q) = z at *
    go_enter Tryz.func133, Tryz.ntmps133
    go_wp2_with (first | (go_at_call 39; (with_reducible refine (HQ.out _).mono ?_); rintro e w' ⟨rfl, rfl⟩) | (go_at_call 137; (with_reducible refine (HD1.out _).mono ?_); rintro e w' ⟨rfl, rfl⟩) | (go_at_call 137; (with_reducible refine (HD2.out _).mono ?_); rintro e w' ⟨rfl, rfl⟩))
    go_ret
    first
      | exact ⟨rfl, ext1 _ _⟩
      | exact ⟨ret_int HZ.out, ext1 _ _⟩
set_option maxHeartbeats 2000000 in
theorem nextSurd_any (p d q : Int) (w : World) (h : surdB p d q = true) :
    Calls Tryz.prog 121 #[surdV p d q] w fun e w' => e = .returned (.tuple #[.int .i64 (flS (p, d, q)), surdV (npS (p, d, q)) d (nqS (p, d, q)), .bool (sdOk (nxS (p, d, q)))]) ∧ Below w.heap.size w w' := by
  obtain ⟨⟨d1, d2⟩, ⟨r1, r2⟩, ⟨p1, p2⟩, ⟨q1, q2, q0⟩, ⟨f1, f2⟩, ⟨n1, n2⟩, ⟨m1, m2⟩, ⟨k1, k2⟩, ⟨o1, o2⟩⟩ := step_bds h
  have HF : Hid (∀ W, Calls Tryz.prog 145 #[surdV p d q] W fun e w' => e = .returned (.int .i64 (flS (p, d, q))) ∧ Below W.heap.size W w') := fun W => floorSurd_any p d q W h
  have HP : Hid (flS (p, d, q) * q - p = npS (p, d, q)) := rfl
  have HQ : Hid ((d - npS (p, d, q) * npS (p, d, q)).tdiv q = nqS (p, d, q)) := rfl
  have HV : Hid (∀ W, Calls Tryz.prog 104 #[surdV (npS (p, d, q)) d (nqS (p, d, q))] W fun e w' => e = .returned (.bool (sdOk (nxS (p, d, q)))) ∧ Below W.heap.size W w') := fun W => ValidSurd_any _ _ _ W
  have e0 : (q == 0) = false := by simpa using q0
  clear h
  generalize sdOk (nxS (p, d, q)) = ok at *
  generalize flS (p, d, q) = a at *
  generalize npS (p, d, q) = np at *
  generalize nqS (p, d, q) = nq at *
  have w1 : IntKind.i64.wrap (np * np) = np * np := IntWalk.i64_in _ (by omega)
  have w2 : IntKind.i64.wrap (d - np * np) = d - np * np := IntWalk.i64_in _ (by omega)
  have w3 : IntKind.i64.wrap ((d - np * np).tdiv q) = nq := by rw [HQ.out]; exact IntWalk.i64_in _ (by omega)
  unfold surdV at *
  go_enter Tryz.func121, Tryz.ntmps121
  go_wp2_with fail
  refine (HF.out _).mono ?_
  rintro e w1 ⟨rfl, hb1⟩
  obtain ⟨hc1, hf1⟩ := bcell hb1
  have hy1 := hb1.size
  (try simp at hy1)
  have hz1_0 : w.heap.size < w1.heap.size := by omega
  have hz1_1 : w.heap.size + 1 < w1.heap.size := by omega
  have B1 : BoxV w.heap.size [.int .i64 p, .int .i64 d, .int .i64 q] w1 := ((BoxV.new w #[.int .i64 p, .int .i64 d, .int .i64 q] 46).alloc _).next hb1
  have B2 : BoxV (w.heap.size + 1) [.int .i64 0, .int .i64 0, .int .i64 0] w1 := by
    have := ((BoxV.new (w.alloc (.cells #[.int .i64 p, .int .i64 d, .int .i64 q] 46)) #[.int .i64 0, .int .i64 0, .int .i64 0] 46).next hb1)
    simpa using this
  have x0 := B1.at 0 _ rfl
  have x1 := B1.at 1 _ rfl
  have x2 := B1.at 2 _ rfl
  have H1 := Lib.hid (fun (W : World) (hb : BoxV w.heap.size [.int .i64 p, .int .i64 d, .int .i64 q] W) => And.intro (hb.at 0 _ rfl) (And.intro (hb.at 1 _ rfl) (hb.at 2 _ rfl)))
  have hlt1 := B1.lt
  go_wp2_with fail
  rw [HP.out]
  go_region_held3 (fun w' => w'.cell? ⟨w.heap.size, 0, none⟩ = some (.int .i64 p) ∧ w'.cell? ⟨w.heap.size, 1, none⟩ = some (.int .i64 d) ∧ w'.cell? ⟨w.heap.size, 2, none⟩ = some (.int .i64 q))
    (first | exact H1.out _ B1.drew | exact H1.out _ (B1.drew.alloc _) | exact H1.out _ ((((B1.drew.alloc _).setFar _ (by simp; omega)).setFar _ (by simp; omega)).setFar _ (by simp; omega)))
    (fail)
  go_wp2_with fail
  have B3 : BoxV w1.heap.size [.int .i64 np, .int .i64 d, .int .i64 nq] ((w1.alloc (.cells #[.int .i64 np, .int .i64 d, .int .i64 nq] 46)).drew) := (BoxV.new w1 #[.int .i64 np, .int .i64 d, .int .i64 nq] 46).drew
  have B4 : Hid (BoxV (w.heap.size + 1) [.int .i64 0, .int .i64 0, .int .i64 0] ((w1.alloc (.cells #[.int .i64 np, .int .i64 d, .int .i64 nq] 46)).drew)) := (B2.alloc _).drew
  have hbb : Hid (Below w.heap.size w ((w1.alloc (.cells #[.int .i64 np, .int .i64 d, .int .i64 nq] 46)).drew)) := ext_drew (ext_alloc (ext_trans (ext_alloc (ext1 _ _) _) hb1) _)
  clear x0 x1 x2 H1 B1 B2 hc1 hf1
  generalize ((w1.alloc (.cells #[.int .i64 np, .int .i64 d, .int .i64 nq] 46)).drew) = W at *
  generalize w1.heap.size = g at *
  have x0 := B3.at 0 _ rfl
  have x1 := B3.at 1 _ rfl
  have x2 := B3.at 2 _ rfl
  have H3 := Lib.hid (fun (W : World) (hb : BoxV g [.int .i64 np, .int .i64 d, .int .i64 nq] W) => And.intro (hb.at 0 _ rfl) (And.intro (hb.at 1 _ rfl) (hb.at 2 _ rfl)))
  go_region_held3 (fun w' => w'.cell? ⟨g, 0, none⟩ = some (.int .i64 np) ∧ w'.cell? ⟨g, 1, none⟩ = some (.int .i64 d) ∧ w'.cell? ⟨g, 2, none⟩ = some (.int .i64 nq))
    (first | exact H3.out _ B3.drew | exact H3.out _ (B3.drew.next (by assumption)) | exact H3.out _ ((((B3.drew.next hb4).setFar _ (by omega)).setFar _ (by omega)).setFar _ (by omega)))
    (first | (go_at_call 104; (with_reducible refine (HV.out _).mono ?_); rintro e w4 ⟨rfl, hb4⟩; have B5 := B4.out.drew.next hb4; have y0 := B5.at 0 _ rfl; have y1 := B5.at 1 _ rfl; have y2 := B5.at 2 _ rfl; have F0 := B5.f 0; have F1 := B5.f 1; have F2 := B5.f 2))
  obtain ⟨s0, s1, s2⟩ := set3 y0 y1 y2
  go_wp2
  exact bodyPost_ret (v := .tuple #[.int .i64 a, surdV np d nq, .bool ok]) (by simp [results, Tryz.results121, go_sem, s0, s1, s2]; done) rfl ⟨rfl, ext_set (ext_set (ext_set (ext_trans (ext_drew hbb.out) hb4) (by simp) _) (by simp) _) (by simp) _⟩
/-- What the reference's step returns: whether the next surd is one, and it. -/
def RetNx (w : World) (s : Sd) (e : Ending) (w' : World) : Prop :=
  ∃ t : Sd, e = .returned (.tuple #[surdV t.1 t.2.1 t.2.2, .bool (sdOk (nxS s))]) ∧ (sdOk (nxS s) = true → t = nxS s) ∧ Below w.heap.size w w'
set_option maxHeartbeats 2000000 in
theorem l07Next_any (p d q : Int) (w : World) (h : surdB p d q = true) :
    Calls Tryz.prog 134 #[surdV p d q, .int .i64 (flS (p, d, q))] w (RetNx w (p, d, q)) := by
  obtain ⟨⟨d1, d2⟩, ⟨r1, r2⟩, ⟨p1, p2⟩, ⟨q1, q2, q0⟩, ⟨f1, f2⟩, ⟨n1, n2⟩, ⟨m1, m2⟩, ⟨k1, k2⟩, ⟨o1, o2⟩⟩ := step_bds h
  have HP : Hid (flS (p, d, q) * q - p = npS (p, d, q)) := rfl
  have HQ : Hid ((d - npS (p, d, q) * npS (p, d, q)).tdiv q = nqS (p, d, q)) := rfl
  have HV : Hid (∀ W, Calls Tryz.prog 128 #[surdV (npS (p, d, q)) d (nqS (p, d, q))] W fun e w' => e = .returned (.bool (sdOk (nxS (p, d, q)))) ∧ Below W.heap.size W w') := fun W => l07Ok_any _ _ _ W
  have HOK : Hid (sdOk (nxS (p, d, q)) = surdB (npS (p, d, q)) d (nqS (p, d, q))) := rfl
  have HX : Hid (nxS (p, d, q) = (npS (p, d, q), d, nqS (p, d, q))) := rfl
  have e0 : (q == 0) = false := by simpa using q0
  clear h
  unfold RetNx
  generalize nxS (p, d, q) = X at *
  generalize hok : sdOk X = ok at *
  clear hok
  generalize flS (p, d, q) = a at *
  generalize npS (p, d, q) = np at *
  generalize nqS (p, d, q) = nq at *
  cases hin : inR np (-1000000) 1000000
  · have hf : ok = false := by
      have := HOK.out
      rw [this, surdB, hin]
      simp
    subst hf
    have HIN := Lib.hid hin
    clear HOK hin HX
    unfold surdV at *
    go_enter Tryz.func134, Tryz.ntmps134
    go_wp2_with fail
    rw [HP.out]
    have B2 : BoxV (w.heap.size + 1) [.int .i64 0, .int .i64 0, .int .i64 0] ((w.alloc (.cells #[.int .i64 p, .int .i64 d, .int .i64 q] 46)).alloc (.cells #[.int .i64 0, .int .i64 0, .int .i64 0] 46)) := by
      have := BoxV.new (w.alloc (.cells #[.int .i64 p, .int .i64 d, .int .i64 q] 46)) #[.int .i64 0, .int .i64 0, .int .i64 0] 46
      simpa using this
    have hbb := Lib.hid (ext_alloc (ext1 w (.cells #[.int .i64 p, .int .i64 d, .int .i64 q] 46)) (.cells #[.int .i64 0, .int .i64 0, .int .i64 0] 46))
    generalize ((w.alloc (.cells #[.int .i64 p, .int .i64 d, .int .i64 q] 46)).alloc (.cells #[.int .i64 0, .int .i64 0, .int .i64 0] 46)) = W at *
    obtain ⟨s0, s1, s2⟩ := set3 (B2.at 0 _ rfl) (B2.at 1 _ rfl) (B2.at 2 _ rfl)
    have y0 := B2.at 0 _ rfl
    have y1 := B2.at 1 _ rfl
    have y2 := B2.at 2 _ rfl
    have F0 := B2.f 0
    have F1 := B2.f 1
    have F2 := B2.f 2
    refine (l00In_is HIN.out _).mono ?_
    rintro e w' ⟨rfl, rfl⟩
    go_wp2
    exact bodyPost_ret (v := .tuple #[surdV 0 0 0, .bool false]) (by simp [results, Tryz.results134, go_sem, s0, s1, s2]; done) rfl ⟨(0, 0, 0), rfl, (fun h => by cases h), ext_set (ext_set (ext_set hbb.out (by simp) _) (by simp) _) (by simp) _⟩
  · have HIN := Lib.hid hin
    clear HOK hin
    have w1 : IntKind.i64.wrap (np * np) = np * np := IntWalk.i64_in _ (by omega)
    have w2 : IntKind.i64.wrap (d - np * np) = d - np * np := IntWalk.i64_in _ (by omega)
    have w3 : IntKind.i64.wrap ((d - np * np).tdiv q) = nq := by rw [HQ.out]; exact IntWalk.i64_in _ (by omega)
    unfold surdV at *
    go_enter Tryz.func134, Tryz.ntmps134
    go_wp2_with fail
    rw [HP.out]
    have B1 : BoxV w.heap.size [.int .i64 p, .int .i64 d, .int .i64 q] ((w.alloc (.cells #[.int .i64 p, .int .i64 d, .int .i64 q] 46)).alloc (.cells #[.int .i64 0, .int .i64 0, .int .i64 0] 46)) := ((BoxV.new w #[.int .i64 p, .int .i64 d, .int .i64 q] 46).alloc _)
    have B2 : BoxV (w.heap.size + 1) [.int .i64 0, .int .i64 0, .int .i64 0] ((w.alloc (.cells #[.int .i64 p, .int .i64 d, .int .i64 q] 46)).alloc (.cells #[.int .i64 0, .int .i64 0, .int .i64 0] 46)) := by
      have := BoxV.new (w.alloc (.cells #[.int .i64 p, .int .i64 d, .int .i64 q] 46)) #[.int .i64 0, .int .i64 0, .int .i64 0] 46
      simpa using this
    have hbb0 := Lib.hid (ext_alloc (ext1 w (.cells #[.int .i64 p, .int .i64 d, .int .i64 q] 46)) (.cells #[.int .i64 0, .int .i64 0, .int .i64 0] 46))
    refine (l00In_is HIN.out _).mono ?_
    rintro e w' ⟨rfl, rfl⟩
    generalize hWW : ((w.alloc (.cells #[.int .i64 p, .int .i64 d, .int .i64 q] 46)).alloc (.cells #[.int .i64 0, .int .i64 0, .int .i64 0] 46)) = W1 at *
    have hlt2 := B2.lt
    clear hWW
    have x0 := B1.at 0 _ rfl
    have x1 := B1.at 1 _ rfl
    have x2 := B1.at 2 _ rfl
    have H1 := Lib.hid (fun (W : World) (hb : BoxV w.heap.size [.int .i64 p, .int .i64 d, .int .i64 q] W) => And.intro (hb.at 0 _ rfl) (And.intro (hb.at 1 _ rfl) (hb.at 2 _ rfl)))
    go_wp2_with fail
    go_region_held3 (fun w' => w'.cell? ⟨w.heap.size, 0, none⟩ = some (.int .i64 p) ∧ w'.cell? ⟨w.heap.size, 1, none⟩ = some (.int .i64 d) ∧ w'.cell? ⟨w.heap.size, 2, none⟩ = some (.int .i64 q))
      (first | exact H1.out _ B1.drew | exact H1.out _ (B1.drew.alloc _) | exact H1.out _ ((((B1.drew.alloc _).setFar _ (by simp; omega)).setFar _ (by simp; omega)).setFar _ (by simp; omega)))
      (fail)
    go_wp2_with fail
    have B3 : BoxV W1.heap.size [.int .i64 np, .int .i64 d, .int .i64 nq] ((W1.alloc (.cells #[.int .i64 np, .int .i64 d, .int .i64 nq] 46)).drew) := (BoxV.new W1 #[.int .i64 np, .int .i64 d, .int .i64 nq] 46).drew
    have B4 : Hid (BoxV (w.heap.size + 1) [.int .i64 0, .int .i64 0, .int .i64 0] ((W1.alloc (.cells #[.int .i64 np, .int .i64 d, .int .i64 nq] 46)).drew)) := (B2.alloc _).drew
    have hbb : Hid (Below w.heap.size w ((W1.alloc (.cells #[.int .i64 np, .int .i64 d, .int .i64 nq] 46)).drew)) := ext_drew (ext_alloc hbb0.out _)
    clear x0 x1 x2 H1 B1 B2 hbb0
    generalize ((W1.alloc (.cells #[.int .i64 np, .int .i64 d, .int .i64 nq] 46)).drew) = W at *
    generalize W1.heap.size = g at *
    have x0 := B3.at 0 _ rfl
    have x1 := B3.at 1 _ rfl
    have x2 := B3.at 2 _ rfl
    have H3 := Lib.hid (fun (W : World) (hb : BoxV g [.int .i64 np, .int .i64 d, .int .i64 nq] W) => And.intro (hb.at 0 _ rfl) (And.intro (hb.at 1 _ rfl) (hb.at 2 _ rfl)))
    go_region_held3 (fun w' => w'.cell? ⟨g, 0, none⟩ = some (.int .i64 np) ∧ w'.cell? ⟨g, 1, none⟩ = some (.int .i64 d) ∧ w'.cell? ⟨g, 2, none⟩ = some (.int .i64 nq))
      (first | exact H3.out _ B3.drew | exact H3.out _ (B3.drew.next (by assumption)) | exact H3.out _ ((((B3.drew.next hb4).setFar _ (by omega)).setFar _ (by omega)).setFar _ (by omega)))
      (first | (go_at_call 128; (with_reducible refine (HV.out _).mono ?_); rintro e w4 ⟨rfl, hb4⟩; have B5 := B4.out.drew.next hb4; have y0 := B5.at 0 _ rfl; have y1 := B5.at 1 _ rfl; have y2 := B5.at 2 _ rfl; have F0 := B5.f 0; have F1 := B5.f 1; have F2 := B5.f 2))
    obtain ⟨s0, s1, s2⟩ := set3 y0 y1 y2
    go_wp2
    exact bodyPost_ret (v := .tuple #[surdV np d nq, .bool ok]) (by simp [results, Tryz.results134, go_sem, s0, s1, s2]; done) rfl ⟨(np, d, nq), rfl, (fun _ => HX.out.symm), ext_set (ext_set (ext_set (ext_trans (ext_drew hbb.out) hb4) (by simp) _) (by simp) _) (by simp) _⟩
end Go.Proofs.YtpgkellmhlmjeaaGreatDoor
namespace Go.Proofs.YtpgkellmhlmjeaaGreatDoor
open Go.RowKit Go.Sort Go.Maps Go.WideMaps
theorem wf64 {n : Int} (h1 : -9223372036854775808 ≤ n) (h2 : n ≤ 9223372036854775807) : (Lit.int .i64 n).wf = true := by
  have e1 : IntKind.i64.min = -9223372036854775808 := by decide
  have e2 : IntKind.i64.max = 9223372036854775807 := by decide
  show (decide (IntKind.i64.min ≤ n) && decide (n ≤ IntKind.i64.max)) = true
  rw [e1, e2]
  simp [h1, h2]
theorem laidOutM : laidOutB Tryz.prog = true := by kernel_rfl
theorem keyedSurd : Keyed Tryz.prog 46 := Keyed.of_law (deep_law_laid laidOutM (m := 2) (by omega) (of_decide_eq_true (by kernel_rfl)) (by kernel_rfl) (by rw [Tryz.underlying46]))
theorem keyOf_surd {a b c : Int} (wa : (Lit.int .i64 a).wf = true) (wb : (Lit.int .i64 b).wf = true) (wc : (Lit.int .i64 c).wf = true) : ∃ kl, keyOf Tryz.prog 46 (.agg #[.int .i64 a, .int .i64 b, .int .i64 c]) = some kl := by
  have hkt : Tryz.prog.keyType 46 = true := by kernel_rfl
  unfold keyOf
  simp only [Tryz.underlying46]
  have hco : Tryz.prog.cellsOf 46 = 3 := by kernel_rfl
  have hco2 : Tryz.prog.cellsOf 2 = 1 := by kernel_rfl
  obtain ⟨m, hsz⟩ : ∃ m, Tryz.prog.types.size = m + 1 + 1 := ⟨Tryz.prog.types.size - 2, by have : 2 ≤ Tryz.prog.types.size := of_decide_eq_true (by kernel_rfl); omega⟩
  rw [if_pos (by simp [hkt, Value.formed, Tryz.underlying46, hco]), hsz]
  unfold Program.keyLits
  simp only [Tryz.underlying46, Value.cells]
  simp [Program.keyLits, Tryz.underlying2, hco, hco2, wa, wb, wc]
end Go.Proofs.YtpgkellmhlmjeaaGreatDoor
namespace Go.Proofs.YtpgkellmhlmjeaaGreatDoor
open Go.RowKit Go.Sort Go.Maps Go.WideMaps
def sdV (s : Sd) : Value := .agg #[.int .i64 s.1, .int .i64 s.2.1, .int .i64 s.2.2]
/-- Surds as a row of integers. -/
def sdL (L : List Sd) : List Int := L.flatMap fun s => [s.1, s.2.1, s.2.2]
theorem sdL_length (L : List Sd) : (sdL L).length = L.length * 3 := by
  induction L with
  | nil => rfl
  | cons p ps ih => simp only [sdL, List.flatMap_cons, List.length_append, List.length_cons, List.length_nil] at *; omega
theorem sdL_snoc (L : List Sd) (s : Sd) : sdL (L ++ [s]) = sdL L ++ [s.1, s.2.1, s.2.2] := by simp [sdL]
theorem sdL_get {L : List Sd} {j : Nat} {s : Sd} (h : L[j]? = some s) : (sdL L)[j * 3]? = some s.1 ∧ (sdL L)[j * 3 + 1]? = some s.2.1 ∧ (sdL L)[j * 3 + 2]? = some s.2.2 := by
  induction L generalizing j with
  | nil => simp at h
  | cons a ps ih =>
    cases j with
    | zero =>
      simp at h
      subst h
      simp [sdL]
    | succ j =>
      have := ih (j := j) (by simpa using h)
      have e1 : (j + 1) * 3 = j * 3 + 1 + 1 + 1 := by omega
      simp only [sdL, List.flatMap_cons] at *
      rw [e1]
      exact this
theorem klS_ex : ∃ f : Sd → Lit, ∀ s, sdOk s = true → keyOf Tryz.prog 46 (sdV s) = some (f s) :=
  ⟨fun s => (keyOf Tryz.prog 46 (sdV s)).getD (.bool false), fun s h => by
    obtain ⟨⟨d1, d2⟩, _, ⟨p1, p2⟩, ⟨q1, q2⟩, _⟩ := surdB_true.1 h
    obtain ⟨kl, h⟩ := keyOf_surd (wf64 (n := s.1) (by omega) (by omega)) (wf64 (n := s.2.1) (by omega) (by omega)) (wf64 (n := s.2.2) (by omega) (by omega))
    unfold sdV
    simp only [h]
    rfl⟩
noncomputable def klS : Sd → Lit := Classical.choose klS_ex
theorem klS_key {s : Sd} (h : sdOk s = true) : keyOf Tryz.prog 46 (sdV s) = some (klS s) := Classical.choose_spec klS_ex s h
theorem sdV_inj {s t : Sd} (h : sdV s = sdV t) : s = t := by
  unfold sdV at h
  simp at h
  obtain ⟨a, b, c⟩ := h
  exact Prod.ext a (Prod.ext b c)
theorem klS_inj {s t : Sd} (hs : sdOk s = true) (ht : sdOk t = true) (h : klS s = klS t) : s = t := by
  have h1 := klS_key hs
  have h2 := klS_key ht
  rw [h] at h1
  exact sdV_inj (keyedSurd.inj h1 h2)
theorem klS_lit {s : Sd} (h : sdOk s = true) : WideAt.IsKeyLit (klS s) := keyedSurd.key (klS_key h)
/-- The map tells of each surd of a list its place. -/
def MpS (L : List Sd) (D : DataW Unit) : Prop := IsMap D ∧ ∀ s, sdOk s = true → has D (klS s) = decide (s ∈ L) ∧ (s ∈ L → ∀ z, D.atKey (klS s) z = .lit (.int .i64 (L.idxOf s : Int)))
theorem MpS.nil_ : MpS [] (.map []) := ⟨isMap_empty, fun s _ => ⟨by simp [has], fun h => absurd h (by simp)⟩⟩
theorem MpS.push {L : List Sd} {D : DataW Unit} {s : Sd} (h : MpS L D) (hs : sdOk s = true) (hn : s ∉ L) : MpS (L ++ [s]) (D.put (klS s) (.lit (.int .i64 (L.length : Int)))) := by
  refine ⟨h.1.put _ _, fun t ht => ?_⟩
  by_cases e : t = s
  · subst e
    refine ⟨by rw [has_put_same h.1 (klS_lit ht)]; simp, fun _ z => ?_⟩
    rw [atKey_put_same h.1 (klS_lit ht), List.idxOf_append, if_neg hn]
    simp
  · have hk : klS t ≠ klS s := fun h' => e (klS_inj ht hs h')
    have hm : (t ∈ L ++ [s]) ↔ t ∈ L := by simp [e]
    refine ⟨by rw [has_put_other hk, (h.2 t ht).1]; simp [e], fun hm' z => ?_⟩
    have hmL := hm.1 hm'
    rw [atKey_put_other hk, (h.2 t ht).2 hmL, List.idxOf_append, if_pos hmL]
theorem own_setFar {w : World} {base : Nat} {e : TypeId} {size n : Nat} {v : Value} {xs : List Value} (h : w.ownsRow base e size v n xs) {g j : Nat} (u : Value) (hg : g < base) : (w.setCell ⟨g, j, none⟩ u).ownsRow base e size v n xs := by
  obtain ⟨h1, h2⟩ := h
  refine ⟨h1, ?_⟩
  rcases h2 with h2 | ⟨g', cap, cur, hv, hb, hh, r⟩
  · exact .inl h2
  · refine .inr ⟨g', cap, cur, hv, hb, (Below.heap_setCell w ⟨g, j, none⟩ u g' ?_).trans hh, r⟩
    intro e
    have e : g' = g := e
    omega
theorem own_far {w : World} {base : Nat} {e : TypeId} {size n : Nat} {v : Value} {xs : List Value} (h : w.ownsRow base e size v n xs) {g : Nat} (hg : g < base) : v.ownBlock ≠ some g := fun e => by have := (h.lt g e).1; omega
end Go.Proofs.YtpgkellmhlmjeaaGreatDoor
