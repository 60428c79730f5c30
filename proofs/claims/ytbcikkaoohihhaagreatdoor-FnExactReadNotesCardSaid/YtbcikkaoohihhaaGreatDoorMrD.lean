/- XPerP XPerW XMapK XPerK XPerIW XPerSW XPeriodW XPdW XCertW XProvePW XPackNW in one text. No condition but those that each theorem names. -/
import Derived.Test.YtbcikkaoohihhaaGreatDoorMrC
import Derived.Test.YtbcikkaoohihhaaGreatDoorMrA
import Derived.Deep.RegionHeld3
import Derived.IntWalk
import Derived.DeepKeys4
import Derived.Maps.OwnSet
import Derived.Maps.Views
import Derived.Carry
import Derived.Test.YtbcikkaoohihhaaGreatDoorMrB
import Derived.Deep.RegionLaw
import Derived.Test.YtbcikkaoohihhaaGreatDoorConcatW
import Derived.Test.YtbcikkaoohihhaaGreatDoorPackW
/- Surds one after the other: floors, next ones, periods: the plain law. No condition but those that each theorem names. -/
namespace Go.Proofs.YtbcikkaoohihhaaGreatDoor
open Go.RowKit Go.Sort

/-- A surd: P, D, Q. -/
abbrev Sd := Int × Int × Int
def sdOk (s : Sd) : Bool := surdB s.1 s.2.1 s.2.2
def flS (s : Sd) : Int := if 0 < s.2.2 then (s.1 + rtI s.2.1) / s.2.2 else -((s.1 + rtI s.2.1) / (-s.2.2)) - 1
def npS (s : Sd) : Int := flS s * s.2.2 - s.1
def nqS (s : Sd) : Int := (s.2.1 - npS s * npS s).tdiv s.2.2
def nxS (s : Sd) : Sd := (npS s, s.2.1, nqS s)

theorem rt_small {d : Int} (h1 : 2 ≤ d) (h2 : d ≤ 1000000) (h3 : sqB d = false) : 1 ≤ rtI d ∧ rtI d ≤ 999 ∧ rtI d * rtI d < d ∧ d < (rtI d + 1) * (rtI d + 1) := by
  obtain ⟨a, b, c⟩ := rtI_is (n := d) (by omega)
  have hne : rtI d * rtI d ≠ d := by simpa [sqB] using h3
  have hlo : 1 ≤ rtI d := by
    rcases Int.lt_or_le (rtI d) 1 with g | g
    · have e : rtI d = 0 := by omega
      rw [e] at c
      omega
    · exact g
  have hhi : rtI d ≤ 999 := by
    rcases Int.lt_or_le 999 (rtI d) with g | g
    · have := sq_mono (a := 1000) (b := rtI d) (by omega) (by omega)
      omega
    · exact g
  exact ⟨hlo, hhi, by omega, c⟩

theorem neg_floor (x m : Int) (hm : 0 < m) : -(x / m) - 1 = (-x - 1) / m := by
  have h1 := Int.mul_ediv_add_emod x m
  have h2 := Int.emod_nonneg x (show m ≠ 0 by omega)
  have h3 := Int.emod_lt_of_pos x hm
  have key : -x - 1 = (-(x / m) - 1) * m + (m - 1 - x % m) := by
    have : (-(x / m) - 1) * m = -(m * (x / m)) - m := by rw [Int.sub_mul, Int.neg_mul, Int.mul_comm (x / m) m, Int.one_mul]
    omega
  have z : (m - 1 - x % m) / m = 0 := Int.ediv_eq_zero_of_lt (by omega) (by omega)
  rw [key, Int.add_comm, Int.add_mul_ediv_right _ _ (show m ≠ 0 by omega), z]
  omega

/-- Where the next P lies. -/
theorem npS_rng {s : Sd} (h : sdOk s = true) : (0 < s.2.2 → rtI s.2.1 - s.2.2 < npS s ∧ npS s ≤ rtI s.2.1) ∧ (s.2.2 < 0 → rtI s.2.1 < npS s ∧ npS s ≤ rtI s.2.1 - s.2.2) := by
  obtain ⟨p, d, q⟩ := s
  refine ⟨fun hq => ?_, fun hq => ?_⟩
  · have hq' : 0 < q := hq
    have h1 := Int.mul_ediv_add_emod (p + rtI d) q
    have h2 := Int.emod_nonneg (p + rtI d) (show q ≠ 0 by omega)
    have h3 := Int.emod_lt_of_pos (p + rtI d) hq'
    have e : flS (p, d, q) = (p + rtI d) / q := by simp [flS, hq']
    simp only [npS, e]
    rw [Int.mul_comm]
    generalize q * ((p + rtI d) / q) = X at *
    omega
  · have hq' : q < 0 := hq
    have h1 := Int.mul_ediv_add_emod (p + rtI d) (-q)
    have h2 := Int.emod_nonneg (p + rtI d) (show -q ≠ 0 by omega)
    have h3 := Int.emod_lt_of_pos (p + rtI d) (show 0 < -q by omega)
    have e : flS (p, d, q) = -((p + rtI d) / (-q)) - 1 := by
      have : ¬ 0 < q := by omega
      simp [flS, this]
    simp only [npS, e]
    have k : (-((p + rtI d) / -q) - 1) * q = -q * ((p + rtI d) / -q) - q := by
      rw [Int.sub_mul, Int.neg_mul, Int.neg_mul, Int.mul_comm q]; omega
    rw [k]
    generalize -q * ((p + rtI d) / -q) = X at *
    omega
/-- All that the walks must know of the numbers on the way to the next surd. -/
theorem step_bds {p d q : Int} (h : surdB p d q = true) : (2 ≤ d ∧ d ≤ 1000000) ∧ (1 ≤ rtI d ∧ rtI d ≤ 999) ∧ (-1000000 ≤ p ∧ p ≤ 1000000) ∧ (-1000000 ≤ q ∧ q ≤ 1000000 ∧ q ≠ 0) ∧
    (-1001001 ≤ flS (p, d, q) ∧ flS (p, d, q) ≤ 1001001) ∧ (-1001000 ≤ npS (p, d, q) ∧ npS (p, d, q) ≤ 1001000) ∧ (0 ≤ npS (p, d, q) * npS (p, d, q) ∧ npS (p, d, q) * npS (p, d, q) ≤ 1002001000000) ∧
    (-2002001 ≤ flS (p, d, q) * q ∧ flS (p, d, q) * q ≤ 2002001) ∧ (-1002001000000 ≤ nqS (p, d, q) ∧ nqS (p, d, q) ≤ 1002001000000) := by
  obtain ⟨⟨d1, d2⟩, hs, ⟨p1, p2⟩, ⟨q1, q2⟩, q0, hm⟩ := surdB_true.1 h
  obtain ⟨r1, r2, r3, r4⟩ := rt_small d1 d2 hs
  have hrng := npS_rng (s := (p, d, q)) h
  have hnp : -1001000 ≤ npS (p, d, q) ∧ npS (p, d, q) ≤ 1001000 := by
    rcases Int.lt_or_lt_of_ne q0 with g | g
    · have := hrng.2 g; simp only at this; omega
    · have := hrng.1 g; simp only at this; omega
  have hfl : -1001001 ≤ flS (p, d, q) ∧ flS (p, d, q) ≤ 1001001 := by
    unfold flS
    simp only
    split
    · rename_i g
      have := ediv_bd (n := p + rtI d) (M := 1001000) g (by omega) (by omega)
      omega
    · rename_i g
      have := ediv_bd (n := p + rtI d) (M := 1001000) (show 0 < -q by omega) (by omega) (by omega)
      omega
  have hsq : 0 ≤ npS (p, d, q) * npS (p, d, q) ∧ npS (p, d, q) * npS (p, d, q) ≤ 1002001000000 := by
    obtain ⟨m1, m2⟩ := hnp
    have := mul_bd (x := npS (p, d, q)) (y := npS (p, d, q)) (M := 1001000) (N := 1001000) (by omega) m2 (by omega) m2 m1 m1
    have h0 : 0 ≤ npS (p, d, q) * npS (p, d, q) := by
      rcases Int.le_total 0 (npS (p, d, q)) with g | g
      · exact Int.mul_nonneg g g
      · exact Int.mul_nonneg_of_nonpos_of_nonpos g g
    omega
  have hnq : -1002001000000 ≤ nqS (p, d, q) ∧ nqS (p, d, q) ≤ 1002001000000 := by
    unfold nqS
    simp only
    generalize npS (p, d, q) * npS (p, d, q) = X at *
    have : ((d - X).tdiv q).natAbs ≤ (d - X).natAbs := by
      rw [Int.natAbs_tdiv]
      exact Nat.div_le_self _ _
    omega
  have hmul : flS (p, d, q) * q = npS (p, d, q) + p := by simp only [npS]; omega
  exact ⟨⟨d1, d2⟩, ⟨r1, r2⟩, ⟨p1, p2⟩, ⟨q1, q2, q0⟩, hfl, hnp, hsq, by omega, hnq⟩

/-- The surds up to the last one before one comes again, and the place of this one; k: how many may still come. -/
def per : Nat → List Sd → Sd → Option (List Sd × Nat)
  | 0, L, s => if s ∈ L then some (L, L.idxOf s) else none
  | k + 1, L, s => if s ∈ L then some (L, L.idxOf s) else if sdOk (nxS s) = true then per k (L ++ [s]) (nxS s) else none
def perOf (s : Sd) : Option (List Sd × Nat) := per 400 [] s

def headOf (R : List Sd × Nat) : List Int := (R.1.take R.2).map flS
def cycOf (R : List Sd × Nat) : List Int := (R.1.drop R.2).map flS
theorem per_facts : ∀ (k : Nat) (L : List Sd) (s : Sd) (R : List Sd × Nat), per k L s = some R → R.2 < R.1.length ∧ R.1.length ≤ L.length + k
  | 0, L, s, R, h => by
    unfold per at h
    split at h
    · rename_i g
      injection h with h; subst h
      exact ⟨List.idxOf_lt_length_of_mem g, by simp⟩
    · cases h
  | k + 1, L, s, R, h => by
    unfold per at h
    split at h
    · rename_i g
      injection h with h; subst h
      exact ⟨List.idxOf_lt_length_of_mem g, by simp⟩
    · split at h
      · have := per_facts k _ _ R h
        simp at this
        omega
      · cases h
end Go.Proofs.YtbcikkaoohihhaaGreatDoor

/- Surds: the floor and the next one: both walks. No condition but those that each theorem names. -/
namespace Go.Proofs.YtbcikkaoohihhaaGreatDoor
open Go.RowKit Go.Sort

/-- What the reference's step returns: whether the next surd is one, and it. -/
def RetNx (w : World) (s : Sd) (e : Ending) (w' : World) : Prop :=
  ∃ t : Sd, e = .returned (.tuple #[surdV t.1 t.2.1 t.2.2, .bool (sdOk (nxS s))]) ∧ (sdOk (nxS s) = true → t = nxS s) ∧ Below w.heap.size w w'
end Go.Proofs.YtbcikkaoohihhaaGreatDoor

/- Maps whose keys are structs of integers. No condition but those that each theorem names. -/
namespace Go.Proofs.YtbcikkaoohihhaaGreatDoor
open Go.RowKit Go.Sort Go.Maps Go.WideMaps

theorem step_mapUpdate {H : Type} {P : Program} {w : World} {ops : Array Oper} {o : Oper} {a : Act} {K' : Act → World → Prop} {Q : Exit → Act → World → Prop} {E : Prop}
    (hg : o.guard = none) (m x v : Operand) (t : TypeId) (hop : o.op = Op.mapUpdate t m x v)
    (k e : TypeId) (K : Keyed P k) (ht : P.underlying t = some (.map k e)) (R : Value → Option (DataW H × List MemPlace)) (b n : Nat) (D : DataW H)
    (hm : a.eval m = .map (some b)) (hown : w.ownsMap P k R b n D) (hn : n < maxLen) (key val : Value) (kl : Lit) (hx : a.eval x = key) (hv : a.eval v = val) (hkey : keyOf P k key = some kl)
    (d : DataW H) (ps : List MemPlace) (hval : R val = some (d, ps))
    (hK : ∀ w', w'.ownsMap P k R b (n + 1) (D.put kl d) → w.grownBy w' (some b) → K' (a.put o.dst undef) w') :
    if Region.wanted o (yielded ops a.tmps) = true then Oper.wp P o a w K' Q else E := by
  have hw : Region.wanted o (yielded ops a.tmps) = true := by simp [Region.wanted, hg]
  rw [if_pos hw]
  obtain ⟨w', hrun, r1, r2⟩ := hown.update K ht hn hkey hval
  unfold Oper.wp
  simp [execOp, hop, hm, hx, hv, hrun, Result.andThen]
  exact hK _ r1 r2

theorem wf64 {n : Int} (h1 : -9223372036854775808 ≤ n) (h2 : n ≤ 9223372036854775807) : (Lit.int .i64 n).wf = true := by
  have e1 : IntKind.i64.min = -9223372036854775808 := by decide
  have e2 : IntKind.i64.max = 9223372036854775807 := by decide
  show (decide (IntKind.i64.min ≤ n) && decide (n ≤ IntKind.i64.max)) = true
  rw [e1, e2]
  simp [h1, h2]
theorem laidOutM : laidOutB Tryz.prog = true := by kernel_rfl
end Go.Proofs.YtbcikkaoohihhaaGreatDoor

/- Surds as keys of a map. No condition but those that each theorem names. -/
namespace Go.Proofs.YtbcikkaoohihhaaGreatDoor
open Go.RowKit Go.Sort Go.Maps Go.WideMaps

def sdV (s : Sd) : Value := .agg #[.int .i64 s.1, .int .i64 s.2.1, .int .i64 s.2.2]
/-- Surds as a row of integers. -/
def sdL (L : List Sd) : List Int := L.flatMap fun s => [s.1, s.2.1, s.2.2]
theorem sdL_length (L : List Sd) : (sdL L).length = L.length * 3 := by
  induction L with
  | nil => rfl
  | cons p ps ih => simp only [sdL, List.flatMap_cons, List.length_append, List.length_cons, List.length_nil] at *; omega
theorem sdL_snoc (L : List Sd) (s : Sd) : sdL (L ++ [s]) = sdL L ++ [s.1, s.2.1, s.2.2] := by simp [sdL]
theorem sdL_get {L : List Sd} {j : Nat} {s : Sd} (h : L[j]? = some s) : (sdL L)[j * 3]? = some s.1 ∧ (sdL L)[j * 3 + 1]? = some s.2.1 ∧ (sdL L)[j * 3 + 2]? = some s.2.2 := by
  induction L generalizing j with
  | nil => simp at h
  | cons a ps ih =>
    cases j with
    | zero =>
      simp at h
      subst h
      simp [sdL]
    | succ j =>
      have := ih (j := j) (by simpa using h)
      have e1 : (j + 1) * 3 = j * 3 + 1 + 1 + 1 := by omega
      simp only [sdL, List.flatMap_cons] at *
      rw [e1]
      exact this

theorem own_setFar {w : World} {base : Nat} {e : TypeId} {size n : Nat} {v : Value} {xs : List Value} (h : w.ownsRow base e size v n xs) {g j : Nat} (u : Value) (hg : g < base) : (w.setCell ⟨g, j, none⟩ u).ownsRow base e size v n xs := by
  obtain ⟨h1, h2⟩ := h
  refine ⟨h1, ?_⟩
  rcases h2 with h2 | ⟨g', cap, cur, hv, hb, hh, r⟩
  · exact .inl h2
  · refine .inr ⟨g', cap, cur, hv, hb, (Below.heap_setCell w ⟨g, j, none⟩ u g' ?_).trans hh, r⟩
    intro e
    have e : g' = g := e
    omega
theorem own_far {w : World} {base : Nat} {e : TypeId} {size n : Nat} {v : Value} {xs : List Value} (h : w.ownsRow base e size v n xs) {g : Nat} (hg : g < base) : v.ownBlock ≠ some g := fun e => by have := (h.lt g e).1; omega
end Go.Proofs.YtbcikkaoohihhaaGreatDoor

/- Surds up to the first that comes again: the program's walk. No condition but those that each theorem names. -/
namespace Go.Proofs.YtbcikkaoohihhaaGreatDoor
open Go.RowKit Go.Sort Go.Maps Go.WideMaps

theorem infoSd : (Tryz.prog.info? 34).map (fun i => (i.zero, i.size, i.bytes)) = some (some (.agg #[.int .i64 0, .int .i64 0, .int .i64 0]), 3, 24) := by kernel_rfl
theorem zeroInt (w : World) : (zeroValue 3).run Tryz.prog w = .ok (.int .i64 0) w := by kernel_rfl
theorem grown_of {w w' : World} (hb : Below w.heap.size w w') : w.grownBy w' none := ⟨hb.os, hb.tape, hb.output, hb.size, fun k hk _ => hb.block k hk⟩
/-- What a call returns that goes along surds. -/
def RetSo (w : World) (R : Option (List Sd × Nat)) (e : Ending) (w' : World) : Prop :=
  ∃ A c, e = .returned (.tuple #[.slice A (R.getD ([], 0)).1.length c, .int .i64 ((R.getD ([], 0)).2 : Int), .bool R.isSome]) ∧ Wr (Value.int .i64) w' w.heap.size A (sdL (R.getD ([], 0)).1) ∧ Below w.heap.size w w'
def lenOf : Value → Nat
  | .slice _ n _ => n
  | _ => 0
end Go.Proofs.YtbcikkaoohihhaaGreatDoor

/- Surds up to the first that comes again: the reference's walk. No condition but those that each theorem names. -/
namespace Go.Proofs.YtbcikkaoohihhaaGreatDoor
open Go.RowKit Go.Sort Go.Maps Go.WideMaps

/-- The place of a surd in a list; -1 if it is not there. -/
def fdS (L : List Sd) (s : Sd) : Int := if s ∈ L then (L.idxOf s : Int) else -1
theorem fdS_mem {L : List Sd} {s : Sd} (h : s ∈ L) : fdS L s = (L.idxOf s : Int) := if_pos h
theorem fdS_not {L : List Sd} {s : Sd} (h : s ∉ L) : fdS L s = -1 := if_neg h
theorem fd_step {L : List Sd} {s t : Sd} {k : Nat} (h : s ∉ L.take k) (ht : L[k]? = some t) (hne : t ≠ s) : s ∉ L.take (k + 1) := by
  rw [List.take_add_one, ht]
  simp
  exact ⟨by simpa using h, fun e => hne e.symm⟩
theorem fd_hit {L : List Sd} {s : Sd} {k : Nat} (h : s ∉ L.take k) (ht : L[k]? = some s) : fdS L s = (k : Int) := by
  have hk : k < L.length := (List.getElem?_eq_some_iff.1 ht).1
  have hm : s ∈ L := List.mem_of_getElem? ht
  rw [fdS_mem hm]
  have e : L = L.take k ++ L.drop k := (List.take_append_drop k L).symm
  have hd : L.drop k = s :: L.drop (k + 1) := by rw [List.drop_eq_getElem_cons hk]; congr 1; exact (List.getElem?_eq_some_iff.1 ht).2
  have : L.idxOf s = k := by
    rw [e, List.idxOf_append, if_neg h, hd]
    simp
    omega
  rw [this]

/-- What a cell holds. -/
def cellV (a : Addr) (w : World) : Value := (w.cell? a).getD (.bool false)
theorem cellV_some {a : Addr} {w : World} {v : Value} (h : w.cell? a = some v) : w.cell? a = some (cellV a w) := by unfold cellV; rw [h]; rfl
theorem cellV_eq {a : Addr} {w : World} {v : Value} (h : w.cell? a = some v) : cellV a w = v := by unfold cellV; rw [h]; rfl
theorem infoSd' : (Tryz.prog.info? 34).map (fun i => (i.zero, i.size, i.bytes)) = some (some (.agg #[.int .i64 0, .int .i64 0, .int .i64 0]), 3, 24) := by kernel_rfl
def lenOf' : Value → Nat
  | .slice _ n _ => n
  | _ => 0
/-- The reference's walk in block g. -/
def WkAt (B g : Nat) (L : List Sd) (i : Int) (W : World) : Prop :=
  ∃ A1 c1 A2 c2, BoxV g [.slice A1 L.length c1, .slice A2 L.length c2, .int .i64 i] W ∧ B ≤ g ∧ Wr (Value.int .i64) W B A1 (sdL L) ∧ Wr (Value.int .i64) W B A2 (L.map flS)
theorem WkAt.next {B g : Nat} {L : List Sd} {i : Int} {W W' : World} (h : WkAt B g L i W) (hb : Below W.heap.size W W') : WkAt B g L i W' := by
  obtain ⟨A1, c1, A2, c2, h1, h2, h3, h4⟩ := h
  exact ⟨A1, c1, A2, c2, h1.next hb, h2, h3.below hb, h4.below hb⟩
theorem WkAt.more {B B' g : Nat} {L : List Sd} {i : Int} {W : World} (h : WkAt B g L i W) (hB : B' ≤ B) : WkAt B' g L i W := by
  obtain ⟨A1, c1, A2, c2, h1, h2, h3, h4⟩ := h
  exact ⟨A1, c1, A2, c2, h1, by omega, h3.more hB, h4.more hB⟩
/-- What a call returns that walks along surds. -/
def RetWk (w : World) (R : Option (List Sd × Nat)) (e : Ending) (w' : World) : Prop :=
  ∃ g, e = .returned (.tuple #[.pointer (some ⟨g, 0, none⟩), .bool R.isSome]) ∧ Below w.heap.size w w' ∧ ∀ L i, R = some (L, i) → WkAt w.heap.size g L (i : Int) w'
/-- What holds on the way. -/
structure SoS (w : World) (L : List Sd) (s : Sd) (f : Int) (v1 v2 : Value) (wr : World) : Prop where
  box : BoxV w.heap.size [.int .i64 s.1, .int .i64 s.2.1, .int .i64 s.2.2] wr
  wk : BoxV (w.heap.size + 1) [v1, v2, .int .i64 f] wr
  own1 : wr.ownsRow (w.heap.size + 2) 34 3 v1 L.length ((sdL L).map (Value.int .i64))
  own2 : wr.ownsRow (w.heap.size + 2) 2 1 v2 L.length ((L.map flS).map (Value.int .i64))
  apart : v1.ownBlock = none ∧ v2.ownBlock = none ∨ v1.ownBlock ≠ v2.ownBlock
  below : Below w.heap.size w wr
  lt : w.heap.size + 2 ≤ wr.heap.size
  ok : sdOk s = true
theorem SoS.next {w : World} {L : List Sd} {s : Sd} {f : Int} {v1 v2 : Value} {wr w2 : World} (h : SoS w L s f v1 v2 wr) (hb : Below wr.heap.size wr w2) : SoS w L s f v1 v2 w2 :=
  ⟨h.box.next hb, h.wk.next hb, own_below h.own1 hb, own_below h.own2 hb, h.apart, ext_trans h.below hb, Nat.le_trans h.lt hb.size, h.ok⟩
theorem SoS.drew {w : World} {L : List Sd} {s : Sd} {f : Int} {v1 v2 : Value} {wr : World} (h : SoS w L s f v1 v2 wr) : SoS w L s f v1 v2 wr.drew := h.next (ext_drew (Below.refl _ _))
theorem SoS.setF {w : World} {L : List Sd} {s : Sd} {f : Int} {v1 v2 : Value} {wr : World} (h : SoS w L s f v1 v2 wr) (g : Int) : SoS w L s g v1 v2 (wr.setCell ⟨w.heap.size + 1, 2, none⟩ (.int .i64 g)) :=
  ⟨h.box.setFar _ (by omega), h.wk.set 2 _ (by simp), own_setFar h.own1 _ (by omega), own_setFar h.own2 _ (by omega), h.apart, ext_set h.below (by simp) _, by simpa using h.lt, h.ok⟩
theorem SoS.setS {w : World} {L : List Sd} {s t : Sd} {f : Int} {v1 v2 : Value} {wr : World} (h : SoS w L s f v1 v2 wr) (ht : sdOk t = true) :
    SoS w L t f v1 v2 (((wr.setCell ⟨w.heap.size, 0, none⟩ (.int .i64 t.1)).setCell ⟨w.heap.size, 1, none⟩ (.int .i64 t.2.1)).setCell ⟨w.heap.size, 2, none⟩ (.int .i64 t.2.2)) :=
  ⟨((h.box.set 0 _ (by simp)).set 1 _ (by simp)).set 2 _ (by simp), ((h.wk.setFar _ (by omega)).setFar _ (by omega)).setFar _ (by omega), own_setFar (own_setFar (own_setFar h.own1 _ (by omega)) _ (by omega)) _ (by omega), own_setFar (own_setFar (own_setFar h.own2 _ (by omega)) _ (by omega)) _ (by omega), h.apart,
    ext_set (ext_set (ext_set h.below (by simp) _) (by simp) _) (by simp) _, by simpa using h.lt, ht⟩
end Go.Proofs.YtbcikkaoohihhaaGreatDoor

/- Head and period of a surd: the program's walk. No condition but those that each theorem names. -/
namespace Go.Proofs.YtbcikkaoohihhaaGreatDoor
open Go.RowKit Go.Sort Go.Maps Go.WideMaps

def hdR (R : Option (List Sd × Nat)) : List Int := (R.map headOf).getD []
def cyR (R : Option (List Sd × Nat)) : List Int := (R.map cycOf).getD []
theorem per_ok : ∀ (k : Nat) (L : List Sd) (s : Sd) (R : List Sd × Nat), sdOk s = true → (∀ x ∈ L, sdOk x = true) → per k L s = some R → ∀ x ∈ R.1, sdOk x = true
  | 0, L, s, R, _, hL, h => by
    unfold per at h
    split at h
    · injection h with h; subst h; exact hL
    · cases h
  | k + 1, L, s, R, hs, hL, h => by
    unfold per at h
    split at h
    · injection h with h; subst h; exact hL
    · split at h
      · rename_i hn
        exact per_ok k _ _ R hn (fun x hx => by
          rcases List.mem_append.1 hx with h1 | h1
          · exact hL x h1
          · rw [List.mem_singleton.1 h1]; exact hs) h
      · cases h
theorem own_full {w : World} {base : Nat} {v : Value} {xs : List Int} (h : w.ownsRow base 2 1 v xs.length (xs.map (Value.int .i64))) : ∃ A c, v = .slice A xs.length c ∧ Wr (Value.int .i64) w base A xs ∧ xs.length ≤ c ∧ c ≤ maxLen := by
  obtain ⟨_, A, c, e, g⟩ := Wr.of_own h
  refine ⟨A, c, e, g, ?_⟩
  rcases h.2 with ⟨e2, h0⟩ | ⟨g', cap, cur, e2, _, _, hc, hm, _⟩
  · rw [e] at e2
    injection e2 with _ _ e3
    rw [e3, h0]
    exact ⟨Nat.le_refl _, Nat.zero_le _⟩
  · rw [e] at e2
    injection e2 with _ _ e3
    rw [e3]
    exact ⟨hc, hm⟩
/-- What a call returns that makes a head and a period. -/
def RetPd (w : World) (R : Option (List Sd × Nat)) (x : Value) (e : Ending) (w' : World) : Prop :=
  ∃ A1 c1 A2 c2, e = .returned (.tuple #[.slice A1 (hdR R).length c1, .slice A2 (cyR R).length c2, x]) ∧ Wr (Value.int .i64) w' w.heap.size A1 (hdR R) ∧ Wr (Value.int .i64) w' w.heap.size A2 (cyR R) ∧ ((hdR R).length ≤ c1 ∧ (cyR R).length ≤ c2 ∧ c1 ≤ maxLen ∧ c2 ≤ maxLen) ∧ Below w.heap.size w w'
/-- Two slices of integers of the call's own. -/
structure TwoI (w : World) (base : Nat) (h c : List Int) (v1 v2 : Value) (wr : World) : Prop where
  own1 : wr.ownsRow base 2 1 v1 h.length (h.map (Value.int .i64))
  own2 : wr.ownsRow base 2 1 v2 c.length (c.map (Value.int .i64))
  apart : v1.ownBlock = none ∨ v1.ownBlock ≠ v2.ownBlock
  below : Below w.heap.size w wr
  lt : base ≤ wr.heap.size
theorem TwoI.next {w : World} {base : Nat} {h c : List Int} {v1 v2 : Value} {wr w2 : World} (t : TwoI w base h c v1 v2 wr) (hb : Below wr.heap.size wr w2) : TwoI w base h c v1 v2 w2 :=
  ⟨own_below t.own1 hb, own_below t.own2 hb, t.apart, ext_trans t.below hb, Nat.le_trans t.lt hb.size⟩
theorem TwoI.push1 {w : World} {base : Nat} {h : List Int} {v1 : Value} {wr : World} (t : TwoI w base h [] v1 (.slice none 0 0) wr) (hbase : w.heap.size ≤ base) {a : Int} (v' : Value) (w3 : World) {o : Obj}
    (hown3 : w3.ownsRow base 2 1 v' (h.length + 1) (h.map (Value.int .i64) ++ [.int .i64 a])) (hg : (wr.alloc o).grownBy w3 v1.ownBlock) : TwoI w base (h ++ [a]) [] v' (.slice none 0 0) w3 := by
  refine ⟨by simpa using hown3, own_nil, ?_, below_grown (ext_alloc t.below o) (t.own1.alloc o) hbase hg, ?_⟩
  · rcases Option.eq_none_or_eq_some v'.ownBlock with e | ⟨g, e⟩
    · exact .inl e
    · right
      rw [e]
      intro h
      cases h
  · have := hg.size
    have := t.lt
    simp at *
    omega
theorem TwoI.push2 {w : World} {base : Nat} {h c : List Int} {v1 v2 : Value} {wr : World} (t : TwoI w base h c v1 v2 wr) (hbase : w.heap.size ≤ base) {a : Int} (v' : Value) (w3 : World) {o : Obj}
    (hown3 : w3.ownsRow base 2 1 v' (c.length + 1) (c.map (Value.int .i64) ++ [.int .i64 a])) (hg : (wr.alloc o).grownBy w3 v2.ownBlock) (hat : v'.ownBlock = v2.ownBlock ∨ v'.ownBlock = some (wr.heap.size + 1)) : TwoI w base h (c ++ [a]) v1 v' w3 := by
  refine ⟨(t.own1.alloc o).kept hg t.apart, by simpa using hown3, ?_, below_grown (ext_alloc t.below o) (t.own2.alloc o) hbase hg, ?_⟩
  · rcases t.apart with e | e
    · exact .inl e
    · right
      rcases hat with h | h
      · rw [h]; exact e
      · rw [h]
        intro e'
        have := (t.own1.lt _ e').2
        omega
  · have := hg.size
    have := t.lt
    simp at *
    omega
theorem take_map {L : List Sd} {k : Nat} {s : Sd} (h : L[k]? = some s) : (L.take (k + 1)).map flS = (L.take k).map flS ++ [flS s] := by
  rw [List.take_add_one, h]; simp
theorem dropk_map {L : List Sd} {k i : Nat} {s : Sd} (h : L[k]? = some s) (hi : i ≤ k) : ((L.take (k + 1)).drop i).map flS = ((L.take k).drop i).map flS ++ [flS s] := by
  have hk : k < L.length := (List.getElem?_eq_some_iff.1 h).1
  rw [List.take_add_one, h, List.drop_append_of_le_length (by rw [List.length_take]; omega)]
  simp
end Go.Proofs.YtbcikkaoohihhaaGreatDoor

/- PeriodOf and the reference's walk with its code. No condition but those that each theorem names. -/
namespace Go.Proofs.YtbcikkaoohihhaaGreatDoor
open Go.RowKit Go.Sort Go.Maps Go.WideMaps

def pdR (s : Sd) : Option (List Sd × Nat) := if sdOk s = true then perOf s else none
def pdC (s : Sd) : Int := if sdOk s = true then (if (perOf s).isSome = true then 0 else 5) else 1
theorem pdR_facts {s : Sd} {L : List Sd} {i : Nat} (h : pdR s = some (L, i)) : sdOk s = true ∧ perOf s = some (L, i) ∧ pdC s = 0 ∧ i < L.length ∧ L.length ≤ 400 := by
  unfold pdR at h
  split at h
  · rename_i hs
    have := per_facts 400 [] s (L, i) h
    refine ⟨hs, h, ?_, by simpa using this⟩
    simp [pdC, hs, h]
  · cases h
theorem pdR_none {s : Sd} (h : pdR s = none) : pdC s ≠ 0 := by
  unfold pdR at h
  unfold pdC
  split
  · rename_i hs
    rw [if_pos hs] at h
    simp [h]
  · omega
end Go.Proofs.YtbcikkaoohihhaaGreatDoor

/- Certificates by value: copies, comparisons. No condition but those that each theorem names. -/
namespace Go.Proofs.YtbcikkaoohihhaaGreatDoor
open Go.RowKit Go.Sort

@[reducible] def certV (k : Int) (A : Option Addr) (n c : Nat) : Value := .agg #[.int .i64 k, .slice A n c]

end Go.Proofs.YtbcikkaoohihhaaGreatDoor

/- ProvePeriod: both walks. No condition but those that each theorem names. -/
namespace Go.Proofs.YtbcikkaoohihhaaGreatDoor
open Go.RowKit Go.Sort Go.Maps Go.WideMaps

def ppX (s : Sd) : List Int := match pdR s with
  | some R => [s.1, s.2.1, s.2.2, ((headOf R).length : Int), ((cycOf R).length : Int)] ++ headOf R ++ cycOf R
  | none => []
def ppK (s : Sd) : Int := if (pdR s).isSome = true then 5 else 0
theorem ppX_none {s : Sd} (h : pdR s = none) : ppX s = [] := by simp [ppX, h]
theorem ppX_some {s : Sd} {R : List Sd × Nat} (h : pdR s = some R) : ppX s = [s.1, s.2.1, s.2.2, ((headOf R).length : Int), ((cycOf R).length : Int)] ++ headOf R ++ cycOf R := by simp [ppX, h]
theorem hc_len {L : List Sd} {i : Nat} (hi : i < L.length) : (headOf (L, i)).length = i ∧ (cycOf (L, i)).length = L.length - i := by
  have e1 : headOf (L, i) = (L.take i).map flS := rfl
  have e2 : cycOf (L, i) = (L.drop i).map flS := rfl
  rw [e1, e2, List.length_map, List.length_map, List.length_take, List.length_drop]
  omega
theorem ppX_length (s : Sd) : (ppX s).length ≤ 405 := by
  cases h : pdR s with
  | none => rw [ppX_none h]; simp
  | some R =>
    obtain ⟨L, i⟩ := R
    obtain ⟨_, _, _, h1, h2⟩ := pdR_facts h
    rw [ppX_some h]
    have := hc_len h1
    simp only [List.length_append, List.length_cons, List.length_nil]
    omega
theorem size_any (A : Option Addr) (n c : Nat) (w : World) : Calls Tryz.prog 114 #[.slice A n c] w fun e w' => e = .returned (.int .i64 (n : Int)) ∧ w = w' := by
  go_enter Tryz.func114, Tryz.ntmps114
  go_wp2
  go_ret
  exact ⟨rfl, rfl⟩
end Go.Proofs.YtbcikkaoohihhaaGreatDoor

/- The numbers of a note, and a note's bytes. No condition but those that each theorem names. -/
namespace Go.Proofs.YtbcikkaoohihhaaGreatDoor
open Go.RowKit Go.Sort Go.Maps Go.WideMaps

/-- The numbers of a note, by its kind. -/
def nuL (x : Nt) : List Int := if x.kind = 1 then [x.num, x.den] else if x.kind = 2 then (x.terms.length : Int) :: x.terms else [x.sp, x.sd, x.sq]
set_option maxRecDepth 100000 in
set_option maxHeartbeats 4000000 in
theorem numbersOf_any (x : Nt) (T : Option Addr) (c : Nat) (w : World) (hr : Rd (Value.int .i64) w w.heap.size T x.terms) (hl : x.terms.length ≤ 1000000) :
    Calls Tryz.prog 65 #[ntV x.name x.kind x.num x.den T x.terms.length c x.sp x.sd x.sq] w (RetList w (nuL x)) := by
  obtain ⟨nm, kd, num, den, ts, sp, sd, sq⟩ := x
  simp only at hr hl ⊢
  have hnu : nuL ⟨nm, kd, num, den, ts, sp, sd, sq⟩ = if kd = 1 then [num, den] else if kd = 2 then (ts.length : Int) :: ts else [sp, sd, sq] := rfl
  rw [hnu]
  clear hnu
  have B1 : BoxV w.heap.size [.string nm, .int .i64 kd, .int .i64 num, .int .i64 den, .slice T ts.length c, .int .i64 sp, .int .i64 sd, .int .i64 sq] (w.alloc (.cells #[.string nm, .int .i64 kd, .int .i64 num, .int .i64 den, .slice T ts.length c, .int .i64 sp, .int .i64 sd, .int .i64 sq] 36)) := BoxV.new w #[.string nm, .int .i64 kd, .int .i64 num, .int .i64 den, .slice T ts.length c, .int .i64 sp, .int .i64 sd, .int .i64 sq] 36
  have HB := Lib.hid (ext1 w (.cells #[.string nm, .int .i64 kd, .int .i64 num, .int .i64 den, .slice T ts.length c, .int .i64 sp, .int .i64 sd, .int .i64 sq] 36))
  unfold ntV
  by_cases h1 : kd = 1
  · rw [if_pos h1]
    subst h1
    go_enter Tryz.func65, Tryz.ntmps65
    go_wp2
    go_ret
    exact ⟨_, _, rfl, fun _ => ⟨w.heap.size + 1, 0, rfl, by omega, by simp, fun j y hy => by
      rw [Nat.zero_add, cell_two_snd]
      match j, hy with
      | 0, hy => simp at hy; subst hy; rfl
      | 1, hy => simp at hy; subst hy; rfl
      | j + 2, hy => simp at hy, fun j => World.frozen?_alloc_at _ _ _ _ (by simp)⟩, ext_alloc HB.out _⟩
  · rw [if_neg h1]
    have t1 : (kd == 1) = false := by simpa using h1
    by_cases h2 : kd = 2
    · rw [if_pos h2]
      subst h2
      clear h1 t1
      have hr1 := hr.below HB.out
      have hVs : w.heap.size < (w.alloc (.cells #[.string nm, .int .i64 2, .int .i64 num, .int .i64 den, .slice T ts.length c, .int .i64 sp, .int .i64 sd, .int .i64 sq] 36)).heap.size := B1.lt
      go_enter Tryz.func65, Tryz.ntmps65
      go_wp2_with fail
      generalize w.alloc (.cells #[.string nm, .int .i64 2, .int .i64 num, .int .i64 den, .slice T ts.length c, .int .i64 sp, .int .i64 sd, .int .i64 sq] 36) = V at *
      have x4 := B1.at 4 _ rfl
      have HCC : Hid (Calls Tryz.prog 113 #[.slice (some ⟨V.heap.size + 1, 0, none⟩) 2 2] ((V.drew.alloc (.cells #[.int .i64 (ts.length : Int)] 2)).alloc (.cells #[.slice (some ⟨V.heap.size, 0, none⟩) 1 1, .slice T ts.length c] 32)) (RetList ((V.drew.alloc (.cells #[.int .i64 (ts.length : Int)] 2)).alloc (.cells #[.slice (some ⟨V.heap.size, 0, none⟩) 1 1, .slice T ts.length c] 32)) ((ts.length : Int) :: ts))) := by
        have hPA : PartsAt ((V.drew.alloc (.cells #[.int .i64 (ts.length : Int)] 2)).alloc (.cells #[.slice (some ⟨V.heap.size, 0, none⟩) 1 1, .slice T ts.length c] 32)) (V.heap.size + 1) [(some ⟨V.heap.size, 0, none⟩, 1, [(ts.length : Int)]), (T, c, ts)] := by
          refine ⟨by simp, fun j t ht => ?_, fun t ht => ?_⟩
          · have hcell : ∀ j, ((V.drew.alloc (.cells #[.int .i64 (ts.length : Int)] 2)).alloc (.cells #[.slice (some ⟨V.heap.size, 0, none⟩) 1 1, .slice T ts.length c] 32)).cell? ⟨V.heap.size + 1, j, none⟩ = (#[.slice (some ⟨V.heap.size, 0, none⟩) 1 1, .slice T ts.length c] : Array Value)[j]? := fun j => cell_two_snd V.drew _ _ _ _ j
            rw [hcell]
            match j, ht with
            | 0, ht => simp at ht; subst ht; rfl
            | 1, ht => simp at ht; subst ht; rfl
            | j + 2, ht => simp at ht
          · have hbb : Below V.heap.size V ((V.drew.alloc (.cells #[.int .i64 (ts.length : Int)] 2)).alloc (.cells #[.slice (some ⟨V.heap.size, 0, none⟩) 1 1, .slice T ts.length c] 32)) := ext_alloc (ext_alloc (ext_drew (Below.refl _ _)) _) _
            simp only [List.mem_cons, List.not_mem_nil, or_false] at ht
            rcases ht with rfl | rfl
            · intro _
              refine ⟨V.heap.size, 0, rfl, by simp; omega, fun j x hx => ?_⟩
              have hc : ((V.drew.alloc (.cells #[.int .i64 (ts.length : Int)] 2)).alloc (.cells #[.slice (some ⟨V.heap.size, 0, none⟩) 1 1, .slice T ts.length c] 32)).cell? ⟨V.heap.size, j, none⟩ = (#[.int .i64 (ts.length : Int)] : Array Value)[j]? := cell_two_fst V.drew _ _ _ _ j
              rw [Nat.zero_add, hc]
              match j, hx with
              | 0, hx => simp at hx; subst hx; rfl
              | j + 1, hx => simp at hx
            · exact ((hr1.more (Nat.le_of_lt hVs)).below hbb).more (by simp; omega)
        have h := concat_any (V.heap.size + 1) 2 _ _ hPA (by simp) (by simp [catL]; omega)
        have e : catL [((some ⟨V.heap.size, 0, none⟩ : Option Addr), 1, [(ts.length : Int)]), (T, c, ts)] = (ts.length : Int) :: ts := by simp [catL]
        rw [e] at h
        exact h
      have HH := Lib.hid (fun (W : World) (hb : BoxV w.heap.size [.string nm, .int .i64 2, .int .i64 num, .int .i64 den, .slice T ts.length c, .int .i64 sp, .int .i64 sd, .int .i64 sq] W) => hb.at 4 _ rfl)
      go_region_held3 (fun w' => w'.cell? ⟨w.heap.size, 4, none⟩ = some (.slice T ts.length c))
        (first | exact HH.out _ B1.drew | exact HH.out _ (B1.drew.alloc _) | exact HH.out _ ((B1.drew.alloc _).alloc _) | exact HH.out _ ((((B1.drew.alloc _).alloc _)).next hb4))
        (first | (go_at_call 114; (with_reducible refine (size_any _ _ _ _).mono ?_); rintro e w' ⟨rfl, rfl⟩) | (go_at_call 113; refine HCC.out.mono ?_; rintro e w4 ⟨A4, c4, rfl, hw4, hb4⟩))
      all_goals
        have HBB := Lib.hid (ext_trans (ext_alloc (ext_alloc (ext_drew HB.out) _) _) hb4)
        have HW4 := Lib.hid (hw4.more (show w.heap.size ≤ _ by simp; omega))
        go_wp2
        go_ret
        exact ⟨A4, c4, rfl, HW4.out, HBB.out⟩
    · rw [if_neg h2]
      have t2 : (kd == 2) = false := by simpa using h2
      clear h1 h2
      go_enter Tryz.func65, Tryz.ntmps65
      go_wp2
      go_ret
      exact ⟨_, _, rfl, fun _ => ⟨w.heap.size + 1, 0, rfl, by omega, by simp, fun j y hy => by
        rw [Nat.zero_add, cell_two_snd]
        match j, hy with
        | 0, hy => simp at hy; subst hy; rfl
        | 1, hy => simp at hy; subst hy; rfl
        | 2, hy => simp at hy; subst hy; rfl
        | j + 3, hy => simp at hy, fun j => World.frozen?_alloc_at _ _ _ _ (by simp)⟩, ext_alloc HB.out _⟩
end Go.Proofs.YtbcikkaoohihhaaGreatDoor
