/- Parts of the proof, merged: MapK PerK PerSW PerIW PeriodW PdW UnitW. No condition but those that each theorem names. -/
import Derived.Test.YtpgkellmhlmjeaaGreatDoorMgAB
import Derived.DeepKeys4
import Derived.Maps.OwnSet
import Derived.Maps.Views
import Derived.Carry
import Derived.Test.YtpgkellmhlmjeaaGreatDoorMgAE
import Derived.Test.YtpgkellmhlmjeaaGreatDoorMgAH
import Derived.Test.YtpgkellmhlmjeaaGreatDoorMgAI
import Derived.Test.YtpgkellmhlmjeaaGreatDoorMgAC
import Derived.Deep.AppendLies
import Derived.Deep.RegionLaw
import Derived.Test.YtpgkellmhlmjeaaGreatDoorMgAG
namespace Go.Proofs.YtpgkellmhlmjeaaGreatDoor
open Go.RowKit Go.Sort Go.Maps Go.WideMaps
theorem wf64 {n : Int} (h1 : -9223372036854775808 ≤ n) (h2 : n ≤ 9223372036854775807) : (Lit.int .i64 n).wf = true := by
  have e1 : IntKind.i64.min = -9223372036854775808 := by decide
  have e2 : IntKind.i64.max = 9223372036854775807 := by decide
  show (decide (IntKind.i64.min ≤ n) && decide (n ≤ IntKind.i64.max)) = true
  rw [e1, e2]
  simp [h1, h2]
theorem laidOutM : laidOutB Tryz.prog = true := by kernel_rfl
theorem keyedSurd : Keyed Tryz.prog 46 := Keyed.of_law (deep_law_laid laidOutM (m := 2) (by omega) (of_decide_eq_true (by kernel_rfl)) (by kernel_rfl) (by rw [Tryz.underlying46]))
theorem keyOf_surd {a b c : Int} (wa : (Lit.int .i64 a).wf = true) (wb : (Lit.int .i64 b).wf = true) (wc : (Lit.int .i64 c).wf = true) : ∃ kl, keyOf Tryz.prog 46 (.agg #[.int .i64 a, .int .i64 b, .int .i64 c]) = some kl := by
  have hkt : Tryz.prog.keyType 46 = true := by kernel_rfl
  unfold keyOf
  simp only [Tryz.underlying46]
  have hco : Tryz.prog.cellsOf 46 = 3 := by kernel_rfl
  have hco2 : Tryz.prog.cellsOf 2 = 1 := by kernel_rfl
  obtain ⟨m, hsz⟩ : ∃ m, Tryz.prog.types.size = m + 1 + 1 := ⟨Tryz.prog.types.size - 2, by have : 2 ≤ Tryz.prog.types.size := of_decide_eq_true (by kernel_rfl); omega⟩
  rw [if_pos (by simp [hkt, Value.formed, Tryz.underlying46, hco]), hsz]
  unfold Program.keyLits
  simp only [Tryz.underlying46, Value.cells]
  simp [Program.keyLits, Tryz.underlying2, hco, hco2, wa, wb, wc]
end Go.Proofs.YtpgkellmhlmjeaaGreatDoor
namespace Go.Proofs.YtpgkellmhlmjeaaGreatDoor
open Go.RowKit Go.Sort Go.Maps Go.WideMaps
def sdV (s : Sd) : Value := .agg #[.int .i64 s.1, .int .i64 s.2.1, .int .i64 s.2.2]
/-- Surds as a row of integers. -/
def sdL (L : List Sd) : List Int := L.flatMap fun s => [s.1, s.2.1, s.2.2]
theorem sdL_length (L : List Sd) : (sdL L).length = L.length * 3 := by
  induction L with
  | nil => rfl
  | cons p ps ih => simp only [sdL, List.flatMap_cons, List.length_append, List.length_cons, List.length_nil] at *; omega
theorem sdL_snoc (L : List Sd) (s : Sd) : sdL (L ++ [s]) = sdL L ++ [s.1, s.2.1, s.2.2] := by simp [sdL]
theorem sdL_get {L : List Sd} {j : Nat} {s : Sd} (h : L[j]? = some s) : (sdL L)[j * 3]? = some s.1 ∧ (sdL L)[j * 3 + 1]? = some s.2.1 ∧ (sdL L)[j * 3 + 2]? = some s.2.2 := by
  induction L generalizing j with
  | nil => simp at h
  | cons a ps ih =>
    cases j with
    | zero =>
      simp at h
      subst h
      simp [sdL]
    | succ j =>
      have := ih (j := j) (by simpa using h)
      have e1 : (j + 1) * 3 = j * 3 + 1 + 1 + 1 := by omega
      simp only [sdL, List.flatMap_cons] at *
      rw [e1]
      exact this
theorem klS_ex : ∃ f : Sd → Lit, ∀ s, sdOk s = true → keyOf Tryz.prog 46 (sdV s) = some (f s) :=
  ⟨fun s => (keyOf Tryz.prog 46 (sdV s)).getD (.bool false), fun s h => by
    obtain ⟨⟨d1, d2⟩, _, ⟨p1, p2⟩, ⟨q1, q2⟩, _⟩ := surdB_true.1 h
    obtain ⟨kl, h⟩ := keyOf_surd (wf64 (n := s.1) (by omega) (by omega)) (wf64 (n := s.2.1) (by omega) (by omega)) (wf64 (n := s.2.2) (by omega) (by omega))
    unfold sdV
    simp only [h]
    rfl⟩
noncomputable def klS : Sd → Lit := Classical.choose klS_ex
theorem klS_key {s : Sd} (h : sdOk s = true) : keyOf Tryz.prog 46 (sdV s) = some (klS s) := Classical.choose_spec klS_ex s h
theorem sdV_inj {s t : Sd} (h : sdV s = sdV t) : s = t := by
  unfold sdV at h
  simp at h
  obtain ⟨a, b, c⟩ := h
  exact Prod.ext a (Prod.ext b c)
theorem klS_inj {s t : Sd} (hs : sdOk s = true) (ht : sdOk t = true) (h : klS s = klS t) : s = t := by
  have h1 := klS_key hs
  have h2 := klS_key ht
  rw [h] at h1
  exact sdV_inj (keyedSurd.inj h1 h2)
theorem klS_lit {s : Sd} (h : sdOk s = true) : WideAt.IsKeyLit (klS s) := keyedSurd.key (klS_key h)
theorem own_setFar {w : World} {base : Nat} {e : TypeId} {size n : Nat} {v : Value} {xs : List Value} (h : w.ownsRow base e size v n xs) {g j : Nat} (u : Value) (hg : g < base) : (w.setCell ⟨g, j, none⟩ u).ownsRow base e size v n xs := by
  obtain ⟨h1, h2⟩ := h
  refine ⟨h1, ?_⟩
  rcases h2 with h2 | ⟨g', cap, cur, hv, hb, hh, r⟩
  · exact .inl h2
  · refine .inr ⟨g', cap, cur, hv, hb, (Below.heap_setCell w ⟨g, j, none⟩ u g' ?_).trans hh, r⟩
    intro e
    have e : g' = g := e
    omega
theorem own_far {w : World} {base : Nat} {e : TypeId} {size n : Nat} {v : Value} {xs : List Value} (h : w.ownsRow base e size v n xs) {g : Nat} (hg : g < base) : v.ownBlock ≠ some g := fun e => by have := (h.lt g e).1; omega
end Go.Proofs.YtpgkellmhlmjeaaGreatDoor
namespace Go.Proofs.YtpgkellmhlmjeaaGreatDoor
open Go.RowKit Go.Sort Go.Maps Go.WideMaps
/-- The place of a surd in a list; -1 if it is not there. -/
def fdS (L : List Sd) (s : Sd) : Int := if s ∈ L then (L.idxOf s : Int) else -1
theorem fdS_mem {L : List Sd} {s : Sd} (h : s ∈ L) : fdS L s = (L.idxOf s : Int) := if_pos h
theorem fdS_not {L : List Sd} {s : Sd} (h : s ∉ L) : fdS L s = -1 := if_neg h
theorem fd_step {L : List Sd} {s t : Sd} {k : Nat} (h : s ∉ L.take k) (ht : L[k]? = some t) (hne : t ≠ s) : s ∉ L.take (k + 1) := by
  rw [List.take_add_one, ht]
  simp
  exact ⟨by simpa using h, fun e => hne e.symm⟩
theorem fd_hit {L : List Sd} {s : Sd} {k : Nat} (h : s ∉ L.take k) (ht : L[k]? = some s) : fdS L s = (k : Int) := by
  have hk : k < L.length := (List.getElem?_eq_some_iff.1 ht).1
  have hm : s ∈ L := List.mem_of_getElem? ht
  rw [fdS_mem hm]
  have e : L = L.take k ++ L.drop k := (List.take_append_drop k L).symm
  have hd : L.drop k = s :: L.drop (k + 1) := by rw [List.drop_eq_getElem_cons hk]; congr 1; exact (List.getElem?_eq_some_iff.1 ht).2
  have : L.idxOf s = k := by
    rw [e, List.idxOf_append, if_neg h, hd]
    simp
    omega
  rw [this]
set_option maxRecDepth 100000 in
set_option maxHeartbeats 1000000 in
theorem l08Find_any (A : Option Addr) (c : Nat) (L : List Sd) (s : Sd) (w : World) (hx : Rd (Value.int .i64) w w.heap.size A (sdL L)) (hl : L.length ≤ 1000) :
    Calls Tryz.prog 129 #[.slice A L.length c, surdV s.1 s.2.1 s.2.2] w fun e w' => e = .returned (.int .i64 (fdS L s)) ∧ Below w.heap.size w w' := by
  have q3 := Tryz.eqGuardType46
  have q4 := Tryz.stoodInHeld46
  obtain ⟨p, d, q⟩ := s
  have hlen := sdL_length L
  have HX : Hid (Rd (Value.int .i64) (w.alloc (.cells #[.int .i64 p, .int .i64 d, .int .i64 q] 46)) w.heap.size A (sdL L)) := hx.below (ext1 _ _)
  have HB : Hid (BoxV w.heap.size [.int .i64 p, .int .i64 d, .int .i64 q] (w.alloc (.cells #[.int .i64 p, .int .i64 d, .int .i64 q] 46))) := BoxV.new w #[.int .i64 p, .int .i64 d, .int .i64 q] 46
  have HE : Hid (Below w.heap.size w (w.alloc (.cells #[.int .i64 p, .int .i64 d, .int .i64 q] 46))) := ext1 _ _
  clear hx
  unfold surdV
  go_enter Tryz.func129, Tryz.ntmps129
  go_wp2_with fail
  generalize w.alloc (.cells #[.int .i64 p, .int .i64 d, .int .i64 q] 46) = W at *
  go_loopw [5] (fun t wr => ∃ k : Nat, k ≤ L.length ∧ t = .int .i64 k ∧ Hid ((p, d, q) ∉ L.take k) ∧ ∃ n, wr = W.drewN n) (fun t _ => L.length - (intOf t).toNat)
  case atStart => exact ⟨0, by omega, rfl, (show (p, d, q) ∉ L.take 0 by simp), 0, rfl⟩
  case round =>
    obtain ⟨k, hk, rfl, HN, nn, rfl⟩ := hrel
    have x0 : W.cell? ⟨w.heap.size, 0, none⟩ = some (.int .i64 p) := HB.out.at 0 _ rfl
    have x1 : W.cell? ⟨w.heap.size, 1, none⟩ = some (.int .i64 d) := HB.out.at 1 _ rfl
    have x2 : W.cell? ⟨w.heap.size, 2, none⟩ = some (.int .i64 q) := HB.out.at 2 _ rfl
    by_cases hlt : k < L.length
    · obtain ⟨b, off, rfl, hb, hc⟩ := HX.out (by omega)
      obtain ⟨⟨y1, y2, y3⟩, hyk⟩ : ∃ x, L[k]? = some x := ⟨_, List.getElem?_eq_getElem hlt⟩
      obtain ⟨g0, g1, g2⟩ := sdL_get hyk
      have c0 := hc _ _ g0
      have c1 := hc _ _ g1
      have c2 := hc _ _ g2
      rw [← Nat.add_assoc] at c1 c2
      have HY := Lib.hid hyk
      have i0 : (0 : Int) ≤ (k : Int) := by omega
      have i1 : (k : Int) < (L.length : Int) := by omega
      clear hc g0 g1 g2 hyk
      by_cases he : (y1, y2, y3) = (p, d, q)
      · injection he with e1 e2
        injection e2 with e2 e3
        subst e1; subst e2; subst e3
        have HR := Lib.hid (fd_hit HN.out HY.out)
        clear HN HY
        go_wp2_with fail
        go_quiet (fail)
        go_wp2
        go_ret
        exact ⟨ret_int HR.out.symm, HE.out.trans ⟨rfl, rfl, rfl, Nat.le_refl _, fun _ _ => rfl⟩⟩
      · have HS := Lib.hid (fd_step HN.out HY.out he)
        have hway : (y1 == p) = false ∨ ((y1 == p) = true ∧ (y2 == d) = false) ∨ ((y1 == p) = true ∧ (y2 == d) = true ∧ (y3 == q) = false) := by
          by_cases a1 : y1 = p
          · by_cases a2 : y2 = d
            · have a3 : ¬ y3 = q := fun a3 => he (by rw [a1, a2, a3])
              exact .inr (.inr ⟨by simpa using a1, by simpa using a2, by simpa using a3⟩)
            · exact .inr (.inl ⟨by simpa using a1, by simpa using a2⟩)
          · exact .inl (by simpa using a1)
        clear he HN HY
        rcases hway with a1 | ⟨a1, a2⟩ | ⟨a1, a2, a3⟩
        all_goals
          go_wp2_with fail
          go_quiet (fail)
          go_wp2
          go_roundw
          case rel => exact ⟨k + 1, by omega, by go_num, HS.out, _, rfl⟩
          case measure => simp [intOf]; omega
    · have HR : Hid (fdS L (p, d, q) = -1) := by
        have h := HN.out
        rw [List.take_of_length_le (by omega)] at h
        exact fdS_not h
      go_wp2
      go_ret
      exact ⟨ret_int HR.out.symm, HE.out.trans ⟨rfl, rfl, rfl, Nat.le_refl _, fun _ _ => rfl⟩⟩
/-- What a cell holds. -/
def cellV (a : Addr) (w : World) : Value := (w.cell? a).getD (.bool false)
theorem cellV_eq {a : Addr} {w : World} {v : Value} (h : w.cell? a = some v) : cellV a w = v := by unfold cellV; rw [h]; rfl
theorem infoSd' : (Tryz.prog.info? 46).map (fun i => (i.zero, i.size, i.bytes)) = some (some (.agg #[.int .i64 0, .int .i64 0, .int .i64 0]), 3, 24) := by kernel_rfl
def lenOf' : Value → Nat
  | .slice _ n _ => n
  | _ => 0
/-- The reference's walk in block g. -/
def WkAt (B g : Nat) (L : List Sd) (i : Int) (W : World) : Prop :=
  ∃ A1 c1 A2 c2, BoxV g [.slice A1 L.length c1, .slice A2 L.length c2, .int .i64 i] W ∧ B ≤ g ∧ Wr (Value.int .i64) W B A1 (sdL L) ∧ Wr (Value.int .i64) W B A2 (L.map flS)
theorem WkAt.more {B B' g : Nat} {L : List Sd} {i : Int} {W : World} (h : WkAt B g L i W) (hB : B' ≤ B) : WkAt B' g L i W := by
  obtain ⟨A1, c1, A2, c2, h1, h2, h3, h4⟩ := h
  exact ⟨A1, c1, A2, c2, h1, by omega, h3.more hB, h4.more hB⟩
/-- What a call returns that walks along surds. -/
def RetWk (w : World) (R : Option (List Sd × Nat)) (e : Ending) (w' : World) : Prop :=
  ∃ g, e = .returned (.tuple #[.pointer (some ⟨g, 0, none⟩), .bool R.isSome]) ∧ Below w.heap.size w w' ∧ ∀ L i, R = some (L, i) → WkAt w.heap.size g L (i : Int) w'
/-- What holds on the way. -/
structure SoS (w : World) (L : List Sd) (s : Sd) (f : Int) (v1 v2 : Value) (wr : World) : Prop where
  box : BoxV w.heap.size [.int .i64 s.1, .int .i64 s.2.1, .int .i64 s.2.2] wr
  wk : BoxV (w.heap.size + 1) [v1, v2, .int .i64 f] wr
  own1 : wr.ownsRow (w.heap.size + 2) 46 3 v1 L.length ((sdL L).map (Value.int .i64))
  own2 : wr.ownsRow (w.heap.size + 2) 2 1 v2 L.length ((L.map flS).map (Value.int .i64))
  apart : v1.ownBlock = none ∧ v2.ownBlock = none ∨ v1.ownBlock ≠ v2.ownBlock
  below : Below w.heap.size w wr
  lt : w.heap.size + 2 ≤ wr.heap.size
  ok : sdOk s = true
theorem SoS.next {w : World} {L : List Sd} {s : Sd} {f : Int} {v1 v2 : Value} {wr w2 : World} (h : SoS w L s f v1 v2 wr) (hb : Below wr.heap.size wr w2) : SoS w L s f v1 v2 w2 :=
  ⟨h.box.next hb, h.wk.next hb, own_below h.own1 hb, own_below h.own2 hb, h.apart, ext_trans h.below hb, Nat.le_trans h.lt hb.size, h.ok⟩
theorem SoS.drew {w : World} {L : List Sd} {s : Sd} {f : Int} {v1 v2 : Value} {wr : World} (h : SoS w L s f v1 v2 wr) : SoS w L s f v1 v2 wr.drew := h.next (ext_drew (Below.refl _ _))
theorem SoS.setF {w : World} {L : List Sd} {s : Sd} {f : Int} {v1 v2 : Value} {wr : World} (h : SoS w L s f v1 v2 wr) (g : Int) : SoS w L s g v1 v2 (wr.setCell ⟨w.heap.size + 1, 2, none⟩ (.int .i64 g)) :=
  ⟨h.box.setFar _ (by omega), h.wk.set 2 _ (by simp), own_setFar h.own1 _ (by omega), own_setFar h.own2 _ (by omega), h.apart, ext_set h.below (by simp) _, by simpa using h.lt, h.ok⟩
theorem SoS.setS {w : World} {L : List Sd} {s t : Sd} {f : Int} {v1 v2 : Value} {wr : World} (h : SoS w L s f v1 v2 wr) (ht : sdOk t = true) :
    SoS w L t f v1 v2 (((wr.setCell ⟨w.heap.size, 0, none⟩ (.int .i64 t.1)).setCell ⟨w.heap.size, 1, none⟩ (.int .i64 t.2.1)).setCell ⟨w.heap.size, 2, none⟩ (.int .i64 t.2.2)) :=
  ⟨((h.box.set 0 _ (by simp)).set 1 _ (by simp)).set 2 _ (by simp), ((h.wk.setFar _ (by omega)).setFar _ (by omega)).setFar _ (by omega), own_setFar (own_setFar (own_setFar h.own1 _ (by omega)) _ (by omega)) _ (by omega), own_setFar (own_setFar (own_setFar h.own2 _ (by omega)) _ (by omega)) _ (by omega), h.apart,
    ext_set (ext_set (ext_set h.below (by simp) _) (by simp) _) (by simp) _, by simpa using h.lt, ht⟩
set_option maxRecDepth 100000 in
set_option maxHeartbeats 4000000 in
theorem l08Walk_any (p d q : Int) (w : World) (h : surdB p d q = true) :
    Calls Tryz.prog 87 #[surdV p d q] w (RetWk w (perOf (p, d, q))) := by
  obtain ⟨ti, hi, hz0, hz1, hz2⟩ := info_parts infoSd'
  have HI := Lib.hid hi
  clear hi
  obtain ⟨tj, hj, hy0, hy1, hy2⟩ := info_parts info64
  have HJ := Lib.hid hj
  clear hj
  obtain ⟨R, hR⟩ : ∃ R, perOf (p, d, q) = R := ⟨_, rfl⟩
  rw [hR]
  have HR : Hid (per 400 [] (p, d, q) = R) := hR
  have HH := Lib.hid h
  clear hR h
  unfold surdV
  go_enter Tryz.func87, Tryz.ntmps87
  go_wp2_with fail
  have HV0 : Hid (SoS w [] (p, d, q) 0 (.slice none 0 0) (.slice none 0 0) ((w.alloc (.cells #[.int .i64 p, .int .i64 d, .int .i64 q] 46)).alloc (.cells #[.slice none 0 0, .slice none 0 0, .int .i64 0] 109))) := by
    have h2 := BoxV.new (w.alloc (.cells #[.int .i64 p, .int .i64 d, .int .i64 q] 46)) #[.slice none 0 0, .slice none 0 0, .int .i64 0] 109
    exact ⟨(BoxV.new w #[.int .i64 p, .int .i64 d, .int .i64 q] 46).alloc _, by simpa using h2, own_nil, own_nil, .inl ⟨rfl, rfl⟩, ext_alloc (ext1 _ _) _, by simp, HH.out⟩
  generalize (w.alloc (.cells #[.int .i64 p, .int .i64 d, .int .i64 q] 46)).alloc (.cells #[.slice none 0 0, .slice none 0 0, .int .i64 0] 109) = W0 at *
  clear HH
  go_loopw [5] (fun _ wr => ∃ (L : List Sd) (s : Sd) (f : Int) (v1 v2 : Value) (k : Nat), L.length + k = 400 ∧ Hid (per k L s = R) ∧ Hid (SoS w L s f v1 v2 wr)) (fun _ wr => 401 - lenOf' (cellV ⟨w.heap.size + 1, 0, none⟩ wr))
  case atStart => exact ⟨[], (p, d, q), 0, _, _, 400, rfl, HR.out, HV0.out⟩
  case round =>
    obtain ⟨L, s, f, v1, v2, k, hk, HP, HV⟩ := hrel
    clear HR HV0
    obtain ⟨sp, sd, sq⟩ := s
    have HOK := Lib.hid HV.out.ok
    obtain ⟨hn1, A1, cp1, rfl, hw1⟩ := Wr.of_ownS HV.out.own1
    have HW1 := Lib.hid hw1.rd
    clear hn1 hw1
    have hL400 : L.length ≤ 400 := by omega
    have x0 := HV.out.box.at 0 _ rfl
    have x1 := HV.out.box.at 1 _ rfl
    have x2 := HV.out.box.at 2 _ rfl
    have y0 := HV.out.wk.at 0 _ rfl
    have HYY := Lib.hid y0
    have HC := Lib.hid (fun (W : World) (f : Int) (v : SoS w L (sp, sd, sq) f (.slice A1 L.length cp1) v2 W) => And.intro (v.wk.at 0 _ rfl) (And.intro (v.box.at 0 _ rfl) (And.intro (v.box.at 1 _ rfl) (v.box.at 2 _ rfl))))
    have HFd : Hid (∀ W, Rd (Value.int .i64) W W.heap.size A1 (sdL L) → Calls Tryz.prog 129 #[.slice A1 L.length cp1, .agg #[.int .i64 sp, .int .i64 sd, .int .i64 sq]] W fun e w' => e = .returned (.int .i64 (fdS L (sp, sd, sq))) ∧ Below W.heap.size W w') := fun W hr => l08Find_any A1 cp1 L (sp, sd, sq) W hr (by omega)
    have HFW := Lib.hid (HFd.out wr.drew (HW1.out.below (ext_drew (Below.refl _ _))))
    clear HFd
    have hfb : -1 ≤ fdS L (sp, sd, sq) ∧ fdS L (sp, sd, sq) ≤ 1000 := by
      unfold fdS
      split
      · rename_i hm
        have := List.idxOf_lt_length_of_mem hm
        omega
      · omega
    obtain ⟨fb1, fb2⟩ := hfb
    have HFI : Hid ((sp, sd, sq) ∈ L → fdS L (sp, sd, sq) = (L.idxOf (sp, sd, sq) : Int)) := fdS_mem
    have HFN : Hid ((sp, sd, sq) ∉ L → fdS L (sp, sd, sq) = -1) := fdS_not
    generalize fdS L (sp, sd, sq) = fd at *
    go_wp2_with fail
    go_region_held3 (fun w' => w'.cell? ⟨w.heap.size + 1, 0, none⟩ = some (.slice A1 L.length cp1) ∧ w'.cell? ⟨w.heap.size, 0, none⟩ = some (.int .i64 sp) ∧ w'.cell? ⟨w.heap.size, 1, none⟩ = some (.int .i64 sd) ∧ w'.cell? ⟨w.heap.size, 2, none⟩ = some (.int .i64 sq))
      (first | exact HC.out _ _ HV.out.drew | exact HC.out _ _ (HV.out.drew.next (by assumption)) | exact HC.out _ _ ((HV.out.drew.next (by assumption)).setF _))
      (first | (go_at_call 129; (with_reducible refine HFW.out.mono ?_); rintro e w2 ⟨rfl, hb2⟩; have V2 := Lib.hid (HV.out.drew.next hb2); have y2 := V2.out.wk.at 2 _ rfl; have F2 := V2.out.wk.f 2))
    have V3 := Lib.hid (V2.out.setF fd)
    have y3 := V3.out.wk.at 2 _ rfl
    have y4 := V3.out.wk.at 0 _ rfl
    clear V2 y2 F2 HC HV x0 x1 x2 y0 hb2
    generalize w2.setCell ⟨w.heap.size + 1, 2, none⟩ (.int .i64 fd) = W3 at *
    have x0 := V3.out.box.at 0 _ rfl
    have x1 := V3.out.box.at 1 _ rfl
    have x2 := V3.out.box.at 2 _ rfl
    by_cases hin : (sp, sd, sq) ∈ L
    · have HRR : Hid (R = some (L, L.idxOf (sp, sd, sq))) := by
        have := HP.out
        unfold Hid
        rw [← this]
        cases k <;> simp [per, hin]
      have hf0 : 0 ≤ fd := by rw [HFI.out hin]; omega
      have HFE := Lib.hid (HFI.out hin)
      clear hin HFI HFN
      go_wp2_with fail
      go_wp2
      go_ret2
      refine ⟨w.heap.size + 1, by rw [HRR.out]; rfl, V3.out.below, fun L' i hL => ?_⟩
      rw [HRR.out] at hL
      injection hL with hL
      injection hL with e1 e2
      subst e1; subst e2
      obtain ⟨hn1, B1, cq1, e1, g1⟩ := Wr.of_ownS V3.out.own1
      obtain ⟨hn2, B2, cq2, e2, g2⟩ := Wr.of_own V3.out.own2
      have hbx := V3.out.wk
      rw [e1, e2, HFE.out] at hbx
      exact ⟨_, _, _, _, hbx, by omega, g1.more (by omega), g2.more (by omega)⟩
    · have HIN := Lib.hid hin
      have hfn : fd = -1 := HFN.out hin
      clear hin HFI HFN fb1 fb2
      subst hfn
      by_cases h4 : L.length = 400
      · have HRR : Hid (R = none) := by
          obtain rfl : k = 0 := by omega
          have := HP.out
          unfold Hid
          rw [← this]
          simp [per, HIN.out]
        have t4 : (400 : Int) ≤ (L.length : Int) := by omega
        clear h4
        go_wp2
        go_ret2
        exact ⟨w.heap.size + 1, by rw [HRR.out]; rfl, V3.out.below, fun L' i hL => by rw [HRR.out] at hL; cases hL⟩
      · obtain ⟨k', rfl⟩ : ∃ k', k = k' + 1 := ⟨k - 1, by omega⟩
        have t4 : ¬ (400 : Int) ≤ (L.length : Int) := by omega
        have HPN : Hid (per (k' + 1) L (sp, sd, sq) = if sdOk (nxS (sp, sd, sq)) = true then per k' (L ++ [(sp, sd, sq)]) (nxS (sp, sd, sq)) else none) := by
          unfold Hid
          rw [per, if_neg HIN.out]
        have HFl := Lib.hid (fun W : World => l07Floor_any sp sd sq W HOK.out)
        have HNx := Lib.hid (fun W : World => l07Next_any sp sd sq W HOK.out)
        have HLF : Hid ((L ++ [(sp, sd, sq)]).map flS = L.map flS ++ [flS (sp, sd, sq)]) := by unfold Hid; rw [List.map_append]; rfl
        clear h4
        generalize flS (sp, sd, sq) = a at *
        go_wp2_with fail
        refine (HFl.out _).mono ?_
        rintro e w4 ⟨rfl, hb4⟩
        have V4 := Lib.hid (V3.out.next hb4)
        clear V3 x0 x1 x2 y3 y4 hb4
        have B1 := V4.out.wk
        have B0 := V4.out.box
        have x0 := B0.at 0 _ rfl
        have x1 := B0.at 1 _ rfl
        have x2 := B0.at 2 _ rfl
        have y0 := B1.at 0 _ rfl
        have hlt4a : w.heap.size < w4.heap.size := by have := V4.out.lt; omega
        have hlt4b : w.heap.size + 1 < w4.heap.size := by have := V4.out.lt; omega
        have hlt4 := V4.out.lt
        have HO1 := Lib.hid (own_below V4.out.own1 (ext_drew (Below.refl _ _)))
        have hne0 : (Value.slice A1 L.length cp1).ownBlock ≠ some w.heap.size := own_far V4.out.own1 (by omega)
        have hne1 : (Value.slice A1 L.length cp1).ownBlock ≠ some (w.heap.size + 1) := own_far V4.out.own1 (by omega)
        go_wp2_with fail
        go_region_law (first
          | (refine step_append_lies _ (by rfl) _ _ _ (by rfl) (w.heap.size + 2) 46 ti (.agg #[.int .i64 0, .int .i64 0, .int .i64 0]) 3 24 Tryz.underlying94 HI.out hz0 hz1 hz2 rfl (by decide) _ _ _ (by rfl) (HO1.out.alloc _) _ 1 1 [.int .i64 sp, .int .i64 sd, .int .i64 sq] (by rfl) (by rfl) (news_row _ _ _ rfl) (by simp [Value.oneCell']) (by omega) (by unfold maxLen; omega) (by omega) (by simp; omega) _ rfl ?_; intro g6 cap6 w6 hown6 hgrow hat hlt; have B16 := (B1.drew.alloc _).grown hgrow hne1; have B06 := (B0.drew.alloc _).grown hgrow hne0; have z0 := B16.at 0 _ rfl; have G0 := B16.f 0))
        all_goals
          have K1 := Lib.hid (B16.set 0 (.slice (some ⟨g6, 0, none⟩) (L.length + 1) cap6) (by simp))
          have K0 := Lib.hid (B06.setFar (b := w.heap.size + 1) (j := 0) (.slice (some ⟨g6, 0, none⟩) (L.length + 1) cap6) (by omega))
          have O1 : Hid (World.ownsRow (w6.setCell ⟨w.heap.size + 1, 0, none⟩ (.slice (some ⟨g6, 0, none⟩) (L.length + 1) cap6)) (w.heap.size + 2) 46 3 (.slice (some ⟨g6, 0, none⟩) (L.length + 1) cap6) (L.length + 1) ((sdL (L ++ [(sp, sd, sq)])).map (Value.int .i64))) := by
            unfold Hid
            rw [sdL_snoc]
            have h := own_setFar hown6 (g := w.heap.size + 1) (j := 0) (.slice (some ⟨g6, 0, none⟩) (L.length + 1) cap6) (by omega)
            simpa using h
          have hap : Hid (v2.ownBlock ≠ some g6 ∧ (v2.ownBlock = none ∨ v2.ownBlock ≠ (Value.slice A1 L.length cp1).ownBlock)) := by
            have h2 := V4.out.own2.lt
            rcases hat with h | h
            · have h' := V4.out.apart
              rw [h] at h' ⊢
              rcases h' with ⟨h', _⟩ | h'
              · cases h'
              · exact ⟨fun e => h' e.symm, .inr fun e => h' e.symm⟩
            · refine ⟨fun e => ?_, ?_⟩
              · have := (h2 g6 e).2
                (try simp at h)
                omega
              · rcases V4.out.apart with ⟨_, h'⟩ | h'
                · exact .inl h'
                · exact .inr fun e => h' e.symm
          have O2 : Hid (World.ownsRow (w6.setCell ⟨w.heap.size + 1, 0, none⟩ (.slice (some ⟨g6, 0, none⟩) (L.length + 1) cap6)) (w.heap.size + 2) 2 1 v2 L.length ((L.map flS).map (Value.int .i64))) :=
            own_setFar (((own_below V4.out.own2 (ext_drew (Below.refl _ _))).alloc _).kept hgrow hap.out.2) _ (by omega)
          have BE : Hid (Below w.heap.size w (w6.setCell ⟨w.heap.size + 1, 0, none⟩ (.slice (some ⟨g6, 0, none⟩) (L.length + 1) cap6))) :=
            ext_set (below_grown (ext_alloc (ext_drew V4.out.below) _) (HO1.out.alloc _) (by omega) hgrow) (by simp) _
          have hz7 : w.heap.size + 2 ≤ (w6.setCell ⟨w.heap.size + 1, 0, none⟩ (.slice (some ⟨g6, 0, none⟩) (L.length + 1) cap6)).heap.size := by have := hgrow.size; simp at this ⊢; omega
          clear B16 B06 B1 B0 x0 x1 x2 y0 z0 G0 hown6 hgrow hat hlt V4 HO1 hlt4a hlt4b hlt4 hne0 hne1
          generalize w6.setCell ⟨w.heap.size + 1, 0, none⟩ (.slice (some ⟨g6, 0, none⟩) (L.length + 1) cap6) = W7 at *
          obtain ⟨hn2, A2, cp2, rfl, _⟩ := Wr.of_own O2.out
          rw [List.length_map] at hn2
          clear hn2
          have x0 := K1.out.at 1 _ rfl
          have G1 := K1.out.f 1
          have hown := O2.out
          go_wp2_with (at_builtin; refine wpList_append_own_at _ rfl _ _ 24 rfl (w.heap.size + 2) 2 tj (.int .i64 0) 1 8 Tryz.underlying24 HJ.out hy0 hy1 hy2 rfl (by decide) _ _ _ rfl (hown.alloc _) ⟨W7.heap.size, 0, none⟩ 1 1 [.int .i64 a] rfl rfl ?c1 ?c2 ?c3 ?c4 ?c5 ?_)
          case c1 => exact cell_one_new _ _ _
          case c2 => simp [Value.oneCell']
          case c3 => unfold maxLen; omega
          case c4 => omega
          case c5 => simp; omega
          intro v8 w8 hown8 hgr8 _ hat8
          refine Hid.out ?_
          refine Lib.hid ?_
          obtain ⟨B8, c8, e8⟩ := own_slice hown8
          subst e8
          have K18 := (K1.out.alloc (.cells #[.int .i64 a] 2)).grown hgr8 (own_far O2.out (by omega))
          have K08 := (K0.out.alloc (.cells #[.int .i64 a] 2)).grown hgr8 (own_far O2.out (by omega))
          have O18 := (O1.out.alloc (.cells #[.int .i64 a] 2)).kept hgr8 (.inr fun e => hap.out.1 e.symm)
          have V9 : Hid (SoS w (L ++ [(sp, sd, sq)]) (sp, sd, sq) (-1) (.slice (some ⟨g6, 0, none⟩) (L.length + 1) cap6) (.slice B8 (L.length + 1) c8) (w8.setCell ⟨w.heap.size + 1, 1, none⟩ (.slice B8 (L.length + 1) c8))) := by
            refine ⟨K08.setFar _ (by omega), K18.set 1 (.slice B8 (L.length + 1) c8) (by simp), ?_, ?_, ?_, ?_, ?_, HOK.out⟩
            · have h := own_setFar O18 (g := w.heap.size + 1) (j := 1) (.slice B8 (L.length + 1) c8) (by omega)
              simpa using h
            · have h := own_setFar hown8 (g := w.heap.size + 1) (j := 1) (.slice B8 (L.length + 1) c8) (by omega)
              rw [HLF.out]
              simpa using h
            · right
              intro e
              rcases hat8 with h | h
              · rw [h] at e
                exact hap.out.1 e.symm
              · rw [h] at e
                have e' : g6 = _ := Option.some.inj e
                have := (O1.out.lt g6 rfl).2
                (try simp at e')
                omega
            · exact ext_set (below_grown (ext_alloc BE.out _) (O2.out.alloc _) (by omega) hgr8) (by simp) _
            · have := hgr8.size
              simp at this ⊢
              omega
          have y1 := K18.at 1 _ rfl
          have G2 := K18.f 1
          clear K1 K0 O1 O2 BE hown hown8 hgr8 hat8 hap K18 K08 O18 x0 G1
          have z0 := V9.out.box.at 0 _ rfl
          have z1 := V9.out.box.at 1 _ rfl
          have z2 := V9.out.box.at 2 _ rfl
          go_wp2_with fail
          generalize w8.setCell ⟨w.heap.size + 1, 1, none⟩ (.slice B8 (L.length + 1) c8) = W9 at *
          refine (HNx.out _).mono ?_
          rintro e w10 ⟨⟨t1, t2, t3⟩, rfl, ht, hb10⟩
          have V10 := Lib.hid (V9.out.next hb10)
          have HT := Lib.hid ht
          clear V9 y1 G2 z0 z1 z2 ht hb10
          cases hok : sdOk (nxS (sp, sd, sq))
          · have HRR : Hid (R = none) := by
              have h1 := HP.out
              rw [HPN.out, hok] at h1
              exact h1.symm
            clear hok
            go_wp2
            go_ret2
            exact ⟨w.heap.size + 1, by rw [HRR.out]; rfl, ext_alloc V10.out.below _, fun L' i hL => by rw [HRR.out] at hL; cases hL⟩
          · have HPP : Hid (per k' (L ++ [(sp, sd, sq)]) (nxS (sp, sd, sq)) = R) := by
              have h1 := HP.out
              rw [HPN.out, hok, if_pos rfl] at h1
              exact h1
            have hTT := Lib.hid (HT.out hok)
            have HOKN := Lib.hid hok
            rw [← hTT.out] at HPP HOKN
            clear hok
            have z0 := V10.out.box.at 0 _ rfl
            have z1 := V10.out.box.at 1 _ rfl
            have z2 := V10.out.box.at 2 _ rfl
            have Z0 := V10.out.box.f 0
            have Z1 := V10.out.box.f 1
            have Z2 := V10.out.box.f 2
            have hlt10 : w.heap.size < w10.heap.size := by have := V10.out.lt; omega
            have V11 := Lib.hid ((V10.out.setS HOKN.out).next (ext1 _ (.cells #[.int .i64 t1, .int .i64 t2, .int .i64 t3] 46)))
            have HCE := Lib.hid (cellV_eq (V11.out.wk.at 0 _ rfl))
            clear V10
            go_wp2
            go_roundw
            case rel => exact ⟨L ++ [(sp, sd, sq)], (t1, t2, t3), -1, _, _, k', by simp; omega, HPP.out, V11.out⟩
            case measure => rw [HCE.out, cellV_eq HYY.out]; simp [lenOf']; omega
end Go.Proofs.YtpgkellmhlmjeaaGreatDoor
namespace Go.Proofs.YtpgkellmhlmjeaaGreatDoor
open Go.RowKit Go.Sort Go.Maps Go.WideMaps
theorem grown_of {w w' : World} (hb : Below w.heap.size w w') : w.grownBy w' none := ⟨hb.os, hb.tape, hb.output, hb.size, fun k hk _ => hb.block k hk⟩
end Go.Proofs.YtpgkellmhlmjeaaGreatDoor
namespace Go.Proofs.YtpgkellmhlmjeaaGreatDoor
open Go.RowKit Go.Sort Go.Maps Go.WideMaps
def hdR (R : Option (List Sd × Nat)) : List Int := (R.map headOf).getD []
def cyR (R : Option (List Sd × Nat)) : List Int := (R.map cycOf).getD []
theorem own_full {w : World} {base : Nat} {v : Value} {xs : List Int} (h : w.ownsRow base 2 1 v xs.length (xs.map (Value.int .i64))) : ∃ A c, v = .slice A xs.length c ∧ Wr (Value.int .i64) w base A xs ∧ xs.length ≤ c ∧ c ≤ maxLen := by
  obtain ⟨_, A, c, e, g⟩ := Wr.of_own h
  refine ⟨A, c, e, g, ?_⟩
  rcases h.2 with ⟨e2, h0⟩ | ⟨g', cap, cur, e2, _, _, hc, hm, _⟩
  · rw [e] at e2
    injection e2 with _ _ e3
    rw [e3, h0]
    exact ⟨Nat.le_refl _, Nat.zero_le _⟩
  · rw [e] at e2
    injection e2 with _ _ e3
    rw [e3]
    exact ⟨hc, hm⟩
/-- What a call returns that makes a head and a period. -/
def RetPd (w : World) (R : Option (List Sd × Nat)) (x : Value) (e : Ending) (w' : World) : Prop :=
  ∃ A1 c1 A2 c2, e = .returned (.tuple #[.slice A1 (hdR R).length c1, .slice A2 (cyR R).length c2, x]) ∧ Wr (Value.int .i64) w' w.heap.size A1 (hdR R) ∧ Wr (Value.int .i64) w' w.heap.size A2 (cyR R) ∧ ((hdR R).length ≤ c1 ∧ (cyR R).length ≤ c2 ∧ c1 ≤ maxLen ∧ c2 ≤ maxLen) ∧ Below w.heap.size w w'
end Go.Proofs.YtpgkellmhlmjeaaGreatDoor
namespace Go.Proofs.YtpgkellmhlmjeaaGreatDoor
open Go.RowKit Go.Sort Go.Maps Go.WideMaps
def pdR (s : Sd) : Option (List Sd × Nat) := if sdOk s = true then perOf s else none
def pdC (s : Sd) : Int := if sdOk s = true then (if (perOf s).isSome = true then 0 else 5) else 1
theorem pdR_facts {s : Sd} {L : List Sd} {i : Nat} (h : pdR s = some (L, i)) : sdOk s = true ∧ perOf s = some (L, i) ∧ pdC s = 0 ∧ i < L.length ∧ L.length ≤ 400 := by
  unfold pdR at h
  split at h
  · rename_i hs
    have := per_facts 400 [] s (L, i) h
    refine ⟨hs, h, ?_, by simpa using this⟩
    simp [pdC, hs, h]
  · cases h
theorem pdR_none {s : Sd} (h : pdR s = none) : pdC s ≠ 0 := by
  unfold pdR at h
  unfold pdC
  split
  · rename_i hs
    rw [if_pos hs] at h
    simp [h]
  · omega
/-- What a call returns that walks along the surds of any surd, and a code. -/
def RetCo (w : World) (R : Option (List Sd × Nat)) (code : Int) (e : Ending) (w' : World) : Prop :=
  ∃ g, e = .returned (.tuple #[.pointer (some ⟨g, 0, none⟩), .int .i64 code]) ∧ Below w.heap.size w w' ∧ ∀ L i, R = some (L, i) → WkAt w.heap.size g L (i : Int) w'
set_option maxHeartbeats 1000000 in
theorem l08Code_any (p d q : Int) (w : World) :
    Calls Tryz.prog 91 #[surdV p d q] w (RetCo w (pdR (p, d, q)) (pdC (p, d, q))) := by
  have HV := Lib.hid (fun W : World => l07Ok_any p d q W)
  have HOK : Hid (sdOk (p, d, q) = surdB p d q) := rfl
  cases hs : surdB p d q
  · have e1 : pdR (p, d, q) = none := by rw [pdR, HOK.out, hs]; rfl
    have e2 : pdC (p, d, q) = 1 := by rw [pdC, HOK.out, hs]; rfl
    rw [e1, e2]
    clear e1 e2
    rw [hs] at HV
    clear hs HOK
    unfold surdV at *
    go_enter Tryz.func91, Tryz.ntmps91
    go_wp2_with fail
    refine (HV.out _).mono ?_
    rintro e w1 ⟨rfl, hb1⟩
    go_wp2
    go_ret2
    exact ⟨_, rfl, ext_alloc (ext_trans (ext1 _ _) hb1) _, fun L i h => by cases h⟩
  · have e1 : pdR (p, d, q) = perOf (p, d, q) := by rw [pdR, HOK.out, hs]; rfl
    have e2 : pdC (p, d, q) = if (perOf (p, d, q)).isSome = true then 0 else 5 := by rw [pdC, HOK.out, hs]; rfl
    have HP := Lib.hid (fun W : World => l08Walk_any p d q W hs)
    rw [e1, e2]
    clear e1 e2
    rw [hs] at HV
    clear hs HOK
    generalize perOf (p, d, q) = R at *
    obtain ⟨cd, hcd⟩ : ∃ cd, (if R.isSome = true then (0 : Int) else 5) = cd := ⟨_, rfl⟩
    rw [hcd]
    have HCD : Hid (∀ b, R.isSome = b → cd = if b = true then 0 else 5) := fun b hb => by rw [← hcd, hb]
    clear hcd
    unfold surdV at *
    go_enter Tryz.func91, Tryz.ntmps91
    go_wp2_with fail
    refine (HV.out _).mono ?_
    rintro e w1 ⟨rfl, hb1⟩
    obtain ⟨hc1, hf1⟩ := bcell hb1
    have hz1 : w.heap.size < w1.heap.size := by have := hb1.size; simp at this; omega
    have HB1 := Lib.hid (ext_trans (ext1 w (.cells #[.int .i64 p, .int .i64 d, .int .i64 q] 46)) hb1)
    go_wp2_with fail
    refine (HP.out _).mono ?_
    rintro e w2 ⟨g, rfl, hb2, hw⟩
    have HW : Hid (∀ L i, R = some (L, i) → WkAt w.heap.size g L (i : Int) w2) := fun L i h => (hw L i h).more HB1.out.size
    have HB2 := Lib.hid (ext_trans HB1.out hb2)
    clear hw hb2 hb1 HB1 hc1 hf1
    cases hR : R.isSome
    · obtain rfl : cd = 5 := HCD.out false hR
      clear hR HCD
      go_wp2
      go_ret2
      exact ⟨g, rfl, HB2.out, HW.out⟩
    · obtain rfl : cd = 0 := HCD.out true hR
      clear hR HCD
      go_wp2
      go_ret2
      exact ⟨g, rfl, HB2.out, HW.out⟩
end Go.Proofs.YtpgkellmhlmjeaaGreatDoor
namespace Go.Proofs.YtpgkellmhlmjeaaGreatDoor
open Go.RowKit Go.Sort
@[reducible] def pairV (x y : Int) : Value := .agg #[.int .i64 x, .int .i64 y]
theorem dquo {d : Int} (h1 : 2 ≤ d) : 0 ≤ 1000000000000000000 / d ∧ 1000000000000000000 / d ≤ 1000000000000000000 ∧ (1000000000000000000 : Int).tdiv d = 1000000000000000000 / d := by
  refine ⟨Int.ediv_nonneg (by omega) (by omega), ?_, Int.tdiv_eq_ediv_of_nonneg (by omega)⟩
  exact Int.ediv_le_self _ (by omega)
set_option maxHeartbeats 1000000 in
theorem l09Ok_any (d x y : Int) (w : World) (h1 : 2 ≤ d) (h2 : d ≤ 10000) :
    Calls Tryz.prog 90 #[.int .i64 d, pairV x y] w fun e w' => e = .returned (.bool (plB d x y)) ∧ Below w.heap.size w w' := by
  obtain ⟨q1, q2, q3⟩ := dquo h1
  have e0 : (d == 0) = false := by simp; omega
  unfold pairV plB
  generalize 1000000000000000000 / d = z at *
  have w3 : IntKind.i64.wrap ((1000000000000000000 : Int).tdiv d) = z := by rw [q3]; exact IntWalk.i64_in _ (by omega)
  cases hx : inR x (-1000000000) 1000000000
  all_goals cases hy : inR y (-1000000000) 1000000000
  case true.true =>
    obtain ⟨y1, y2⟩ := inR_true.1 hy
    have m := mul_bd (x := y) (y := y) (M := 1000000000) (N := 1000000000) (by omega) y2 (by omega) y2 y1 y1
    obtain ⟨m1, m2⟩ := m
    have w4 : IntKind.i64.wrap (y * y) = y * y := IntWalk.i64_in _ (by omega)
    have HX := Lib.hid hx
    have HY := Lib.hid hy
    clear hx hy
    simp only [Bool.true_and]
    go_enter Tryz.func90, Tryz.ntmps90
    go_wp2_with (first | (go_at_call 38; (with_reducible refine (l00In_is HX.out _).mono ?_); rintro e w' ⟨rfl, rfl⟩) | (go_at_call 38; (with_reducible refine (l00In_is HY.out _).mono ?_); rintro e w' ⟨rfl, rfl⟩))
    generalize hW : w.alloc _ = W
    have hb0 : Below w.heap.size w W := by rw [← hW]; exact ext1 _ _
    have k0 : ∀ d' os, (grow (redrawn W d') os).cell? ⟨w.heap.size, 0, none⟩ = some (.int .i64 x) := cell_regrown (by rw [← hW, cell_one]; rfl)
    have k1 : ∀ d' os, (grow (redrawn W d') os).cell? ⟨w.heap.size, 1, none⟩ = some (.int .i64 y) := cell_regrown (by rw [← hW, cell_one]; rfl)
    clear hW
    refine wp_region_quiet_below (by kernel_rfl) (by kernel_rfl) ?_
    repeat (first | go_big_quiet_step ((fail)) | quiet_step ((fail)))
    refine wpQuiet_nil ?_
    intro _ hw'
    obtain ⟨⟨dq, oq⟩, hw''⟩ := hw'
    subst hw''
    go_wp2
    go_ret
    exact ⟨rfl, ext_trans hb0 (below_regrown W dq oq)⟩
  all_goals
    have HX := Lib.hid hx
    have HY := Lib.hid hy
    clear hx hy
    simp only [Bool.true_and, Bool.false_and]
    go_enter Tryz.func90, Tryz.ntmps90
    go_wp2_with (first | (go_at_call 38; (with_reducible refine (l00In_is HX.out _).mono ?_); rintro e w' ⟨rfl, rfl⟩) | (go_at_call 38; (with_reducible refine (l00In_is HY.out _).mono ?_); rintro e w' ⟨rfl, rfl⟩))
    go_ret
    exact ⟨rfl, ext1 _ _⟩
theorem l09D_any (d : Int) (w : World) : Calls Tryz.prog 40 #[.int .i64 d] w fun e w' => e = .returned (.int .i64 (pcC d)) ∧ w = w' := by
  unfold pcC
  cases hx : inR d 2 10000
  · have HX := Lib.hid hx
    clear hx
    simp only [Bool.false_eq_true, if_false]
    go_enter Tryz.func40, Tryz.ntmps40
    go_wp2_with (go_at_call 38; (with_reducible refine (l00In_is HX.out _).mono ?_); rintro e w' ⟨rfl, rfl⟩)
    go_ret
    exact ⟨rfl, rfl⟩
  · obtain ⟨d1, d2⟩ := inR_true.1 hx
    have HX := Lib.hid hx
    have HQ := Lib.hid (fun W : World => l07Square_any d W (by omega) (by omega))
    clear hx
    cases hs : sqB d
    all_goals
      rw [hs] at HQ
      clear hs
      simp only [Bool.false_eq_true, if_false, if_true]
      go_enter Tryz.func40, Tryz.ntmps40
      go_wp2_with (first | (go_at_call 38; (with_reducible refine (l00In_is HX.out _).mono ?_); rintro e w' ⟨rfl, rfl⟩) | (go_at_call 86; (with_reducible refine (HQ.out _).mono ?_); rintro e w' ⟨rfl, rfl⟩))
      go_ret
      exact ⟨rfl, rfl⟩
theorem asL_get {d : Int} {n j : Nat} (h : j < n) : (asL d n)[j]? = some (flS (itS (fsS d) j)) := by
  unfold asL
  rw [List.getElem?_map, List.getElem?_range h]; rfl
end Go.Proofs.YtpgkellmhlmjeaaGreatDoor
