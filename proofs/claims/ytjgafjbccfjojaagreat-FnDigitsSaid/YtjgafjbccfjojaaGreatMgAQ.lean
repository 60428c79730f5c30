/- Surds up to the first that comes again: the reference's walk. No condition but those that each theorem names. -/
import Derived.Test.YtjgafjbccfjojaaGreatMgAP
import Derived.Test.YtjgafjbccfjojaaGreatMgAK
import Derived.Test.YtjgafjbccfjojaaGreatMgAA
import Derived.Deep.AppendLies
import Derived.Deep.RegionLaw
namespace Go.Proofs.YtjgafjbccfjojaaGreat
open Go.RowKit Go.Sort Go.Maps Go.WideMaps
/-- The place of a surd in a list; -1 if it is not there. -/
def fdS (L : List Sd) (s : Sd) : Int := if s ∈ L then (L.idxOf s : Int) else -1
theorem fdS_mem {L : List Sd} {s : Sd} (h : s ∈ L) : fdS L s = (L.idxOf s : Int) := if_pos h
theorem fdS_not {L : List Sd} {s : Sd} (h : s ∉ L) : fdS L s = -1 := if_neg h
theorem fd_step {L : List Sd} {s t : Sd} {k : Nat} (h : s ∉ L.take k) (ht : L[k]? = some t) (hne : t ≠ s) : s ∉ L.take (k + 1) := by
  rw [List.take_add_one, ht]
  simp
  exact ⟨by simpa using h, fun e => hne e.symm⟩
theorem fd_hit {L : List Sd} {s : Sd} {k : Nat} (h : s ∉ L.take k) (ht : L[k]? = some s) : fdS L s = (k : Int) := by
  have hk : k < L.length := (List.getElem?_eq_some_iff.1 ht).1
  have hm : s ∈ L := List.mem_of_getElem? ht
  rw [fdS_mem hm]
  have e : L = L.take k ++ L.drop k := (List.take_append_drop k L).symm
  have hd : L.drop k = s :: L.drop (k + 1) := by rw [List.drop_eq_getElem_cons hk]; congr 1; exact (List.getElem?_eq_some_iff.1 ht).2
  have : L.idxOf s = k := by
    rw [e, List.idxOf_append, if_neg h, hd]
    simp
    omega
  rw [this]
set_option maxRecDepth 100000 in
set_option maxHeartbeats 1000000 in
theorem l08Find_any (A : Option Addr) (c : Nat) (L : List Sd) (s : Sd) (w : World) (hx : Rd (Value.int .i64) w w.heap.size A (sdL L)) (hl : L.length ≤ 1000) :
    Calls Tryz.prog 101 #[.slice A L.length c, surdV s.1 s.2.1 s.2.2] w fun e w' => e = .returned (.int .i64 (fdS L s)) ∧ Below w.heap.size w w' := by
  have q3 := Tryz.eqGuardType117
  have q4 := Tryz.stoodInHeld117
  obtain ⟨p, d, q⟩ := s
  have hlen := sdL_length L
  have HX : Hid (Rd (Value.int .i64) (w.alloc (.cells #[.int .i64 p, .int .i64 d, .int .i64 q] 117)) w.heap.size A (sdL L)) := hx.below (ext1 _ _)
  have HB : Hid (BoxV w.heap.size [.int .i64 p, .int .i64 d, .int .i64 q] (w.alloc (.cells #[.int .i64 p, .int .i64 d, .int .i64 q] 117))) := BoxV.new w #[.int .i64 p, .int .i64 d, .int .i64 q] 117
  have HE : Hid (Below w.heap.size w (w.alloc (.cells #[.int .i64 p, .int .i64 d, .int .i64 q] 117))) := ext1 _ _
  clear hx
  unfold surdV
  go_enter Tryz.func101, Tryz.ntmps101
  go_wp2_with fail
  generalize w.alloc (.cells #[.int .i64 p, .int .i64 d, .int .i64 q] 117) = W at *
  go_loopw [5] (fun t wr => ∃ k : Nat, k ≤ L.length ∧ t = .int .i64 k ∧ Hid ((p, d, q) ∉ L.take k) ∧ ∃ n, wr = W.drewN n) (fun t _ => L.length - (intOf t).toNat)
  case atStart => exact ⟨0, by omega, rfl, (show (p, d, q) ∉ L.take 0 by simp), 0, rfl⟩
  case round =>
    obtain ⟨k, hk, rfl, HN, nn, rfl⟩ := hrel
    have x0 : W.cell? ⟨w.heap.size, 0, none⟩ = some (.int .i64 p) := HB.out.at 0 _ rfl
    have x1 : W.cell? ⟨w.heap.size, 1, none⟩ = some (.int .i64 d) := HB.out.at 1 _ rfl
    have x2 : W.cell? ⟨w.heap.size, 2, none⟩ = some (.int .i64 q) := HB.out.at 2 _ rfl
    by_cases hlt : k < L.length
    · obtain ⟨b, off, rfl, hb, hc⟩ := HX.out (by omega)
      obtain ⟨⟨y1, y2, y3⟩, hyk⟩ : ∃ x, L[k]? = some x := ⟨_, List.getElem?_eq_getElem hlt⟩
      obtain ⟨g0, g1, g2⟩ := sdL_get hyk
      have c0 := hc _ _ g0
      have c1 := hc _ _ g1
      have c2 := hc _ _ g2
      rw [← Nat.add_assoc] at c1 c2
      have HY := Lib.hid hyk
      have i0 : (0 : Int) ≤ (k : Int) := by omega
      have i1 : (k : Int) < (L.length : Int) := by omega
      clear hc g0 g1 g2 hyk
      by_cases he : (y1, y2, y3) = (p, d, q)
      · injection he with e1 e2
        injection e2 with e2 e3
        subst e1; subst e2; subst e3
        have HR := Lib.hid (fd_hit HN.out HY.out)
        clear HN HY
        go_wp2_with fail
        go_quiet (fail)
        go_wp2
        go_ret
        exact ⟨ret_int HR.out.symm, HE.out.trans ⟨rfl, rfl, rfl, Nat.le_refl _, fun _ _ => rfl⟩⟩
      · have HS := Lib.hid (fd_step HN.out HY.out he)
        have hway : (y1 == p) = false ∨ ((y1 == p) = true ∧ (y2 == d) = false) ∨ ((y1 == p) = true ∧ (y2 == d) = true ∧ (y3 == q) = false) := by
          by_cases a1 : y1 = p
          · by_cases a2 : y2 = d
            · have a3 : ¬ y3 = q := fun a3 => he (by rw [a1, a2, a3])
              exact .inr (.inr ⟨by simpa using a1, by simpa using a2, by simpa using a3⟩)
            · exact .inr (.inl ⟨by simpa using a1, by simpa using a2⟩)
          · exact .inl (by simpa using a1)
        clear he HN HY
        rcases hway with a1 | ⟨a1, a2⟩ | ⟨a1, a2, a3⟩
        all_goals
          go_wp2_with fail
          go_quiet (fail)
          go_wp2
          go_roundw
          case rel => exact ⟨k + 1, by omega, by go_num, HS.out, _, rfl⟩
          case measure => simp [intOf]; omega
    · have HR : Hid (fdS L (p, d, q) = -1) := by
        have h := HN.out
        rw [List.take_of_length_le (by omega)] at h
        exact fdS_not h
      go_wp2
      go_ret
      exact ⟨ret_int HR.out.symm, HE.out.trans ⟨rfl, rfl, rfl, Nat.le_refl _, fun _ _ => rfl⟩⟩
/-- What a cell holds. -/
def cellV (a : Addr) (w : World) : Value := (w.cell? a).getD (.bool false)
theorem cellV_eq {a : Addr} {w : World} {v : Value} (h : w.cell? a = some v) : cellV a w = v := by unfold cellV; rw [h]; rfl
theorem infoSd' : (Tryz.prog.info? 117).map (fun i => (i.zero, i.size, i.bytes)) = some (some (.agg #[.int .i64 0, .int .i64 0, .int .i64 0]), 3, 24) := by kernel_rfl
def lenOf' : Value → Nat
  | .slice _ n _ => n
  | _ => 0
/-- What holds on the way. -/
structure SoS (w : World) (L : List Sd) (s : Sd) (f : Int) (v1 v2 : Value) (wr : World) : Prop where
  box : BoxV w.heap.size [.int .i64 s.1, .int .i64 s.2.1, .int .i64 s.2.2] wr
  wk : BoxV (w.heap.size + 1) [v1, v2, .int .i64 f] wr
  own1 : wr.ownsRow (w.heap.size + 2) 117 3 v1 L.length ((sdL L).map (Value.int .i64))
  own2 : wr.ownsRow (w.heap.size + 2) 2 1 v2 L.length ((L.map flS).map (Value.int .i64))
  apart : v1.ownBlock = none ∧ v2.ownBlock = none ∨ v1.ownBlock ≠ v2.ownBlock
  below : Below w.heap.size w wr
  lt : w.heap.size + 2 ≤ wr.heap.size
  ok : sdOk s = true
theorem SoS.next {w : World} {L : List Sd} {s : Sd} {f : Int} {v1 v2 : Value} {wr w2 : World} (h : SoS w L s f v1 v2 wr) (hb : Below wr.heap.size wr w2) : SoS w L s f v1 v2 w2 :=
  ⟨h.box.next hb, h.wk.next hb, own_below h.own1 hb, own_below h.own2 hb, h.apart, ext_trans h.below hb, Nat.le_trans h.lt hb.size, h.ok⟩
theorem SoS.drew {w : World} {L : List Sd} {s : Sd} {f : Int} {v1 v2 : Value} {wr : World} (h : SoS w L s f v1 v2 wr) : SoS w L s f v1 v2 wr.drew := h.next (ext_drew (Below.refl _ _))
theorem SoS.setF {w : World} {L : List Sd} {s : Sd} {f : Int} {v1 v2 : Value} {wr : World} (h : SoS w L s f v1 v2 wr) (g : Int) : SoS w L s g v1 v2 (wr.setCell ⟨w.heap.size + 1, 2, none⟩ (.int .i64 g)) :=
  ⟨h.box.setFar _ (by omega), h.wk.set 2 _ (by simp), own_setFar h.own1 _ (by omega), own_setFar h.own2 _ (by omega), h.apart, ext_set h.below (by simp) _, by simpa using h.lt, h.ok⟩
theorem SoS.setS {w : World} {L : List Sd} {s t : Sd} {f : Int} {v1 v2 : Value} {wr : World} (h : SoS w L s f v1 v2 wr) (ht : sdOk t = true) :
    SoS w L t f v1 v2 (((wr.setCell ⟨w.heap.size, 0, none⟩ (.int .i64 t.1)).setCell ⟨w.heap.size, 1, none⟩ (.int .i64 t.2.1)).setCell ⟨w.heap.size, 2, none⟩ (.int .i64 t.2.2)) :=
  ⟨((h.box.set 0 _ (by simp)).set 1 _ (by simp)).set 2 _ (by simp), ((h.wk.setFar _ (by omega)).setFar _ (by omega)).setFar _ (by omega), own_setFar (own_setFar (own_setFar h.own1 _ (by omega)) _ (by omega)) _ (by omega), own_setFar (own_setFar (own_setFar h.own2 _ (by omega)) _ (by omega)) _ (by omega), h.apart,
    ext_set (ext_set (ext_set h.below (by simp) _) (by simp) _) (by simp) _, by simpa using h.lt, ht⟩
end Go.Proofs.YtjgafjbccfjojaaGreat
