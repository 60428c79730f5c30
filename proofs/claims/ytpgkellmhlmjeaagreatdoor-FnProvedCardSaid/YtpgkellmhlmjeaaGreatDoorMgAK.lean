/- Parts of the proof, merged: PerIW PerSW PeriodW PdW SndP. No condition but those that each theorem names. -/
import Derived.Test.YtpgkellmhlmjeaaGreatDoorMgAJ
import Derived.Test.YtpgkellmhlmjeaaGreatDoorMgAC
import Derived.Test.YtpgkellmhlmjeaaGreatDoorMgAB
import Derived.Deep.AppendLies
import Derived.Deep.RegionLaw
import Derived.Test.YtpgkellmhlmjeaaGreatDoorMgAI
namespace Go.Proofs.YtpgkellmhlmjeaaGreatDoor
open Go.RowKit Go.Sort Go.Maps Go.WideMaps
theorem infoSd : (Tryz.prog.info? 46).map (fun i => (i.zero, i.size, i.bytes)) = some (some (.agg #[.int .i64 0, .int .i64 0, .int .i64 0]), 3, 24) := by kernel_rfl
theorem zeroInt (w : World) : (zeroValue 3).run Tryz.prog w = .ok (.int .i64 0) w := by kernel_rfl
theorem grown_of {w w' : World} (hb : Below w.heap.size w w') : w.grownBy w' none := ⟨hb.os, hb.tape, hb.output, hb.size, fun k hk _ => hb.block k hk⟩
/-- What a call returns that goes along surds. -/
def RetSo (w : World) (R : Option (List Sd × Nat)) (e : Ending) (w' : World) : Prop :=
  ∃ A c, e = .returned (.tuple #[.slice A (R.getD ([], 0)).1.length c, .int .i64 ((R.getD ([], 0)).2 : Int), .bool R.isSome]) ∧ Wr (Value.int .i64) w' w.heap.size A (sdL (R.getD ([], 0)).1) ∧ Below w.heap.size w w'
def lenOf : Value → Nat
  | .slice _ n _ => n
  | _ => 0
/-- What holds while the program goes along surds: the box, the list, the map. -/
structure SoI (w : World) (L : List Sd) (s : Sd) (v : Value) (wr : World) : Prop where
  box : BoxV w.heap.size [.int .i64 s.1, .int .i64 s.2.1, .int .i64 s.2.2] wr
  own : wr.ownsRow (w.heap.size + 2) 46 3 v L.length ((sdL L).map (Value.int .i64))
  map : ∃ D, wr.ownsMap Tryz.prog 46 (plainElem Tryz.prog 3) (w.heap.size + 1) L.length D ∧ MpS L D
  below : Below w.heap.size w wr
  lt : w.heap.size + 2 ≤ wr.heap.size
  ok : sdOk s = true ∧ L.Nodup
set_option maxRecDepth 100000 in
set_option maxHeartbeats 4000000 in
theorem surdsOf_any (p d q : Int) (w : World) (h : surdB p d q = true) :
    Calls Tryz.prog 144 #[surdV p d q] w (RetSo w (perOf (p, d, q))) := by
  obtain ⟨ti, hi, hz0, hz1, hz2⟩ := info_parts infoSd
  have HI := Lib.hid hi
  clear hi
  have hmm := @run_makeMap Tryz.prog
  obtain ⟨R, hR⟩ : ∃ R, perOf (p, d, q) = R := ⟨_, rfl⟩
  rw [hR]
  have HR : Hid (per 400 [] (p, d, q) = R) := hR
  have HH := Lib.hid h
  clear hR h
  unfold surdV
  go_enter Tryz.func144, Tryz.ntmps144
  go_wp2_with fail
  have HV0 : Hid (SoI w [] (p, d, q) (.slice none 0 0) ((w.alloc (.cells #[.int .i64 p, .int .i64 d, .int .i64 q] 46)).alloc (.map #[] 0))) := by
    have hm := World.ownsMap_made (H := Unit) (w.alloc (.cells #[.int .i64 p, .int .i64 d, .int .i64 q] 46)) Tryz.prog 46 (plainElem Tryz.prog 3)
    exact ⟨(BoxV.new w #[.int .i64 p, .int .i64 d, .int .i64 q] 46).alloc _, own_nil, ⟨.map [], by simpa using hm, MpS.nil_⟩, ext_alloc (ext1 _ _) _, by simp, HH.out, by simp⟩
  generalize (w.alloc (.cells #[.int .i64 p, .int .i64 d, .int .i64 q] 46)).alloc (.map #[] 0) = W0 at *
  clear hmm HH
  go_loopw [5] (fun v wr => ∃ (L : List Sd) (s : Sd) (k : Nat), L.length + k = 400 ∧ lenOf v = L.length ∧ Hid (per k L s = R) ∧ Hid (SoI w L s v wr)) (fun v _ => 401 - lenOf v)
  case atStart => exact ⟨[], (p, d, q), 400, rfl, rfl, HR.out, HV0.out⟩
  case round =>
    obtain ⟨L, s, k, hk, hlen, HP, HV⟩ := hrel
    clear HR HV0
    have HLen := Lib.hid hlen
    clear hlen
    obtain ⟨sp, sd, sq⟩ := s
    have HOK := Lib.hid HV.out.ok.1
    have x0 := HV.out.box.at 0 _ rfl
    have x1 := HV.out.box.at 1 _ rfl
    have x2 := HV.out.box.at 2 _ rfl
    obtain ⟨D, hmap, hD⟩ := HV.out.map
    have HM := Lib.hid hmap
    have HK : Hid (keyOf Tryz.prog 46 (.agg #[.int .i64 sp, .int .i64 sd, .int .i64 sq]) = some (klS (sp, sd, sq))) := klS_key HOK.out
    by_cases hin : (sp, sd, sq) ∈ L
    · obtain ⟨g1, g2⟩ := hD.2 _ HOK.out
      have HHas : Hid (has D (klS (sp, sd, sq)) = true) := by unfold Hid; rw [g1]; simpa using hin
      have HAt := Lib.hid (g2 hin (.lit (.int .i64 0)))
      have HRR : Hid (R = some (L, L.idxOf (sp, sd, sq))) := by
        have := HP.out
        unfold Hid
        rw [← this]
        cases k <;> simp [per, hin]
      clear g1 g2 hD hmap hin
      go_wp2_with (at_lookup; refine wpList_lookup_own_ok_int _ rfl _ _ 168 rfl _ _ .i64 keyedSurd Tryz.underlying168 Tryz.underlying3 (zeroInt _) (w.heap.size + 1) _ D rfl HM.out _ _ rfl HK.out ?_; intro c hat hwc; refine Hid.out ?_)
      refine Lib.hid ?_
      rw [HHas.out]
      have HC : Hid (c = (L.idxOf (sp, sd, sq) : Int)) := by
        have := HAt.out.symm.trans hat
        injection this with this
        injection this with _ this
        exact this.symm
      clear hat hwc
      go_wp2
      go_ret3
      rw [HRR.out]
      obtain ⟨hn, A, cp, rfl, hw⟩ := Wr.of_ownS HV.out.own
      exact ⟨A, cp, by rw [HC.out]; rfl, hw.more (by omega), HV.out.below⟩
    · obtain ⟨g1, _⟩ := hD.2 _ HOK.out
      have HHas : Hid (has D (klS (sp, sd, sq)) = false) := by unfold Hid; rw [g1]; simpa using hin
      have HPush : Hid (MpS (L ++ [(sp, sd, sq)]) (D.put (klS (sp, sd, sq)) (.lit (.int .i64 (L.length : Int))))) := hD.push HOK.out hin
      have HND : Hid ((L ++ [(sp, sd, sq)]).Nodup) := by
        unfold Hid
        rw [List.nodup_append]
        exact ⟨HV.out.ok.2, by simp, fun a ha b hb => by
          rw [List.mem_singleton.1 hb]
          intro e
          exact hin (e ▸ ha)⟩
      have HIN := Lib.hid hin
      clear g1 hD hmap hin
      obtain ⟨hn0, A0, cp0, ev, _⟩ := Wr.of_ownS HV.out.own
      subst ev
      clear hn0
      have hL400 : L.length ≤ 400 := by omega
      by_cases h4 : L.length = 400
      · have HRR : Hid (R = none) := by
          obtain rfl : k = 0 := by omega
          have := HP.out
          unfold Hid
          rw [← this]
          simp [per, HIN.out]
        have t4 : ((L.length : Int) == 400) = true := by simpa using (by omega : (L.length : Int) = 400)
        have HB := Lib.hid HV.out.below
        clear h4
        go_wp2_with (at_lookup; refine wpList_lookup_own_ok_int _ rfl _ _ 168 rfl _ _ .i64 keyedSurd Tryz.underlying168 Tryz.underlying3 (zeroInt _) (w.heap.size + 1) _ D rfl HM.out _ _ rfl HK.out ?_; intro c hat hwc; refine Hid.out ?_)
        refine Lib.hid ?_
        rw [HHas.out]
        clear hat hwc
        go_wp2
        go_ret3
        rw [HRR.out]
        exact ⟨none, 0, rfl, fun h => absurd h (by simp [sdL]), HB.out⟩
      · obtain ⟨k', rfl⟩ : ∃ k', k = k' + 1 := ⟨k - 1, by omega⟩
        have t4 : ((L.length : Int) == 400) = false := by simpa using (by omega : (L.length : Int) ≠ 400)
        have HPN : Hid (per (k' + 1) L (sp, sd, sq) = if sdOk (nxS (sp, sd, sq)) = true then per k' (L ++ [(sp, sd, sq)]) (nxS (sp, sd, sq)) else none) := by
          unfold Hid
          rw [per, if_neg HIN.out]
        have HNX := Lib.hid (fun W : World => nextSurd_any sp sd sq W HOK.out)
        have hNX : Hid (nxS (sp, sd, sq) = (npS (sp, sd, sq), sd, nqS (sp, sd, sq))) := rfl
        clear h4
        go_wp2_with (at_lookup; refine wpList_lookup_own_ok_int _ rfl _ _ 168 rfl _ _ .i64 keyedSurd Tryz.underlying168 Tryz.underlying3 (zeroInt _) (w.heap.size + 1) _ D rfl HM.out _ _ rfl HK.out ?_; intro c hat hwc; refine Hid.out ?_)
        refine Lib.hid ?_
        rw [HHas.out]
        clear hat hwc
        have hvi : plainElem (H := Unit) Tryz.prog 3 (.int .i64 (L.length : Int)) = some (.lit (.int .i64 (L.length : Int)), []) := plainElem_int Tryz.underlying3 (wf64 (by omega) (by omega))
        have HVI := Lib.hid hvi
        clear hvi
        go_wp2_with (at_mapUpdate; refine wpList_mapUpdate_own _ rfl _ _ _ 168 rfl _ _ keyedSurd Tryz.underlying168 _ (w.heap.size + 1) L.length D rfl HM.out (by unfold maxLen; omega) _ _ _ rfl rfl HK.out _ [] HVI.out ?_; intro w1 hown1 hgr1; refine Hid.out ?_)
        refine Lib.hid ?_
        have HB1 : Hid (BoxV w.heap.size [.int .i64 sp, .int .i64 sd, .int .i64 sq] w1) := HV.out.box.grown hgr1 (by intro e; injection e; omega)
        have HO1 : Hid (w1.ownsRow (w.heap.size + 2) 46 3 (.slice A0 L.length cp0) L.length ((sdL L).map (Value.int .i64))) := HV.out.own.kept hgr1 (.inr (own_far HV.out.own (by omega)))
        have HBe1 : Hid (Below w.heap.size w w1) := HV.out.below.grown hgr1 HV.out.below.size (fun b hb => by injection hb with hb; omega)
        have hsz1 : w.heap.size + 2 ≤ w1.heap.size := Nat.le_trans HV.out.lt hgr1.size
        have HM1 := Lib.hid hown1
        clear hown1 hgr1 x0 x1 x2 HM HV
        have x0 := HB1.out.at 0 _ rfl
        have x1 := HB1.out.at 1 _ rfl
        have x2 := HB1.out.at 2 _ rfl
        have hown := HO1.out
        go_wp2_with (at_builtin; refine wpList_append_own _ rfl _ _ 94 rfl (w.heap.size + 2) 46 ti (.agg #[.int .i64 0, .int .i64 0, .int .i64 0]) 3 24 Tryz.underlying94 HI.out hz0 hz1 hz2 rfl (by decide) _ _ _ rfl (hown.alloc _) ⟨w1.heap.size, 0, none⟩ 1 1 [.int .i64 sp, .int .i64 sd, .int .i64 sq] rfl rfl ?c1 ?c2 ?c3 ?c4 ?c5 ?_)
        case c1 => exact news_row w1 _ _ rfl
        case c2 => simp [Value.oneCell']
        case c3 => unfold maxLen; omega
        case c4 => omega
        case c5 => simp; omega
        intro v2 w2 hown2 hgr2 _
        refine Hid.out ?_
        refine Lib.hid ?_
        have hne0 : (Value.slice A0 L.length cp0).ownBlock ≠ some w.heap.size := own_far HO1.out (by omega)
        have hne1 : (Value.slice A0 L.length cp0).ownBlock ≠ some (w.heap.size + 1) := own_far HO1.out (by omega)
        have HB2 : Hid (BoxV w.heap.size [.int .i64 sp, .int .i64 sd, .int .i64 sq] w2) := (HB1.out.alloc _).grown hgr2 hne0
        have HM2 : Hid (w2.ownsMap (H := Unit) Tryz.prog 46 (plainElem Tryz.prog 3) (w.heap.size + 1) (L.length + 1) (D.put (klS (sp, sd, sq)) (.lit (.int .i64 (L.length : Int))))) := (HM1.out.alloc _).kept hgr2 (fun e => hne1 e.symm)
        have HBe2 : Hid (Below w.heap.size w w2) := below_grown (ext_alloc HBe1.out _) (HO1.out.alloc _) (by omega) hgr2
        have hsz2 : w.heap.size + 2 ≤ w2.heap.size := by have := hgr2.size; simp at this; omega
        have HO2 : Hid (w2.ownsRow (w.heap.size + 2) 46 3 v2 (L.length + 1) ((sdL (L ++ [(sp, sd, sq)])).map (Value.int .i64))) := by
          unfold Hid
          rw [sdL_snoc]
          simpa using hown2
        clear hown hown2 hgr2 hne0 hne1 HB1 HM1 HBe1 HO1 x0 x1 x2
        have x0 := HB2.out.at 0 _ rfl
        have x1 := HB2.out.at 1 _ rfl
        have x2 := HB2.out.at 2 _ rfl
        obtain ⟨hn2, A2, cp2, rfl, _⟩ := Wr.of_ownS HO2.out
        clear hn2
        go_wp2_with fail
        refine (HNX.out _).mono ?_
        rintro e w3 ⟨rfl, hb3⟩
        have HB3 := Lib.hid (HB2.out.next hb3)
        have HO3 := Lib.hid (own_below HO2.out hb3)
        have HM3 := Lib.hid (HM2.out.kept (grown_of hb3) (by simp))
        have HBe3 := Lib.hid (ext_trans HBe2.out hb3)
        have hsz3 : w.heap.size + 2 ≤ w3.heap.size := Nat.le_trans hsz2 hb3.size
        clear HB2 HO2 HM2 HBe2 hb3 x0 x1 x2
        generalize hNP : npS (sp, sd, sq) = np at *
        generalize hNQ : nqS (sp, sd, sq) = nq at *
        clear hNP hNQ
        cases hok : sdOk (nxS (sp, sd, sq))
        · have HRR : Hid (R = none) := by
            have h1 := HP.out
            rw [HPN.out, hok] at h1
            exact h1.symm
          clear hok
          go_wp2
          go_ret3
          rw [HRR.out]
          exact ⟨none, 0, rfl, fun h => absurd h (by simp [sdL]), ext_alloc HBe3.out _⟩
        · have HPP : Hid (per k' (L ++ [(sp, sd, sq)]) (np, sd, nq) = R) := by
            have h1 := HP.out
            rw [HPN.out, hok, if_pos rfl, hNX] at h1
            exact h1
          have HOKN : Hid (sdOk (np, sd, nq) = true) := by rw [← hNX]; exact hok
          clear hok
          have HXX := Lib.hid hNX
          clear hNX
          have x0 := HB3.out.at 0 _ rfl
          have x1 := HB3.out.at 1 _ rfl
          have x2 := HB3.out.at 2 _ rfl
          have F0 := HB3.out.f 0
          have F1 := HB3.out.f 1
          have F2 := HB3.out.f 2
          have HS : Hid (SoI w (L ++ [(sp, sd, sq)]) (np, sd, nq) (.slice A2 (L.length + 1) cp2) ((((w3.setCell ⟨w.heap.size, 0, none⟩ (.int .i64 np)).setCell ⟨w.heap.size, 1, none⟩ (.int .i64 sd)).setCell ⟨w.heap.size, 2, none⟩ (.int .i64 nq)).alloc (.cells #[.int .i64 np, .int .i64 sd, .int .i64 nq] 46))) := by
            refine ⟨?_, ?_, ⟨D.put (klS (sp, sd, sq)) (.lit (.int .i64 (L.length : Int))), ?_, ?_⟩, ?_, ?_, HOKN.out, HND.out⟩
            · exact ((((HB3.out.set 0 _ (by simp)).set 1 _ (by simp)).set 2 _ (by simp)).alloc _)
            · have h := own_below (own_setFar (own_setFar (own_setFar HO3.out (g := w.heap.size) (j := 0) (.int .i64 np) (by omega)) (g := w.heap.size) (j := 1) (.int .i64 sd) (by omega)) (g := w.heap.size) (j := 2) (.int .i64 nq) (by omega)) (ext1 _ (.cells #[.int .i64 np, .int .i64 sd, .int .i64 nq] 46))
              simpa using h
            · have h := ((((HM3.out).setCell (a := ⟨w.heap.size, 0, none⟩) (by simp) (.int .i64 np)).setCell (a := ⟨w.heap.size, 1, none⟩) (by simp) (.int .i64 sd)).setCell (a := ⟨w.heap.size, 2, none⟩) (by simp) (.int .i64 nq)).alloc (.cells #[.int .i64 np, .int .i64 sd, .int .i64 nq] 46)
              simpa using h
            · exact HPush.out
            · exact ext_alloc (ext_set (ext_set (ext_set HBe3.out (Nat.le_refl _) _) (Nat.le_refl _) _) (Nat.le_refl _) _) _
            · simp; omega
          clear HB3 HM3 HO3
          have hlt3 : w.heap.size < w3.heap.size := by omega
          go_wp2
          go_roundw
          case rel => exact ⟨L ++ [(sp, sd, sq)], (np, sd, nq), k', by simp; omega, by simp [lenOf], HPP.out, HS.out⟩
          case measure => simp [lenOf]; omega
end Go.Proofs.YtpgkellmhlmjeaaGreatDoor
namespace Go.Proofs.YtpgkellmhlmjeaaGreatDoor
open Go.RowKit Go.Sort Go.Maps Go.WideMaps
/-- The place of a surd in a list; -1 if it is not there. -/
def fdS (L : List Sd) (s : Sd) : Int := if s ∈ L then (L.idxOf s : Int) else -1
theorem fdS_mem {L : List Sd} {s : Sd} (h : s ∈ L) : fdS L s = (L.idxOf s : Int) := if_pos h
theorem fdS_not {L : List Sd} {s : Sd} (h : s ∉ L) : fdS L s = -1 := if_neg h
theorem fd_step {L : List Sd} {s t : Sd} {k : Nat} (h : s ∉ L.take k) (ht : L[k]? = some t) (hne : t ≠ s) : s ∉ L.take (k + 1) := by
  rw [List.take_add_one, ht]
  simp
  exact ⟨by simpa using h, fun e => hne e.symm⟩
theorem fd_hit {L : List Sd} {s : Sd} {k : Nat} (h : s ∉ L.take k) (ht : L[k]? = some s) : fdS L s = (k : Int) := by
  have hk : k < L.length := (List.getElem?_eq_some_iff.1 ht).1
  have hm : s ∈ L := List.mem_of_getElem? ht
  rw [fdS_mem hm]
  have e : L = L.take k ++ L.drop k := (List.take_append_drop k L).symm
  have hd : L.drop k = s :: L.drop (k + 1) := by rw [List.drop_eq_getElem_cons hk]; congr 1; exact (List.getElem?_eq_some_iff.1 ht).2
  have : L.idxOf s = k := by
    rw [e, List.idxOf_append, if_neg h, hd]
    simp
    omega
  rw [this]
set_option maxRecDepth 100000 in
set_option maxHeartbeats 1000000 in
theorem l08Find_any (A : Option Addr) (c : Nat) (L : List Sd) (s : Sd) (w : World) (hx : Rd (Value.int .i64) w w.heap.size A (sdL L)) (hl : L.length ≤ 1000) :
    Calls Tryz.prog 129 #[.slice A L.length c, surdV s.1 s.2.1 s.2.2] w fun e w' => e = .returned (.int .i64 (fdS L s)) ∧ Below w.heap.size w w' := by
  have q3 := Tryz.eqGuardType46
  have q4 := Tryz.stoodInHeld46
  obtain ⟨p, d, q⟩ := s
  have hlen := sdL_length L
  have HX : Hid (Rd (Value.int .i64) (w.alloc (.cells #[.int .i64 p, .int .i64 d, .int .i64 q] 46)) w.heap.size A (sdL L)) := hx.below (ext1 _ _)
  have HB : Hid (BoxV w.heap.size [.int .i64 p, .int .i64 d, .int .i64 q] (w.alloc (.cells #[.int .i64 p, .int .i64 d, .int .i64 q] 46))) := BoxV.new w #[.int .i64 p, .int .i64 d, .int .i64 q] 46
  have HE : Hid (Below w.heap.size w (w.alloc (.cells #[.int .i64 p, .int .i64 d, .int .i64 q] 46))) := ext1 _ _
  clear hx
  unfold surdV
  go_enter Tryz.func129, Tryz.ntmps129
  go_wp2_with fail
  generalize w.alloc (.cells #[.int .i64 p, .int .i64 d, .int .i64 q] 46) = W at *
  go_loopw [5] (fun t wr => ∃ k : Nat, k ≤ L.length ∧ t = .int .i64 k ∧ Hid ((p, d, q) ∉ L.take k) ∧ ∃ n, wr = W.drewN n) (fun t _ => L.length - (intOf t).toNat)
  case atStart => exact ⟨0, by omega, rfl, (show (p, d, q) ∉ L.take 0 by simp), 0, rfl⟩
  case round =>
    obtain ⟨k, hk, rfl, HN, nn, rfl⟩ := hrel
    have x0 : W.cell? ⟨w.heap.size, 0, none⟩ = some (.int .i64 p) := HB.out.at 0 _ rfl
    have x1 : W.cell? ⟨w.heap.size, 1, none⟩ = some (.int .i64 d) := HB.out.at 1 _ rfl
    have x2 : W.cell? ⟨w.heap.size, 2, none⟩ = some (.int .i64 q) := HB.out.at 2 _ rfl
    by_cases hlt : k < L.length
    · obtain ⟨b, off, rfl, hb, hc⟩ := HX.out (by omega)
      obtain ⟨⟨y1, y2, y3⟩, hyk⟩ : ∃ x, L[k]? = some x := ⟨_, List.getElem?_eq_getElem hlt⟩
      obtain ⟨g0, g1, g2⟩ := sdL_get hyk
      have c0 := hc _ _ g0
      have c1 := hc _ _ g1
      have c2 := hc _ _ g2
      rw [← Nat.add_assoc] at c1 c2
      have HY := Lib.hid hyk
      have i0 : (0 : Int) ≤ (k : Int) := by omega
      have i1 : (k : Int) < (L.length : Int) := by omega
      clear hc g0 g1 g2 hyk
      by_cases he : (y1, y2, y3) = (p, d, q)
      · injection he with e1 e2
        injection e2 with e2 e3
        subst e1; subst e2; subst e3
        have HR := Lib.hid (fd_hit HN.out HY.out)
        clear HN HY
        go_wp2_with fail
        go_quiet (fail)
        go_wp2
        go_ret
        exact ⟨ret_int HR.out.symm, HE.out.trans ⟨rfl, rfl, rfl, Nat.le_refl _, fun _ _ => rfl⟩⟩
      · have HS := Lib.hid (fd_step HN.out HY.out he)
        have hway : (y1 == p) = false ∨ ((y1 == p) = true ∧ (y2 == d) = false) ∨ ((y1 == p) = true ∧ (y2 == d) = true ∧ (y3 == q) = false) := by
          by_cases a1 : y1 = p
          · by_cases a2 : y2 = d
            · have a3 : ¬ y3 = q := fun a3 => he (by rw [a1, a2, a3])
              exact .inr (.inr ⟨by simpa using a1, by simpa using a2, by simpa using a3⟩)
            · exact .inr (.inl ⟨by simpa using a1, by simpa using a2⟩)
          · exact .inl (by simpa using a1)
        clear he HN HY
        rcases hway with a1 | ⟨a1, a2⟩ | ⟨a1, a2, a3⟩
        all_goals
          go_wp2_with fail
          go_quiet (fail)
          go_wp2
          go_roundw
          case rel => exact ⟨k + 1, by omega, by go_num, HS.out, _, rfl⟩
          case measure => simp [intOf]; omega
    · have HR : Hid (fdS L (p, d, q) = -1) := by
        have h := HN.out
        rw [List.take_of_length_le (by omega)] at h
        exact fdS_not h
      go_wp2
      go_ret
      exact ⟨ret_int HR.out.symm, HE.out.trans ⟨rfl, rfl, rfl, Nat.le_refl _, fun _ _ => rfl⟩⟩
theorem infoSd' : (Tryz.prog.info? 46).map (fun i => (i.zero, i.size, i.bytes)) = some (some (.agg #[.int .i64 0, .int .i64 0, .int .i64 0]), 3, 24) := by kernel_rfl
end Go.Proofs.YtpgkellmhlmjeaaGreatDoor
namespace Go.Proofs.YtpgkellmhlmjeaaGreatDoor
open Go.RowKit Go.Sort Go.Maps Go.WideMaps
def hdR (R : Option (List Sd × Nat)) : List Int := (R.map headOf).getD []
def cyR (R : Option (List Sd × Nat)) : List Int := (R.map cycOf).getD []
theorem per_ok : ∀ (k : Nat) (L : List Sd) (s : Sd) (R : List Sd × Nat), sdOk s = true → (∀ x ∈ L, sdOk x = true) → per k L s = some R → ∀ x ∈ R.1, sdOk x = true
  | 0, L, s, R, _, hL, h => by
    unfold per at h
    split at h
    · injection h with h; subst h; exact hL
    · cases h
  | k + 1, L, s, R, hs, hL, h => by
    unfold per at h
    split at h
    · injection h with h; subst h; exact hL
    · split at h
      · rename_i hn
        exact per_ok k _ _ R hn (fun x hx => by
          rcases List.mem_append.1 hx with h1 | h1
          · exact hL x h1
          · rw [List.mem_singleton.1 h1]; exact hs) h
      · cases h
theorem own_full {w : World} {base : Nat} {v : Value} {xs : List Int} (h : w.ownsRow base 2 1 v xs.length (xs.map (Value.int .i64))) : ∃ A c, v = .slice A xs.length c ∧ Wr (Value.int .i64) w base A xs ∧ xs.length ≤ c ∧ c ≤ maxLen := by
  obtain ⟨_, A, c, e, g⟩ := Wr.of_own h
  refine ⟨A, c, e, g, ?_⟩
  rcases h.2 with ⟨e2, h0⟩ | ⟨g', cap, cur, e2, _, _, hc, hm, _⟩
  · rw [e] at e2
    injection e2 with _ _ e3
    rw [e3, h0]
    exact ⟨Nat.le_refl _, Nat.zero_le _⟩
  · rw [e] at e2
    injection e2 with _ _ e3
    rw [e3]
    exact ⟨hc, hm⟩
/-- What a call returns that makes a head and a period. -/
def RetPd (w : World) (R : Option (List Sd × Nat)) (x : Value) (e : Ending) (w' : World) : Prop :=
  ∃ A1 c1 A2 c2, e = .returned (.tuple #[.slice A1 (hdR R).length c1, .slice A2 (cyR R).length c2, x]) ∧ Wr (Value.int .i64) w' w.heap.size A1 (hdR R) ∧ Wr (Value.int .i64) w' w.heap.size A2 (cyR R) ∧ ((hdR R).length ≤ c1 ∧ (cyR R).length ≤ c2 ∧ c1 ≤ maxLen ∧ c2 ≤ maxLen) ∧ Below w.heap.size w w'
/-- Two slices of integers of the call's own. -/
structure TwoI (w : World) (base : Nat) (h c : List Int) (v1 v2 : Value) (wr : World) : Prop where
  own1 : wr.ownsRow base 2 1 v1 h.length (h.map (Value.int .i64))
  own2 : wr.ownsRow base 2 1 v2 c.length (c.map (Value.int .i64))
  apart : v1.ownBlock = none ∨ v1.ownBlock ≠ v2.ownBlock
  below : Below w.heap.size w wr
  lt : base ≤ wr.heap.size
theorem TwoI.next {w : World} {base : Nat} {h c : List Int} {v1 v2 : Value} {wr w2 : World} (t : TwoI w base h c v1 v2 wr) (hb : Below wr.heap.size wr w2) : TwoI w base h c v1 v2 w2 :=
  ⟨own_below t.own1 hb, own_below t.own2 hb, t.apart, ext_trans t.below hb, Nat.le_trans t.lt hb.size⟩
theorem TwoI.push1 {w : World} {base : Nat} {h : List Int} {v1 : Value} {wr : World} (t : TwoI w base h [] v1 (.slice none 0 0) wr) (hbase : w.heap.size ≤ base) {a : Int} (v' : Value) (w3 : World) {o : Obj}
    (hown3 : w3.ownsRow base 2 1 v' (h.length + 1) (h.map (Value.int .i64) ++ [.int .i64 a])) (hg : (wr.alloc o).grownBy w3 v1.ownBlock) : TwoI w base (h ++ [a]) [] v' (.slice none 0 0) w3 := by
  refine ⟨by simpa using hown3, own_nil, ?_, below_grown (ext_alloc t.below o) (t.own1.alloc o) hbase hg, ?_⟩
  · rcases Option.eq_none_or_eq_some v'.ownBlock with e | ⟨g, e⟩
    · exact .inl e
    · right
      rw [e]
      intro h
      cases h
  · have := hg.size
    have := t.lt
    simp at *
    omega
theorem TwoI.push2 {w : World} {base : Nat} {h c : List Int} {v1 v2 : Value} {wr : World} (t : TwoI w base h c v1 v2 wr) (hbase : w.heap.size ≤ base) {a : Int} (v' : Value) (w3 : World) {o : Obj}
    (hown3 : w3.ownsRow base 2 1 v' (c.length + 1) (c.map (Value.int .i64) ++ [.int .i64 a])) (hg : (wr.alloc o).grownBy w3 v2.ownBlock) (hat : v'.ownBlock = v2.ownBlock ∨ v'.ownBlock = some (wr.heap.size + 1)) : TwoI w base h (c ++ [a]) v1 v' w3 := by
  refine ⟨(t.own1.alloc o).kept hg t.apart, by simpa using hown3, ?_, below_grown (ext_alloc t.below o) (t.own2.alloc o) hbase hg, ?_⟩
  · rcases t.apart with e | e
    · exact .inl e
    · right
      rcases hat with h | h
      · rw [h]; exact e
      · rw [h]
        intro e'
        have := (t.own1.lt _ e').2
        omega
  · have := hg.size
    have := t.lt
    simp at *
    omega
theorem take_map {L : List Sd} {k : Nat} {s : Sd} (h : L[k]? = some s) : (L.take (k + 1)).map flS = (L.take k).map flS ++ [flS s] := by
  rw [List.take_add_one, h]; simp
theorem dropk_map {L : List Sd} {k i : Nat} {s : Sd} (h : L[k]? = some s) (hi : i ≤ k) : ((L.take (k + 1)).drop i).map flS = ((L.take k).drop i).map flS ++ [flS s] := by
  have hk : k < L.length := (List.getElem?_eq_some_iff.1 h).1
  rw [List.take_add_one, h, List.drop_append_of_le_length (by rw [List.length_take]; omega)]
  simp
set_option maxRecDepth 100000 in
set_option maxHeartbeats 4000000 in
theorem periodOf_any (p d q : Int) (w : World) (h : surdB p d q = true) :
    Calls Tryz.prog 102 #[surdV p d q] w (RetPd w (perOf (p, d, q)) (.bool (perOf (p, d, q)).isSome)) := by
  obtain ⟨tj, hj, hy0, hy1, hy2⟩ := info_parts info64
  have HJ := Lib.hid hj
  clear hj
  have HSO := Lib.hid (fun W : World => surdsOf_any p d q W h)
  have HOKA : Hid (∀ L i, perOf (p, d, q) = some (L, i) → (∀ x ∈ L, sdOk x = true) ∧ i < L.length ∧ L.length ≤ 400) := fun L i hR =>
    ⟨per_ok 400 [] (p, d, q) (L, i) h (by simp) hR, by have := per_facts 400 [] (p, d, q) (L, i) hR; simpa using this⟩
  clear h
  generalize perOf (p, d, q) = R at *
  unfold surdV at *
  go_enter Tryz.func102, Tryz.ntmps102
  go_wp2_with fail
  refine (HSO.out _).mono ?_
  rintro e w1 ⟨A, c, rfl, hw1, hb1⟩
  rcases Option.eq_none_or_eq_some R with hR | ⟨⟨L, i⟩, hR⟩
  · subst hR
    go_wp2
    go_ret3
    exact ⟨none, 0, none, 0, rfl, fun h => absurd h (by simp [hdR]), fun h => absurd h (by simp [cyR]), ⟨by simp [hdR], by simp [cyR], Nat.zero_le _, Nat.zero_le _⟩, ext_trans (ext1 _ _) hb1⟩
  · subst hR
    obtain ⟨hok, hiL, hL4⟩ := HOKA.out L i rfl
    have HOK := Lib.hid hok
    have HW := Lib.hid hw1.rd
    have HB := Lib.hid (ext_trans (ext1 w (.cells #[.int .i64 p, .int .i64 d, .int .i64 q] 46)) hb1)
    clear HOKA hok hw1
    simp only [Option.getD_some, Option.isSome_some] at HW ⊢
    go_wp2_with fail
    go_loopw [22, 8, 9] (fun t v1 v2 wr => ∃ (k : Nat), k ≤ L.length ∧ t = .int .i64 k ∧ (k ≤ i → v2 = .slice none 0 0) ∧ Hid (TwoI w1 w1.heap.size ((L.take (min k i)).map flS) (((L.take k).drop i).map flS) v1 v2 wr)) (fun t _ _ _ => L.length - (intOf t).toNat)
    case atStart => exact ⟨0, by omega, rfl, fun _ => rfl, by simpa using ⟨own_nil, own_nil, .inl rfl, Below.refl _ _, Nat.le_refl _⟩⟩
    case round =>
      obtain ⟨k, hk, rfl, hv2, HV⟩ := hrel
      have HV2 := Lib.hid hv2
      clear hv2
      by_cases hlt : k < L.length
      · have hlen := sdL_length L
        obtain ⟨b, off, rfl, hb, hc⟩ := HW.out (by omega)
        obtain ⟨⟨y1, y2, y3⟩, hyk⟩ : ∃ x, L[k]? = some x := ⟨_, List.getElem?_eq_getElem hlt⟩
        obtain ⟨g0, g1, g2⟩ := sdL_get hyk
        have hbb := HV.out.below
        have c0 := (hbb.cell (p := ⟨b, off + k * 3, none⟩) hb).trans (hc _ _ g0)
        have c1 := (hbb.cell (p := ⟨b, off + (k * 3 + 1), none⟩) hb).trans (hc _ _ g1)
        have c2 := (hbb.cell (p := ⟨b, off + (k * 3 + 2), none⟩) hb).trans (hc _ _ g2)
        rw [← Nat.add_assoc] at c1 c2
        have HFl := Lib.hid (fun W : World => floorSurd_any y1 y2 y3 W (HOK.out _ (List.mem_of_getElem? hyk)))
        have i0 : (0 : Int) ≤ (k : Int) := by omega
        have i1 : (k : Int) < (L.length : Int) := by omega
        clear hc g0 g1 g2 hlen hbb
        have hzz : wr.heap.size < (wr.alloc (.cells #[.int .i64 y1, .int .i64 y2, .int .i64 y3] 46)).heap.size := by simp
        by_cases hki : k < i
        · have HT : Hid ((L.take (min (k + 1) i)).map flS = (L.take (min k i)).map flS ++ [flS (y1, y2, y3)] ∧ ((L.take (k + 1)).drop i).map flS = [] ∧ ((L.take k).drop i).map flS = []) := by
            refine ⟨by rw [show min (k + 1) i = k + 1 by omega, show min k i = k by omega]; exact take_map hyk, ?_, ?_⟩
            · rw [List.drop_eq_nil_of_le (by rw [List.length_take]; omega)]; rfl
            · rw [List.drop_eq_nil_of_le (by rw [List.length_take]; omega)]; rfl
          have e2 := HV2.out (by omega)
          subst e2
          have hll : ((L.take (min k i)).map flS).length ≤ 400 := by rw [List.length_map, List.length_take]; omega
          clear hyk HV2
          generalize flS (y1, y2, y3) = a at *
          rw [HT.out.2.2] at HV
          generalize (L.take (min k i)).map flS = X at *
          go_wp2_with fail
          refine (HFl.out _).mono ?_
          rintro e w3 ⟨rfl, hb3⟩
          have V3 := Lib.hid (HV.out.next (ext_trans (ext1 wr (.cells #[.int .i64 y1, .int .i64 y2, .int .i64 y3] 46)) hb3))
          have hown := V3.out.own1
          have hbz := V3.out.lt
          go_wp2_with (at_builtin; refine wpList_append_own_at _ rfl _ _ 24 rfl w1.heap.size 2 tj (.int .i64 0) 1 8 Tryz.underlying24 HJ.out hy0 hy1 hy2 rfl (by decide) _ _ _ rfl (hown.alloc _) ⟨w3.heap.size, 0, none⟩ 1 1 [.int .i64 a] rfl rfl (cell_one_new _ _ _) (by simp [Value.oneCell']) (by unfold maxLen; omega) (by omega) (by simp; omega) ?_)
          intro v' w4 hown3 hgrow _ hat
          have V4 := Lib.hid (V3.out.push1 (Nat.le_refl _) _ _ hown3 hgrow)
          clear hown3 hgrow hat hown V3
          go_wp2
          go_roundw
          case rel => exact ⟨k + 1, by omega, by go_num, fun _ => rfl, by rw [HT.out.1, HT.out.2.1]; exact V4.out⟩
          case measure => simp [intOf]; omega
        · have HT : Hid ((L.take (min (k + 1) i)).map flS = (L.take (min k i)).map flS ∧ ((L.take (k + 1)).drop i).map flS = ((L.take k).drop i).map flS ++ [flS (y1, y2, y3)]) := by
            refine ⟨by rw [show min (k + 1) i = i by omega, show min k i = i by omega], dropk_map hyk (by omega)⟩
          have hll : (((L.take k).drop i).map flS).length ≤ 400 := by rw [List.length_map, List.length_drop, List.length_take]; omega
          clear hyk HV2
          generalize flS (y1, y2, y3) = a at *
          generalize (L.take (min k i)).map flS = X at *
          generalize ((L.take k).drop i).map flS = Y at *
          go_wp2_with fail
          refine (HFl.out _).mono ?_
          rintro e w3 ⟨rfl, hb3⟩
          have V3 := Lib.hid (HV.out.next (ext_trans (ext1 wr (.cells #[.int .i64 y1, .int .i64 y2, .int .i64 y3] 46)) hb3))
          have hown := V3.out.own2
          have hbz := V3.out.lt
          go_wp2_with (at_builtin; refine wpList_append_own_at _ rfl _ _ 24 rfl w1.heap.size 2 tj (.int .i64 0) 1 8 Tryz.underlying24 HJ.out hy0 hy1 hy2 rfl (by decide) _ _ _ rfl (hown.alloc _) ⟨w3.heap.size, 0, none⟩ 1 1 [.int .i64 a] rfl rfl (cell_one_new _ _ _) (by simp [Value.oneCell']) (by unfold maxLen; omega) (by omega) (by simp; omega) ?_)
          intro v' w4 hown3 hgrow _ hat
          have V4 := Lib.hid (V3.out.push2 (Nat.le_refl _) _ _ hown3 hgrow hat)
          clear hown3 hgrow hat hown V3
          go_wp2
          go_roundw
          case rel => exact ⟨k + 1, by omega, by go_num, fun h => absurd h (by omega), by rw [HT.out.1, HT.out.2]; exact V4.out⟩
          case measure => simp [intOf]; omega
      · obtain rfl : k = L.length := by omega
        have HE : Hid ((L.take (min L.length i)).map flS = hdR (some (L, i)) ∧ ((L.take L.length).drop i).map flS = cyR (some (L, i))) := by
          refine ⟨?_, ?_⟩
          · rw [show min L.length i = i by omega]; rfl
          · rw [List.take_of_length_le (Nat.le_refl _)]; rfl
        rw [HE.out.1, HE.out.2] at HV
        obtain ⟨A1, c1, rfl, g1, p1, p2⟩ := own_full HV.out.own1
        obtain ⟨A2, c2, rfl, g2, p3, p4⟩ := own_full HV.out.own2
        have hs := HB.out.size
        have G1 := Lib.hid (g1.more hs)
        have G2 := Lib.hid (g2.more hs)
        clear g1 g2 HV2
        go_wp2
        go_ret3
        exact ⟨A1, c1, A2, c2, rfl, G1.out, G2.out, ⟨p1, p3, p2, p4⟩, ext_trans HB.out HV.out.below⟩
end Go.Proofs.YtpgkellmhlmjeaaGreatDoor
namespace Go.Proofs.YtpgkellmhlmjeaaGreatDoor
open Go.RowKit Go.Sort Go.Maps Go.WideMaps
def pdR (s : Sd) : Option (List Sd × Nat) := if sdOk s = true then perOf s else none
def pdC (s : Sd) : Int := if sdOk s = true then (if (perOf s).isSome = true then 0 else 5) else 1
theorem pdR_facts {s : Sd} {L : List Sd} {i : Nat} (h : pdR s = some (L, i)) : sdOk s = true ∧ perOf s = some (L, i) ∧ pdC s = 0 ∧ i < L.length ∧ L.length ≤ 400 := by
  unfold pdR at h
  split at h
  · rename_i hs
    have := per_facts 400 [] s (L, i) h
    refine ⟨hs, h, ?_, by simpa using this⟩
    simp [pdC, hs, h]
  · cases h
theorem pdR_none {s : Sd} (h : pdR s = none) : pdC s ≠ 0 := by
  unfold pdR at h
  unfold pdC
  split
  · rename_i hs
    rw [if_pos hs] at h
    simp [h]
  · omega
set_option maxHeartbeats 1000000 in
theorem iPeriodOf_any (p d q : Int) (w : World) :
    Calls Tryz.prog 59 #[surdV p d q] w (RetPd w (pdR (p, d, q)) (.int .i64 (pdC (p, d, q)))) := by
  have HV := Lib.hid (fun W : World => ValidSurd_any p d q W)
  have HOK : Hid (sdOk (p, d, q) = surdB p d q) := rfl
  cases hs : surdB p d q
  · have e1 : pdR (p, d, q) = none := by rw [pdR, HOK.out, hs]; rfl
    have e2 : pdC (p, d, q) = 1 := by rw [pdC, HOK.out, hs]; rfl
    rw [e1, e2]
    clear e1 e2
    rw [hs] at HV
    clear hs HOK
    unfold surdV at *
    go_enter Tryz.func59, Tryz.ntmps59
    go_wp2_with fail
    refine (HV.out _).mono ?_
    rintro e w1 ⟨rfl, hb1⟩
    go_wp2
    go_ret3
    exact ⟨none, 0, none, 0, rfl, fun h => absurd h (by simp [hdR]), fun h => absurd h (by simp [cyR]), ⟨by simp [hdR], by simp [cyR], Nat.zero_le _, Nat.zero_le _⟩, ext_trans (ext1 _ _) hb1⟩
  · have e1 : pdR (p, d, q) = perOf (p, d, q) := by rw [pdR, HOK.out, hs]; rfl
    have e2 : pdC (p, d, q) = if (perOf (p, d, q)).isSome = true then 0 else 5 := by rw [pdC, HOK.out, hs]; rfl
    have HP := Lib.hid (fun W : World => periodOf_any p d q W hs)
    rw [e1, e2]
    clear e1 e2
    rw [hs] at HV
    clear hs HOK
    generalize perOf (p, d, q) = R at *
    obtain ⟨cd, hcd⟩ : ∃ cd, (if R.isSome = true then (0 : Int) else 5) = cd := ⟨_, rfl⟩
    rw [hcd]
    have HCD : Hid (∀ b, R.isSome = b → cd = if b = true then 0 else 5) := fun b hb => by rw [← hcd, hb]
    clear hcd
    unfold surdV at *
    go_enter Tryz.func59, Tryz.ntmps59
    go_wp2_with fail
    refine (HV.out _).mono ?_
    rintro e w1 ⟨rfl, hb1⟩
    obtain ⟨hc1, hf1⟩ := bcell hb1
    have hz1 : w.heap.size < w1.heap.size := by have := hb1.size; simp at this; omega
    have HB1 := Lib.hid (ext_trans (ext1 w (.cells #[.int .i64 p, .int .i64 d, .int .i64 q] 46)) hb1)
    go_wp2_with fail
    refine (HP.out _).mono ?_
    rintro e w2 ⟨A1, c1, A2, c2, rfl, g1, g2, hcp, hb2⟩
    have G1 := Lib.hid (g1.more HB1.out.size)
    have G2 := Lib.hid (g2.more HB1.out.size)
    have HB2 := Lib.hid (ext_trans HB1.out hb2)
    have HCP := Lib.hid hcp
    clear g1 g2 hb2 hb1 HB1 hc1 hf1 hcp
    cases hR : R.isSome
    · have hn : R = none := by cases R <;> simp at hR ⊢
      subst hn
      obtain rfl : cd = 5 := HCD.out false rfl
      clear HCD
      go_wp2
      go_ret3
      exact ⟨none, 0, none, 0, rfl, fun h => absurd h (by simp [hdR]), fun h => absurd h (by simp [cyR]), ⟨by simp [hdR], by simp [cyR], Nat.zero_le _, Nat.zero_le _⟩, HB2.out⟩
    · obtain rfl : cd = 0 := HCD.out true hR
      clear hR HCD
      go_wp2
      go_ret3
      exact ⟨A1, c1, A2, c2, rfl, G1.out, G2.out, HCP.out, HB2.out⟩
end Go.Proofs.YtpgkellmhlmjeaaGreatDoor
namespace Go.Proofs.YtpgkellmhlmjeaaGreatDoor
open Go.RowKit Go.Sort
theorem mtx_unS : ∀ (ts : List Int) (p q x y : Int), mtx ts p q x y = unS ts p q x y
  | [], _, _, _, _ => rfl
  | t :: ts, p, q, x, y => by
    unfold mtx unS
    rw [mtx_unS ts]
/-- The state whose Q is 1. -/
theorem red_one {d : Int} (hd : NoSq d) {s : Sd} (h : Red d s) (hq : s.2.2 = 1) : s = (rtI d, d, 1) ∧ nxS s = fsS d := by
  obtain ⟨p, D, q⟩ := s
  obtain ⟨k1, k2, k3, k4, k5, k6, k7⟩ := id h
  dsimp only at *
  obtain rfl : p = rtI d := by omega
  subst k1 hq
  refine ⟨rfl, ?_⟩
  have e1 : flS (rtI D, D, 1) = rtI D + rtI D := by
    unfold flS
    dsimp only
    rw [if_pos (by decide), Int.ediv_one]
  have e2 : npS (rtI D, D, 1) = rtI D := by unfold npS; rw [e1]; dsimp only; omega
  unfold nxS fsS
  rw [e2]
  unfold nqS
  rw [e2]
  dsimp only
  rw [Int.tdiv_one]
theorem red_root {d : Int} (hd : NoSq d) : Red d (rtI d, d, 1) := by
  obtain ⟨r1, r2, r3, r4⟩ := hd.rt
  exact ⟨rfl, r1, Int.le_refl _, Int.le_refl _, by dsimp only; omega, by dsimp only; omega, Int.one_dvd _⟩
end Go.Proofs.YtpgkellmhlmjeaaGreatDoor
