/- Surds up to the first that comes again: the program's walk. No condition but those that each theorem names. -/
import Derived.Test.YtkimmahmbacjpaaMuR
import Derived.Test.YtkimmahmbacjpaaConvW
namespace Go.Proofs.Ytkimmahmbacjpaa
open Go.RowKit Go.Sort Go.Maps Go.WideMaps

theorem infoSd : (Try.prog.info? 34).map (fun i => (i.zero, i.size, i.bytes)) = some (some (.agg #[.int .i64 0, .int .i64 0, .int .i64 0]), 3, 24) := by kernel_rfl
theorem zeroInt (w : World) : (zeroValue 3).run Try.prog w = .ok (.int .i64 0) w := by kernel_rfl
theorem grown_of {w w' : World} (hb : Below w.heap.size w w') : w.grownBy w' none := ⟨hb.os, hb.tape, hb.output, hb.size, fun k hk _ => hb.block k hk⟩
/-- What a call returns that goes along surds. -/
def RetSo (w : World) (R : Option (List Sd × Nat)) (e : Ending) (w' : World) : Prop :=
  ∃ A c, e = .returned (.tuple #[.slice A (R.getD ([], 0)).1.length c, .int .i64 ((R.getD ([], 0)).2 : Int), .bool R.isSome]) ∧ Wr (Value.int .i64) w' w.heap.size A (sdL (R.getD ([], 0)).1) ∧ Below w.heap.size w w'
def lenOf : Value → Nat
  | .slice _ n _ => n
  | _ => 0
/-- What holds while the program goes along surds: the box, the list, the map. -/
structure SoI (w : World) (L : List Sd) (s : Sd) (v : Value) (wr : World) : Prop where
  box : BoxV w.heap.size [.int .i64 s.1, .int .i64 s.2.1, .int .i64 s.2.2] wr
  own : wr.ownsRow (w.heap.size + 2) 34 3 v L.length ((sdL L).map (Value.int .i64))
  map : ∃ D, wr.ownsMap Try.prog 34 (plainElem Try.prog 3) (w.heap.size + 1) L.length D ∧ MpS L D
  below : Below w.heap.size w wr
  lt : w.heap.size + 2 ≤ wr.heap.size
  ok : sdOk s = true ∧ L.Nodup
theorem SoI.next {w : World} {L : List Sd} {s : Sd} {v : Value} {wr w2 : World} (h : SoI w L s v wr) (hb : Below wr.heap.size wr w2) : SoI w L s v w2 := by
  obtain ⟨D, hm, hd⟩ := h.map
  exact ⟨h.box.next hb, own_below h.own hb, ⟨D, hm.kept (grown_of hb) (by simp), hd⟩, ext_trans h.below hb, Nat.le_trans h.lt hb.size, h.ok⟩
set_option maxRecDepth 100000 in
set_option maxHeartbeats 4000000 in
theorem surdsOf_any (p d q : Int) (w : World) (h : surdB p d q = true) :
    Calls Try.prog 121 #[surdV p d q] w (RetSo w (perOf (p, d, q))) := by
  obtain ⟨ti, hi, hz0, hz1, hz2⟩ := info_parts infoSd
  have HI := Lib.hid hi
  clear hi
  have hmm := @run_makeMap Try.prog
  obtain ⟨R, hR⟩ : ∃ R, perOf (p, d, q) = R := ⟨_, rfl⟩
  rw [hR]
  have HR : Hid (per 400 [] (p, d, q) = R) := hR
  have HH := Lib.hid h
  clear hR h
  unfold surdV
  go_enter Try.func121, Try.ntmps121
  go_wp2_with fail
  have HV0 : Hid (SoI w [] (p, d, q) (.slice none 0 0) ((w.alloc (.cells #[.int .i64 p, .int .i64 d, .int .i64 q] 34)).alloc (.map #[] 0))) := by
    have hm := World.ownsMap_made (H := Unit) (w.alloc (.cells #[.int .i64 p, .int .i64 d, .int .i64 q] 34)) Try.prog 34 (plainElem Try.prog 3)
    exact ⟨(BoxV.new w #[.int .i64 p, .int .i64 d, .int .i64 q] 34).alloc _, own_nil, ⟨.map [], by simpa using hm, MpS.nil_⟩, ext_alloc (ext1 _ _) _, by simp, HH.out, by simp⟩
  generalize (w.alloc (.cells #[.int .i64 p, .int .i64 d, .int .i64 q] 34)).alloc (.map #[] 0) = W0 at *
  clear hmm HH
  go_loopw [5] (fun v wr => ∃ (L : List Sd) (s : Sd) (k : Nat), L.length + k = 400 ∧ lenOf v = L.length ∧ Hid (per k L s = R) ∧ Hid (SoI w L s v wr)) (fun v _ => 401 - lenOf v)
  case atStart => exact ⟨[], (p, d, q), 400, rfl, rfl, HR.out, HV0.out⟩
  case round =>
    obtain ⟨L, s, k, hk, hlen, HP, HV⟩ := hrel
    clear HR HV0
    have HLen := Lib.hid hlen
    clear hlen
    obtain ⟨sp, sd, sq⟩ := s
    have HOK := Lib.hid HV.out.ok.1
    have x0 := HV.out.box.at 0 _ rfl
    have x1 := HV.out.box.at 1 _ rfl
    have x2 := HV.out.box.at 2 _ rfl
    obtain ⟨D, hmap, hD⟩ := HV.out.map
    have HM := Lib.hid hmap
    have HK : Hid (keyOf Try.prog 34 (.agg #[.int .i64 sp, .int .i64 sd, .int .i64 sq]) = some (klS (sp, sd, sq))) := klS_key HOK.out
    by_cases hin : (sp, sd, sq) ∈ L
    · obtain ⟨g1, g2⟩ := hD.2 _ HOK.out
      have HHas : Hid (has D (klS (sp, sd, sq)) = true) := by unfold Hid; rw [g1]; simpa using hin
      have HAt := Lib.hid (g2 hin (.lit (.int .i64 0)))
      have HRR : Hid (R = some (L, L.idxOf (sp, sd, sq))) := by
        have := HP.out
        unfold Hid
        rw [← this]
        cases k <;> simp [per, hin]
      clear g1 g2 hD hmap hin
      go_wp2_with (at_lookup; refine wpList_lookup_own_ok_int _ rfl _ _ 166 rfl _ _ .i64 keyedSurd Try.underlying166 Try.underlying3 (zeroInt _) (w.heap.size + 1) _ D rfl HM.out _ _ rfl HK.out ?_; intro c hat hwc; refine Hid.out ?_)
      refine Lib.hid ?_
      rw [HHas.out]
      have HC : Hid (c = (L.idxOf (sp, sd, sq) : Int)) := by
        have := HAt.out.symm.trans hat
        injection this with this
        injection this with _ this
        exact this.symm
      clear hat hwc
      go_wp2
      go_ret3
      rw [HRR.out]
      obtain ⟨hn, A, cp, rfl, hw⟩ := Wr.of_ownS HV.out.own
      exact ⟨A, cp, by rw [HC.out]; rfl, hw.more (by omega), HV.out.below⟩
    · obtain ⟨g1, _⟩ := hD.2 _ HOK.out
      have HHas : Hid (has D (klS (sp, sd, sq)) = false) := by unfold Hid; rw [g1]; simpa using hin
      have HPush : Hid (MpS (L ++ [(sp, sd, sq)]) (D.put (klS (sp, sd, sq)) (.lit (.int .i64 (L.length : Int))))) := hD.push HOK.out hin
      have HND : Hid ((L ++ [(sp, sd, sq)]).Nodup) := by
        unfold Hid
        rw [List.nodup_append]
        exact ⟨HV.out.ok.2, by simp, fun a ha b hb => by
          rw [List.mem_singleton.1 hb]
          intro e
          exact hin (e ▸ ha)⟩
      have HIN := Lib.hid hin
      clear g1 hD hmap hin
      obtain ⟨hn0, A0, cp0, ev, _⟩ := Wr.of_ownS HV.out.own
      subst ev
      clear hn0
      have hL400 : L.length ≤ 400 := by omega
      by_cases h4 : L.length = 400
      · have HRR : Hid (R = none) := by
          obtain rfl : k = 0 := by omega
          have := HP.out
          unfold Hid
          rw [← this]
          simp [per, HIN.out]
        have t4 : ((L.length : Int) == 400) = true := by simpa using (by omega : (L.length : Int) = 400)
        have HB := Lib.hid HV.out.below
        clear h4
        go_wp2_with (at_lookup; refine wpList_lookup_own_ok_int _ rfl _ _ 166 rfl _ _ .i64 keyedSurd Try.underlying166 Try.underlying3 (zeroInt _) (w.heap.size + 1) _ D rfl HM.out _ _ rfl HK.out ?_; intro c hat hwc; refine Hid.out ?_)
        refine Lib.hid ?_
        rw [HHas.out]
        clear hat hwc
        go_wp2
        go_ret3
        rw [HRR.out]
        exact ⟨none, 0, rfl, fun h => absurd h (by simp [sdL]), HB.out⟩
      · obtain ⟨k', rfl⟩ : ∃ k', k = k' + 1 := ⟨k - 1, by omega⟩
        have t4 : ((L.length : Int) == 400) = false := by simpa using (by omega : (L.length : Int) ≠ 400)
        have HPN : Hid (per (k' + 1) L (sp, sd, sq) = if sdOk (nxS (sp, sd, sq)) = true then per k' (L ++ [(sp, sd, sq)]) (nxS (sp, sd, sq)) else none) := by
          unfold Hid
          rw [per, if_neg HIN.out]
        have HNX := Lib.hid (fun W : World => nextSurd_any sp sd sq W HOK.out)
        have hNX : Hid (nxS (sp, sd, sq) = (npS (sp, sd, sq), sd, nqS (sp, sd, sq))) := rfl
        clear h4
        go_wp2_with (at_lookup; refine wpList_lookup_own_ok_int _ rfl _ _ 166 rfl _ _ .i64 keyedSurd Try.underlying166 Try.underlying3 (zeroInt _) (w.heap.size + 1) _ D rfl HM.out _ _ rfl HK.out ?_; intro c hat hwc; refine Hid.out ?_)
        refine Lib.hid ?_
        rw [HHas.out]
        clear hat hwc
        have hvi : plainElem (H := Unit) Try.prog 3 (.int .i64 (L.length : Int)) = some (.lit (.int .i64 (L.length : Int)), []) := plainElem_int Try.underlying3 (wf64 (by omega) (by omega))
        have HVI := Lib.hid hvi
        clear hvi
        go_wp2_with (at_mapUpdate; refine wpList_mapUpdate_own _ rfl _ _ _ 166 rfl _ _ keyedSurd Try.underlying166 _ (w.heap.size + 1) L.length D rfl HM.out (by unfold maxLen; omega) _ _ _ rfl rfl HK.out _ [] HVI.out ?_; intro w1 hown1 hgr1; refine Hid.out ?_)
        refine Lib.hid ?_
        have HB1 : Hid (BoxV w.heap.size [.int .i64 sp, .int .i64 sd, .int .i64 sq] w1) := HV.out.box.grown hgr1 (by intro e; injection e; omega)
        have HO1 : Hid (w1.ownsRow (w.heap.size + 2) 34 3 (.slice A0 L.length cp0) L.length ((sdL L).map (Value.int .i64))) := HV.out.own.kept hgr1 (.inr (own_far HV.out.own (by omega)))
        have HBe1 : Hid (Below w.heap.size w w1) := HV.out.below.grown hgr1 HV.out.below.size (fun b hb => by injection hb with hb; omega)
        have hsz1 : w.heap.size + 2 ≤ w1.heap.size := Nat.le_trans HV.out.lt hgr1.size
        have HM1 := Lib.hid hown1
        clear hown1 hgr1 x0 x1 x2 HM HV
        have x0 := HB1.out.at 0 _ rfl
        have x1 := HB1.out.at 1 _ rfl
        have x2 := HB1.out.at 2 _ rfl
        have hown := HO1.out
        go_wp2_with (at_builtin; refine wpList_append_own _ rfl _ _ 115 rfl (w.heap.size + 2) 34 ti (.agg #[.int .i64 0, .int .i64 0, .int .i64 0]) 3 24 Try.underlying115 HI.out hz0 hz1 hz2 rfl (by decide) _ _ _ rfl (hown.alloc _) ⟨w1.heap.size, 0, none⟩ 1 1 [.int .i64 sp, .int .i64 sd, .int .i64 sq] rfl rfl ?c1 ?c2 ?c3 ?c4 ?c5 ?_)
        case c1 => exact news_row w1 _ _ rfl
        case c2 => simp [Value.oneCell']
        case c3 => unfold maxLen; omega
        case c4 => omega
        case c5 => simp; omega
        intro v2 w2 hown2 hgr2 _
        refine Hid.out ?_
        refine Lib.hid ?_
        have hne0 : (Value.slice A0 L.length cp0).ownBlock ≠ some w.heap.size := own_far HO1.out (by omega)
        have hne1 : (Value.slice A0 L.length cp0).ownBlock ≠ some (w.heap.size + 1) := own_far HO1.out (by omega)
        have HB2 : Hid (BoxV w.heap.size [.int .i64 sp, .int .i64 sd, .int .i64 sq] w2) := (HB1.out.alloc _).grown hgr2 hne0
        have HM2 : Hid (w2.ownsMap (H := Unit) Try.prog 34 (plainElem Try.prog 3) (w.heap.size + 1) (L.length + 1) (D.put (klS (sp, sd, sq)) (.lit (.int .i64 (L.length : Int))))) := (HM1.out.alloc _).kept hgr2 (fun e => hne1 e.symm)
        have HBe2 : Hid (Below w.heap.size w w2) := below_grown (ext_alloc HBe1.out _) (HO1.out.alloc _) (by omega) hgr2
        have hsz2 : w.heap.size + 2 ≤ w2.heap.size := by have := hgr2.size; simp at this; omega
        have HO2 : Hid (w2.ownsRow (w.heap.size + 2) 34 3 v2 (L.length + 1) ((sdL (L ++ [(sp, sd, sq)])).map (Value.int .i64))) := by
          unfold Hid
          rw [sdL_snoc]
          simpa using hown2
        clear hown hown2 hgr2 hne0 hne1 HB1 HM1 HBe1 HO1 x0 x1 x2
        have x0 := HB2.out.at 0 _ rfl
        have x1 := HB2.out.at 1 _ rfl
        have x2 := HB2.out.at 2 _ rfl
        obtain ⟨hn2, A2, cp2, rfl, _⟩ := Wr.of_ownS HO2.out
        clear hn2
        go_wp2_with fail
        refine (HNX.out _).mono ?_
        rintro e w3 ⟨rfl, hb3⟩
        have HB3 := Lib.hid (HB2.out.next hb3)
        have HO3 := Lib.hid (own_below HO2.out hb3)
        have HM3 := Lib.hid (HM2.out.kept (grown_of hb3) (by simp))
        have HBe3 := Lib.hid (ext_trans HBe2.out hb3)
        have hsz3 : w.heap.size + 2 ≤ w3.heap.size := Nat.le_trans hsz2 hb3.size
        clear HB2 HO2 HM2 HBe2 hb3 x0 x1 x2
        generalize hNP : npS (sp, sd, sq) = np at *
        generalize hNQ : nqS (sp, sd, sq) = nq at *
        clear hNP hNQ
        cases hok : sdOk (nxS (sp, sd, sq))
        · have HRR : Hid (R = none) := by
            have h1 := HP.out
            rw [HPN.out, hok] at h1
            exact h1.symm
          clear hok
          go_wp2
          go_ret3
          rw [HRR.out]
          exact ⟨none, 0, rfl, fun h => absurd h (by simp [sdL]), ext_alloc HBe3.out _⟩
        · have HPP : Hid (per k' (L ++ [(sp, sd, sq)]) (np, sd, nq) = R) := by
            have h1 := HP.out
            rw [HPN.out, hok, if_pos rfl, hNX] at h1
            exact h1
          have HOKN : Hid (sdOk (np, sd, nq) = true) := by rw [← hNX]; exact hok
          clear hok
          have HXX := Lib.hid hNX
          clear hNX
          have x0 := HB3.out.at 0 _ rfl
          have x1 := HB3.out.at 1 _ rfl
          have x2 := HB3.out.at 2 _ rfl
          have F0 := HB3.out.f 0
          have F1 := HB3.out.f 1
          have F2 := HB3.out.f 2
          have HS : Hid (SoI w (L ++ [(sp, sd, sq)]) (np, sd, nq) (.slice A2 (L.length + 1) cp2) ((((w3.setCell ⟨w.heap.size, 0, none⟩ (.int .i64 np)).setCell ⟨w.heap.size, 1, none⟩ (.int .i64 sd)).setCell ⟨w.heap.size, 2, none⟩ (.int .i64 nq)).alloc (.cells #[.int .i64 np, .int .i64 sd, .int .i64 nq] 34))) := by
            refine ⟨?_, ?_, ⟨D.put (klS (sp, sd, sq)) (.lit (.int .i64 (L.length : Int))), ?_, ?_⟩, ?_, ?_, HOKN.out, HND.out⟩
            · exact ((((HB3.out.set 0 _ (by simp)).set 1 _ (by simp)).set 2 _ (by simp)).alloc _)
            · have h := own_below (own_setFar (own_setFar (own_setFar HO3.out (g := w.heap.size) (j := 0) (.int .i64 np) (by omega)) (g := w.heap.size) (j := 1) (.int .i64 sd) (by omega)) (g := w.heap.size) (j := 2) (.int .i64 nq) (by omega)) (ext1 _ (.cells #[.int .i64 np, .int .i64 sd, .int .i64 nq] 34))
              simpa using h
            · have h := ((((HM3.out).setCell (a := ⟨w.heap.size, 0, none⟩) (by simp) (.int .i64 np)).setCell (a := ⟨w.heap.size, 1, none⟩) (by simp) (.int .i64 sd)).setCell (a := ⟨w.heap.size, 2, none⟩) (by simp) (.int .i64 nq)).alloc (.cells #[.int .i64 np, .int .i64 sd, .int .i64 nq] 34)
              simpa using h
            · exact HPush.out
            · exact ext_alloc (ext_set (ext_set (ext_set HBe3.out (Nat.le_refl _) _) (Nat.le_refl _) _) (Nat.le_refl _) _) _
            · simp; omega
          clear HB3 HM3 HO3
          have hlt3 : w.heap.size < w3.heap.size := by omega
          go_wp2
          go_roundw
          case rel => exact ⟨L ++ [(sp, sd, sq)], (np, sd, nq), k', by simp; omega, by simp [lenOf], HPP.out, HS.out⟩
          case measure => simp [lenOf]; omega
end Go.Proofs.Ytkimmahmbacjpaa
