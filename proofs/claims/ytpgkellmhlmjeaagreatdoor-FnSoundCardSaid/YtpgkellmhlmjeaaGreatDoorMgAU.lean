/- Parts of the proof, merged: WalkC WkC ConcatW CloneW PoW. No condition but those that each theorem names. -/
import Derived.Test.YtpgkellmhlmjeaaGreatDoorMgAJ
import Derived.Test.YtpgkellmhlmjeaaGreatDoorMgAC
import Derived.Lib.AppendZerosOnto
import Derived.Lib.AppendZeros
import Derived.Deep.RegionHeld3
namespace Go.Proofs.YtpgkellmhlmjeaaGreatDoor
open Go.RowKit Go.Sort Go.Maps Go.WideMaps
/-- What a call returns that walks along surds, the terms' room too. -/
def RetWkC (w : World) (R : Option (List Sd × Nat)) (e : Ending) (w' : World) : Prop :=
  ∃ g, e = .returned (.tuple #[.pointer (some ⟨g, 0, none⟩), .bool R.isSome]) ∧ Below w.heap.size w w' ∧ ∀ L i, R = some (L, i) →
    ∃ v A c, BoxV g [v, .slice A L.length c, .int .i64 i] w' ∧ w.heap.size ≤ g ∧ Wr (Value.int .i64) w' w.heap.size A (L.map flS) ∧ L.length ≤ c ∧ c ≤ maxLen
set_option maxRecDepth 100000 in
set_option maxHeartbeats 4000000 in
theorem l08Walk_cap (p d q : Int) (w : World) (h : surdB p d q = true) :
    Calls Tryz.prog 87 #[surdV p d q] w (RetWkC w (perOf (p, d, q))) := by
  obtain ⟨ti, hi, hz0, hz1, hz2⟩ := info_parts infoSd'
  have HI := Lib.hid hi
  clear hi
  obtain ⟨tj, hj, hy0, hy1, hy2⟩ := info_parts info64
  have HJ := Lib.hid hj
  clear hj
  obtain ⟨R, hR⟩ : ∃ R, perOf (p, d, q) = R := ⟨_, rfl⟩
  rw [hR]
  have HR : Hid (per 400 [] (p, d, q) = R) := hR
  have HH := Lib.hid h
  clear hR h
  unfold surdV
  go_enter Tryz.func87, Tryz.ntmps87
  go_wp2_with fail
  have HV0 : Hid (SoS w [] (p, d, q) 0 (.slice none 0 0) (.slice none 0 0) ((w.alloc (.cells #[.int .i64 p, .int .i64 d, .int .i64 q] 46)).alloc (.cells #[.slice none 0 0, .slice none 0 0, .int .i64 0] 109))) := by
    have h2 := BoxV.new (w.alloc (.cells #[.int .i64 p, .int .i64 d, .int .i64 q] 46)) #[.slice none 0 0, .slice none 0 0, .int .i64 0] 109
    exact ⟨(BoxV.new w #[.int .i64 p, .int .i64 d, .int .i64 q] 46).alloc _, by simpa using h2, own_nil, own_nil, .inl ⟨rfl, rfl⟩, ext_alloc (ext1 _ _) _, by simp, HH.out⟩
  generalize (w.alloc (.cells #[.int .i64 p, .int .i64 d, .int .i64 q] 46)).alloc (.cells #[.slice none 0 0, .slice none 0 0, .int .i64 0] 109) = W0 at *
  clear HH
  go_loopw [5] (fun _ wr => ∃ (L : List Sd) (s : Sd) (f : Int) (v1 v2 : Value) (k : Nat), L.length + k = 400 ∧ Hid (per k L s = R) ∧ Hid (SoS w L s f v1 v2 wr)) (fun _ wr => 401 - lenOf' (cellV ⟨w.heap.size + 1, 0, none⟩ wr))
  case atStart => exact ⟨[], (p, d, q), 0, _, _, 400, rfl, HR.out, HV0.out⟩
  case round =>
    obtain ⟨L, s, f, v1, v2, k, hk, HP, HV⟩ := hrel
    clear HR HV0
    obtain ⟨sp, sd, sq⟩ := s
    have HOK := Lib.hid HV.out.ok
    obtain ⟨hn1, A1, cp1, rfl, hw1⟩ := Wr.of_ownS HV.out.own1
    have HW1 := Lib.hid hw1.rd
    clear hn1 hw1
    have hL400 : L.length ≤ 400 := by omega
    have x0 := HV.out.box.at 0 _ rfl
    have x1 := HV.out.box.at 1 _ rfl
    have x2 := HV.out.box.at 2 _ rfl
    have y0 := HV.out.wk.at 0 _ rfl
    have HYY := Lib.hid y0
    have HC := Lib.hid (fun (W : World) (f : Int) (v : SoS w L (sp, sd, sq) f (.slice A1 L.length cp1) v2 W) => And.intro (v.wk.at 0 _ rfl) (And.intro (v.box.at 0 _ rfl) (And.intro (v.box.at 1 _ rfl) (v.box.at 2 _ rfl))))
    have HFd : Hid (∀ W, Rd (Value.int .i64) W W.heap.size A1 (sdL L) → Calls Tryz.prog 129 #[.slice A1 L.length cp1, .agg #[.int .i64 sp, .int .i64 sd, .int .i64 sq]] W fun e w' => e = .returned (.int .i64 (fdS L (sp, sd, sq))) ∧ Below W.heap.size W w') := fun W hr => l08Find_any A1 cp1 L (sp, sd, sq) W hr (by omega)
    have HFW := Lib.hid (HFd.out wr.drew (HW1.out.below (ext_drew (Below.refl _ _))))
    clear HFd
    have hfb : -1 ≤ fdS L (sp, sd, sq) ∧ fdS L (sp, sd, sq) ≤ 1000 := by
      unfold fdS
      split
      · rename_i hm
        have := List.idxOf_lt_length_of_mem hm
        omega
      · omega
    obtain ⟨fb1, fb2⟩ := hfb
    have HFI : Hid ((sp, sd, sq) ∈ L → fdS L (sp, sd, sq) = (L.idxOf (sp, sd, sq) : Int)) := fdS_mem
    have HFN : Hid ((sp, sd, sq) ∉ L → fdS L (sp, sd, sq) = -1) := fdS_not
    generalize fdS L (sp, sd, sq) = fd at *
    go_wp2_with fail
    go_region_held3 (fun w' => w'.cell? ⟨w.heap.size + 1, 0, none⟩ = some (.slice A1 L.length cp1) ∧ w'.cell? ⟨w.heap.size, 0, none⟩ = some (.int .i64 sp) ∧ w'.cell? ⟨w.heap.size, 1, none⟩ = some (.int .i64 sd) ∧ w'.cell? ⟨w.heap.size, 2, none⟩ = some (.int .i64 sq))
      (first | exact HC.out _ _ HV.out.drew | exact HC.out _ _ (HV.out.drew.next (by assumption)) | exact HC.out _ _ ((HV.out.drew.next (by assumption)).setF _))
      (first | (go_at_call 129; (with_reducible refine HFW.out.mono ?_); rintro e w2 ⟨rfl, hb2⟩; have V2 := Lib.hid (HV.out.drew.next hb2); have y2 := V2.out.wk.at 2 _ rfl; have F2 := V2.out.wk.f 2))
    have V3 := Lib.hid (V2.out.setF fd)
    have y3 := V3.out.wk.at 2 _ rfl
    have y4 := V3.out.wk.at 0 _ rfl
    clear V2 y2 F2 HC HV x0 x1 x2 y0 hb2
    generalize w2.setCell ⟨w.heap.size + 1, 2, none⟩ (.int .i64 fd) = W3 at *
    have x0 := V3.out.box.at 0 _ rfl
    have x1 := V3.out.box.at 1 _ rfl
    have x2 := V3.out.box.at 2 _ rfl
    by_cases hin : (sp, sd, sq) ∈ L
    · have HRR : Hid (R = some (L, L.idxOf (sp, sd, sq))) := by
        have := HP.out
        unfold Hid
        rw [← this]
        cases k <;> simp [per, hin]
      have hf0 : 0 ≤ fd := by rw [HFI.out hin]; omega
      have HFE := Lib.hid (HFI.out hin)
      clear hin HFI HFN
      go_wp2_with fail
      go_wp2
      go_ret2
      refine ⟨w.heap.size + 1, by rw [HRR.out]; rfl, V3.out.below, fun L' i hL => ?_⟩
      rw [HRR.out] at hL
      injection hL with hL
      injection hL with e1 e2
      subst e1; subst e2
      obtain ⟨hn1, B1, cq1, e1, g1⟩ := Wr.of_ownS V3.out.own1
      obtain ⟨B2, cq2, e2, g2, p3, p4⟩ := own_full (xs := L.map flS) (by simpa using V3.out.own2)
      rw [List.length_map] at e2 p3
      have hbx := V3.out.wk
      rw [e1, e2, HFE.out] at hbx
      exact ⟨_, _, _, hbx, by omega, g2.more (by omega), p3, p4⟩
    · have HIN := Lib.hid hin
      have hfn : fd = -1 := HFN.out hin
      clear hin HFI HFN fb1 fb2
      subst hfn
      by_cases h4 : L.length = 400
      · have HRR : Hid (R = none) := by
          obtain rfl : k = 0 := by omega
          have := HP.out
          unfold Hid
          rw [← this]
          simp [per, HIN.out]
        have t4 : (400 : Int) ≤ (L.length : Int) := by omega
        clear h4
        go_wp2
        go_ret2
        exact ⟨w.heap.size + 1, by rw [HRR.out]; rfl, V3.out.below, fun L' i hL => by rw [HRR.out] at hL; cases hL⟩
      · obtain ⟨k', rfl⟩ : ∃ k', k = k' + 1 := ⟨k - 1, by omega⟩
        have t4 : ¬ (400 : Int) ≤ (L.length : Int) := by omega
        have HPN : Hid (per (k' + 1) L (sp, sd, sq) = if sdOk (nxS (sp, sd, sq)) = true then per k' (L ++ [(sp, sd, sq)]) (nxS (sp, sd, sq)) else none) := by
          unfold Hid
          rw [per, if_neg HIN.out]
        have HFl := Lib.hid (fun W : World => l07Floor_any sp sd sq W HOK.out)
        have HNx := Lib.hid (fun W : World => l07Next_any sp sd sq W HOK.out)
        have HLF : Hid ((L ++ [(sp, sd, sq)]).map flS = L.map flS ++ [flS (sp, sd, sq)]) := by unfold Hid; rw [List.map_append]; rfl
        clear h4
        generalize flS (sp, sd, sq) = a at *
        go_wp2_with fail
        refine (HFl.out _).mono ?_
        rintro e w4 ⟨rfl, hb4⟩
        have V4 := Lib.hid (V3.out.next hb4)
        clear V3 x0 x1 x2 y3 y4 hb4
        have B1 := V4.out.wk
        have B0 := V4.out.box
        have x0 := B0.at 0 _ rfl
        have x1 := B0.at 1 _ rfl
        have x2 := B0.at 2 _ rfl
        have y0 := B1.at 0 _ rfl
        have hlt4a : w.heap.size < w4.heap.size := by have := V4.out.lt; omega
        have hlt4b : w.heap.size + 1 < w4.heap.size := by have := V4.out.lt; omega
        have hlt4 := V4.out.lt
        have HO1 := Lib.hid (own_below V4.out.own1 (ext_drew (Below.refl _ _)))
        have hne0 : (Value.slice A1 L.length cp1).ownBlock ≠ some w.heap.size := own_far V4.out.own1 (by omega)
        have hne1 : (Value.slice A1 L.length cp1).ownBlock ≠ some (w.heap.size + 1) := own_far V4.out.own1 (by omega)
        go_wp2_with fail
        go_region_law (first
          | (refine step_append_lies _ (by rfl) _ _ _ (by rfl) (w.heap.size + 2) 46 ti (.agg #[.int .i64 0, .int .i64 0, .int .i64 0]) 3 24 Tryz.underlying94 HI.out hz0 hz1 hz2 rfl (by decide) _ _ _ (by rfl) (HO1.out.alloc _) _ 1 1 [.int .i64 sp, .int .i64 sd, .int .i64 sq] (by rfl) (by rfl) (news_row _ _ _ rfl) (by simp [Value.oneCell']) (by omega) (by unfold maxLen; omega) (by omega) (by simp; omega) _ rfl ?_; intro g6 cap6 w6 hown6 hgrow hat hlt; have B16 := (B1.drew.alloc _).grown hgrow hne1; have B06 := (B0.drew.alloc _).grown hgrow hne0; have z0 := B16.at 0 _ rfl; have G0 := B16.f 0))
        all_goals
          have K1 := Lib.hid (B16.set 0 (.slice (some ⟨g6, 0, none⟩) (L.length + 1) cap6) (by simp))
          have K0 := Lib.hid (B06.setFar (b := w.heap.size + 1) (j := 0) (.slice (some ⟨g6, 0, none⟩) (L.length + 1) cap6) (by omega))
          have O1 : Hid (World.ownsRow (w6.setCell ⟨w.heap.size + 1, 0, none⟩ (.slice (some ⟨g6, 0, none⟩) (L.length + 1) cap6)) (w.heap.size + 2) 46 3 (.slice (some ⟨g6, 0, none⟩) (L.length + 1) cap6) (L.length + 1) ((sdL (L ++ [(sp, sd, sq)])).map (Value.int .i64))) := by
            unfold Hid
            rw [sdL_snoc]
            have h := own_setFar hown6 (g := w.heap.size + 1) (j := 0) (.slice (some ⟨g6, 0, none⟩) (L.length + 1) cap6) (by omega)
            simpa using h
          have hap : Hid (v2.ownBlock ≠ some g6 ∧ (v2.ownBlock = none ∨ v2.ownBlock ≠ (Value.slice A1 L.length cp1).ownBlock)) := by
            have h2 := V4.out.own2.lt
            rcases hat with h | h
            · have h' := V4.out.apart
              rw [h] at h' ⊢
              rcases h' with ⟨h', _⟩ | h'
              · cases h'
              · exact ⟨fun e => h' e.symm, .inr fun e => h' e.symm⟩
            · refine ⟨fun e => ?_, ?_⟩
              · have := (h2 g6 e).2
                (try simp at h)
                omega
              · rcases V4.out.apart with ⟨_, h'⟩ | h'
                · exact .inl h'
                · exact .inr fun e => h' e.symm
          have O2 : Hid (World.ownsRow (w6.setCell ⟨w.heap.size + 1, 0, none⟩ (.slice (some ⟨g6, 0, none⟩) (L.length + 1) cap6)) (w.heap.size + 2) 2 1 v2 L.length ((L.map flS).map (Value.int .i64))) :=
            own_setFar (((own_below V4.out.own2 (ext_drew (Below.refl _ _))).alloc _).kept hgrow hap.out.2) _ (by omega)
          have BE : Hid (Below w.heap.size w (w6.setCell ⟨w.heap.size + 1, 0, none⟩ (.slice (some ⟨g6, 0, none⟩) (L.length + 1) cap6))) :=
            ext_set (below_grown (ext_alloc (ext_drew V4.out.below) _) (HO1.out.alloc _) (by omega) hgrow) (by simp) _
          have hz7 : w.heap.size + 2 ≤ (w6.setCell ⟨w.heap.size + 1, 0, none⟩ (.slice (some ⟨g6, 0, none⟩) (L.length + 1) cap6)).heap.size := by have := hgrow.size; simp at this ⊢; omega
          clear B16 B06 B1 B0 x0 x1 x2 y0 z0 G0 hown6 hgrow hat hlt V4 HO1 hlt4a hlt4b hlt4 hne0 hne1
          generalize w6.setCell ⟨w.heap.size + 1, 0, none⟩ (.slice (some ⟨g6, 0, none⟩) (L.length + 1) cap6) = W7 at *
          obtain ⟨hn2, A2, cp2, rfl, _⟩ := Wr.of_own O2.out
          rw [List.length_map] at hn2
          clear hn2
          have x0 := K1.out.at 1 _ rfl
          have G1 := K1.out.f 1
          have hown := O2.out
          go_wp2_with (at_builtin; refine wpList_append_own_at _ rfl _ _ 24 rfl (w.heap.size + 2) 2 tj (.int .i64 0) 1 8 Tryz.underlying24 HJ.out hy0 hy1 hy2 rfl (by decide) _ _ _ rfl (hown.alloc _) ⟨W7.heap.size, 0, none⟩ 1 1 [.int .i64 a] rfl rfl ?c1 ?c2 ?c3 ?c4 ?c5 ?_)
          case c1 => exact cell_one_new _ _ _
          case c2 => simp [Value.oneCell']
          case c3 => unfold maxLen; omega
          case c4 => omega
          case c5 => simp; omega
          intro v8 w8 hown8 hgr8 _ hat8
          refine Hid.out ?_
          refine Lib.hid ?_
          obtain ⟨B8, c8, e8⟩ := own_slice hown8
          subst e8
          have K18 := (K1.out.alloc (.cells #[.int .i64 a] 2)).grown hgr8 (own_far O2.out (by omega))
          have K08 := (K0.out.alloc (.cells #[.int .i64 a] 2)).grown hgr8 (own_far O2.out (by omega))
          have O18 := (O1.out.alloc (.cells #[.int .i64 a] 2)).kept hgr8 (.inr fun e => hap.out.1 e.symm)
          have V9 : Hid (SoS w (L ++ [(sp, sd, sq)]) (sp, sd, sq) (-1) (.slice (some ⟨g6, 0, none⟩) (L.length + 1) cap6) (.slice B8 (L.length + 1) c8) (w8.setCell ⟨w.heap.size + 1, 1, none⟩ (.slice B8 (L.length + 1) c8))) := by
            refine ⟨K08.setFar _ (by omega), K18.set 1 (.slice B8 (L.length + 1) c8) (by simp), ?_, ?_, ?_, ?_, ?_, HOK.out⟩
            · have h := own_setFar O18 (g := w.heap.size + 1) (j := 1) (.slice B8 (L.length + 1) c8) (by omega)
              simpa using h
            · have h := own_setFar hown8 (g := w.heap.size + 1) (j := 1) (.slice B8 (L.length + 1) c8) (by omega)
              rw [HLF.out]
              simpa using h
            · right
              intro e
              rcases hat8 with h | h
              · rw [h] at e
                exact hap.out.1 e.symm
              · rw [h] at e
                have e' : g6 = _ := Option.some.inj e
                have := (O1.out.lt g6 rfl).2
                (try simp at e')
                omega
            · exact ext_set (below_grown (ext_alloc BE.out _) (O2.out.alloc _) (by omega) hgr8) (by simp) _
            · have := hgr8.size
              simp at this ⊢
              omega
          have y1 := K18.at 1 _ rfl
          have G2 := K18.f 1
          clear K1 K0 O1 O2 BE hown hown8 hgr8 hat8 hap K18 K08 O18 x0 G1
          have z0 := V9.out.box.at 0 _ rfl
          have z1 := V9.out.box.at 1 _ rfl
          have z2 := V9.out.box.at 2 _ rfl
          go_wp2_with fail
          generalize w8.setCell ⟨w.heap.size + 1, 1, none⟩ (.slice B8 (L.length + 1) c8) = W9 at *
          refine (HNx.out _).mono ?_
          rintro e w10 ⟨⟨t1, t2, t3⟩, rfl, ht, hb10⟩
          have V10 := Lib.hid (V9.out.next hb10)
          have HT := Lib.hid ht
          clear V9 y1 G2 z0 z1 z2 ht hb10
          cases hok : sdOk (nxS (sp, sd, sq))
          · have HRR : Hid (R = none) := by
              have h1 := HP.out
              rw [HPN.out, hok] at h1
              exact h1.symm
            clear hok
            go_wp2
            go_ret2
            exact ⟨w.heap.size + 1, by rw [HRR.out]; rfl, ext_alloc V10.out.below _, fun L' i hL => by rw [HRR.out] at hL; cases hL⟩
          · have HPP : Hid (per k' (L ++ [(sp, sd, sq)]) (nxS (sp, sd, sq)) = R) := by
              have h1 := HP.out
              rw [HPN.out, hok, if_pos rfl] at h1
              exact h1
            have hTT := Lib.hid (HT.out hok)
            have HOKN := Lib.hid hok
            rw [← hTT.out] at HPP HOKN
            clear hok
            have z0 := V10.out.box.at 0 _ rfl
            have z1 := V10.out.box.at 1 _ rfl
            have z2 := V10.out.box.at 2 _ rfl
            have Z0 := V10.out.box.f 0
            have Z1 := V10.out.box.f 1
            have Z2 := V10.out.box.f 2
            have hlt10 : w.heap.size < w10.heap.size := by have := V10.out.lt; omega
            have V11 := Lib.hid ((V10.out.setS HOKN.out).next (ext1 _ (.cells #[.int .i64 t1, .int .i64 t2, .int .i64 t3] 46)))
            have HCE := Lib.hid (cellV_eq (V11.out.wk.at 0 _ rfl))
            clear V10
            go_wp2
            go_roundw
            case rel => exact ⟨L ++ [(sp, sd, sq)], (t1, t2, t3), -1, _, _, k', by simp; omega, HPP.out, V11.out⟩
            case measure => rw [HCE.out, cellV_eq HYY.out]; simp [lenOf']; omega
end Go.Proofs.YtpgkellmhlmjeaaGreatDoor
namespace Go.Proofs.YtpgkellmhlmjeaaGreatDoor
open Go.RowKit Go.Sort Go.Maps Go.WideMaps
def WkC (B g : Nat) (L : List Sd) (i : Nat) (W : World) : Prop :=
  ∃ v A c, BoxV g [v, .slice A L.length c, .int .i64 i] W ∧ B ≤ g ∧ Wr (Value.int .i64) W B A (L.map flS) ∧ L.length ≤ c ∧ c ≤ maxLen
def RetCoC (w : World) (R : Option (List Sd × Nat)) (code : Int) (e : Ending) (w' : World) : Prop :=
  ∃ g, e = .returned (.tuple #[.pointer (some ⟨g, 0, none⟩), .int .i64 code]) ∧ Below w.heap.size w w' ∧ ∀ L i, R = some (L, i) → WkC w.heap.size g L i w'
set_option maxHeartbeats 1000000 in
theorem l08Code_cap (p d q : Int) (w : World) :
    Calls Tryz.prog 91 #[surdV p d q] w (RetCoC w (pdR (p, d, q)) (pdC (p, d, q))) := by
  have HV := Lib.hid (fun W : World => l07Ok_any p d q W)
  have HOK : Hid (sdOk (p, d, q) = surdB p d q) := rfl
  cases hs : surdB p d q
  · have e1 : pdR (p, d, q) = none := by rw [pdR, HOK.out, hs]; rfl
    have e2 : pdC (p, d, q) = 1 := by rw [pdC, HOK.out, hs]; rfl
    rw [e1, e2]
    clear e1 e2
    rw [hs] at HV
    clear hs HOK
    unfold surdV at *
    go_enter Tryz.func91, Tryz.ntmps91
    go_wp2_with fail
    refine (HV.out _).mono ?_
    rintro e w1 ⟨rfl, hb1⟩
    go_wp2
    go_ret2
    exact ⟨_, rfl, ext_alloc (ext_trans (ext1 _ _) hb1) _, fun L i h => by cases h⟩
  · have e1 : pdR (p, d, q) = perOf (p, d, q) := by rw [pdR, HOK.out, hs]; rfl
    have e2 : pdC (p, d, q) = if (perOf (p, d, q)).isSome = true then 0 else 5 := by rw [pdC, HOK.out, hs]; rfl
    have HP := Lib.hid (fun W : World => l08Walk_cap p d q W hs)
    rw [e1, e2]
    clear e1 e2
    rw [hs] at HV
    clear hs HOK
    generalize perOf (p, d, q) = R at *
    obtain ⟨cd, hcd⟩ : ∃ cd, (if R.isSome = true then (0 : Int) else 5) = cd := ⟨_, rfl⟩
    rw [hcd]
    have HCD : Hid (∀ b, R.isSome = b → cd = if b = true then 0 else 5) := fun b hb => by rw [← hcd, hb]
    clear hcd
    unfold surdV at *
    go_enter Tryz.func91, Tryz.ntmps91
    go_wp2_with fail
    refine (HV.out _).mono ?_
    rintro e w1 ⟨rfl, hb1⟩
    obtain ⟨hc1, hf1⟩ := bcell hb1
    have hz1 : w.heap.size < w1.heap.size := by have := hb1.size; simp at this; omega
    have HB1 := Lib.hid (ext_trans (ext1 w (.cells #[.int .i64 p, .int .i64 d, .int .i64 q] 46)) hb1)
    go_wp2_with fail
    refine (HP.out _).mono ?_
    rintro e w2 ⟨g, rfl, hb2, hw⟩
    have HW : Hid (∀ L i, R = some (L, i) → WkC w.heap.size g L i w2) := fun L i h => by
      obtain ⟨v, A, c, a1, a2, a3, a4⟩ := hw L i h
      exact ⟨v, A, c, a1, Nat.le_trans HB1.out.size a2, a3.more HB1.out.size, a4⟩
    have HB2 := Lib.hid (ext_trans HB1.out hb2)
    clear hw hb2 hb1 HB1 hc1 hf1
    cases hR : R.isSome
    · obtain rfl : cd = 5 := HCD.out false hR
      clear hR HCD
      go_wp2
      go_ret2
      exact ⟨g, rfl, HB2.out, HW.out⟩
    · obtain rfl : cd = 0 := HCD.out true hR
      clear hR HCD
      go_wp2
      go_ret2
      exact ⟨g, rfl, HB2.out, HW.out⟩
end Go.Proofs.YtpgkellmhlmjeaaGreatDoor
namespace Go.Proofs.YtpgkellmhlmjeaaGreatDoor
open Go.RowKit Go.Sort
theorem own_fullC {w : World} {base : Nat} {v : Value} {xs : List Int} (h : w.ownsRow base 2 1 v xs.length (xs.map (Value.int .i64))) : ∃ A c, v = .slice A xs.length c ∧ Wr (Value.int .i64) w base A xs ∧ xs.length ≤ c ∧ c ≤ maxLen := by
  obtain ⟨_, A, c, e, g⟩ := Wr.of_own h
  refine ⟨A, c, e, g, ?_⟩
  rcases h.2 with ⟨e2, h0⟩ | ⟨g', cap, cur, e2, _, _, hc, hm, _⟩
  · rw [e] at e2
    injection e2 with _ _ e3
    rw [e3, h0]
    exact ⟨Nat.le_refl _, Nat.zero_le _⟩
  · rw [e] at e2
    injection e2 with _ _ e3
    rw [e3]
    exact ⟨hc, hm⟩
/-- What a call returns that makes a slice with room. -/
def RetCap (w : World) (xs : List Int) (e : Ending) (w' : World) : Prop :=
  ∃ A c, e = .returned (.slice A xs.length c) ∧ Wr (Value.int .i64) w' w.heap.size A xs ∧ (xs.length ≤ c ∧ c ≤ maxLen) ∧ Below w.heap.size w w'
theorem run_append_empty (B : Option Addr) (n cp : Nat) (A : Option Addr) (d : Nat) (ty : TypeId) (w : World) (h : n ≤ cp) :
    (Builtin.append_ #[24, 24] ty #[.slice B n cp, .slice A 0 d]).run Tryz.prog w = .ok (.slice B n cp) w := by
  obtain ⟨i0, hi, hz0, hz1, hz2⟩ := info_parts info64
  have ht := Tryz.underlying24
  cases B <;> cases A <;> simp [Builtin.append_, run_underlying ht, sizeOf, typeInfo, hi, Builtin.lenOf, h, Builtin.firstCells, loadCells, loadCellsFrom, storeCells]
end Go.Proofs.YtpgkellmhlmjeaaGreatDoor
namespace Go.Proofs.YtpgkellmhlmjeaaGreatDoor
open Go.RowKit Go.Sort
theorem nil_yes (n c : Nat) (w : World) : (binOp BinOp.eql 24 (.slice none n c) (.slice none 0 0)).run Tryz.prog w = .ok (.bool true) w := by kernel_rfl
theorem nil_no (a : Addr) (n c : Nat) (w : World) : (binOp BinOp.eql 24 (.slice (some a) n c) (.slice none 0 0)).run Tryz.prog w = .ok (.bool false) w := by kernel_rfl
set_option maxRecDepth 100000 in
theorem l00Own_any (A : Option Addr) (c : Nat) (xs : List Int) (w : World) (hx : Rd (Value.int .i64) w w.heap.size A xs) (hm : xs.length ≤ 1048576) :
    Calls Tryz.prog 92 #[.slice A xs.length c] w (RetCap w xs) := by
  obtain ⟨i0, hi, hz0, hz1, hz2⟩ := info_parts info64
  have HI := Lib.hid hi
  have hown : Hid ((w.alloc (.cells #[] 2)).ownsRow w.heap.size 2 1 (.slice (some ⟨w.heap.size, 0, none⟩) 0 0) 0 []) := by
    have h := World.ownsRow_lit (base := w.heap.size) (e := 2) (size := 1) w #[] 0 (by simp) (by simp) rfl
    unfold Hid
    simpa using h
  clear hi
  rcases Nat.eq_zero_or_pos xs.length with h0 | h0
  · obtain rfl : xs = [] := List.eq_nil_of_length_eq_zero h0
    clear h0 hx hm
    cases A with
    | none =>
      have hq := nil_yes 0 c w
      have hr := run_append_empty (some ⟨w.heap.size, 0, none⟩) 0 0 none c 24 (w.alloc (.cells #[] 2)) (Nat.le_refl _)
      go_enter Tryz.func92, Tryz.ntmps92
      go_wp2
      go_ret
      first
        | exact ⟨none, 0, rfl, fun h => absurd h (by simp), ⟨Nat.le_refl _, Nat.zero_le _⟩, Below.refl _ _⟩
        | exact ⟨_, 0, rfl, fun h => absurd h (by simp), ⟨Nat.le_refl _, Nat.zero_le _⟩, ext1 _ _⟩
    | some a =>
      have hq := nil_no a 0 c w
      have hr := run_append_empty (some ⟨w.heap.size, 0, none⟩) 0 0 (some a) c 24 (w.alloc (.cells #[] 2)) (Nat.le_refl _)
      go_enter Tryz.func92, Tryz.ntmps92
      go_wp2
      go_ret
      exact ⟨_, 0, rfl, fun h => absurd h (by simp), ⟨Nat.le_refl _, Nat.zero_le _⟩, ext1 _ _⟩
  · obtain ⟨b, off, rfl, hb, hc⟩ := hx h0
    have HC := Lib.hid hc
    have hq := nil_no ⟨b, off, none⟩ xs.length c w
    clear hc h0
    go_enter Tryz.func92, Tryz.ntmps92
    go_wp2_with (at_builtin; refine wpList_append_own _ rfl _ _ 24 rfl w.heap.size 2 i0 (.int .i64 0) 1 8 Tryz.underlying24 HI.out hz0 hz1 hz2 rfl (by decide) _ _ _ rfl hown.out ⟨b, off, none⟩ xs.length c (xs.map (Value.int .i64)) rfl (by simp) ?c1 ?c2 ?c3 ?c4 ?c5 ?_)
    case c1 =>
      intro j u hu
      rw [List.getElem?_map] at hu
      cases hx : xs[j]? with
      | none => rw [hx] at hu; cases hu
      | some x =>
        rw [hx] at hu
        obtain rfl := Option.some.inj hu
        have hcx := HC.out j x hx
        have ea : (⟨b, off, none⟩ : Addr).add j = ⟨b, off + j, none⟩ := by simp [Addr.add]
        rw [ea]
        exact (World.cell?_alloc_lt _ _ _ (block_lt_of_cell hcx)).trans hcx
    case c2 => intro u hu; obtain ⟨x, _, rfl⟩ := List.mem_map.1 hu; rfl
    case c3 => unfold maxLen; omega
    case c4 => omega
    case c5 => simp
    intro v' w3 hown3 hgrow hnil
    have hb := below_grown (ext1 w (.cells #[] 2)) hown.out (Nat.le_refl _) hgrow
    have hown4 : w3.ownsRow w.heap.size 2 1 v' xs.length (xs.map (Value.int .i64)) := by simpa using hown3
    obtain ⟨A3, c3, rfl, hw3, h3⟩ := own_fullC hown4
    have HH := Lib.hid (And.intro hw3 h3)
    clear hown3 hgrow hnil hown4 hw3 h3
    go_wp2
    go_ret
    exact ⟨_, _, rfl, HH.out.1, HH.out.2, hb⟩
end Go.Proofs.YtpgkellmhlmjeaaGreatDoor
namespace Go.Proofs.YtpgkellmhlmjeaaGreatDoor
open Go.RowKit Go.Sort Go.Maps Go.WideMaps
set_option maxRecDepth 100000 in
set_option maxHeartbeats 4000000 in
theorem sPeriodOf_any (p d q : Int) (w : World) :
    Calls Tryz.prog 42 #[surdV p d q] w (RetPd w (pdR (p, d, q)) (.int .i64 (pdC (p, d, q)))) := by
  have HE := Lib.hid (fun W : World => l08Code_cap p d q W)
  cases hR : pdR (p, d, q) with
  | none =>
    have hc0 := pdR_none hR
    rw [hR] at HE
    have e3 : (pdC (p, d, q) != 0) = true := by simpa using hc0
    generalize pdC (p, d, q) = cd at *
    clear hR hc0
    unfold RetCoC at HE
    unfold surdV at *
    go_enter Tryz.func42, Tryz.ntmps42
    go_wp2_with fail
    refine (HE.out _).mono ?_
    rintro e w1 ⟨g, rfl, hb1, -⟩
    go_wp2
    go_ret3
    exact ⟨none, 0, none, 0, rfl, fun h => absurd h (by simp [hdR]), fun h => absurd h (by simp [cyR]), ⟨by simp [hdR], by simp [cyR], Nat.zero_le _, Nat.zero_le _⟩, ext_trans (ext1 _ _) hb1⟩
  | some R =>
    obtain ⟨L, i⟩ := R
    obtain ⟨_, _, hpc, hi1, hi2⟩ := pdR_facts hR
    rw [hR, hpc] at HE
    rw [hpc]
    have l1 : (headOf (L, i)).length = i := by simp [headOf]; omega
    have l2 : (cycOf (L, i)).length = L.length - i := by simp [cycOf]
    have HL := Lib.hid (And.intro l1 l2)
    have HF : Hid (∀ (w' : World) (A1 : Option Addr) (c1 : Nat) (A2 : Option Addr) (c2 : Nat), Wr (Value.int .i64) w' w.heap.size A1 (headOf (L, i)) → Wr (Value.int .i64) w' w.heap.size A2 (cycOf (L, i)) → i ≤ c1 ∧ c1 ≤ maxLen → L.length - i ≤ c2 ∧ c2 ≤ maxLen → Below w.heap.size w w' → RetPd w (some (L, i)) (.int .i64 0) (.returned (.tuple #[.slice A1 i c1, .slice A2 (L.length - i) c2, .int .i64 0])) w') := fun w' A1 c1 A2 c2 h1 h2 h3 h4 h5 => by
      refine ⟨A1, c1, A2, c2, ?_, h1, h2, ⟨?_, ?_, h3.2, h4.2⟩, h5⟩
      · show _ = Ending.returned (.tuple #[.slice A1 (headOf (L, i)).length c1, .slice A2 (cycOf (L, i)).length c2, .int .i64 0])
        rw [l1, l2]
      · show (headOf (L, i)).length ≤ c1
        omega
      · show (cycOf (L, i)).length ≤ c2
        omega
    clear hR hpc l1 l2
    unfold RetCoC at HE
    unfold surdV at *
    go_enter Tryz.func42, Tryz.ntmps42
    go_wp2_with fail
    refine (HE.out _).mono ?_
    rintro e w1 ⟨g, rfl, hb1, hwk⟩
    obtain ⟨v0, A0, c0, hbx, hgb, hwr, hlc, hcm⟩ := hwk L i rfl
    obtain ⟨b0, off, rfl, hb00, hbl0, hcx, hfx⟩ := hwr (by simp; omega)
    have hg1 : w.heap.size + 1 ≤ g := by simpa using hgb
    have HRL : Hid (∀ W : World, Below w1.heap.size w1 W → ∀ j t, (L.map flS)[j]? = some t → W.cell? ⟨b0, off + j, none⟩ = some (.int .i64 t)) := fun W h j t ht => (h.cell (p := ⟨b0, off + j, none⟩) hbl0).trans (hcx j t ht)
    have HO1 : Hid (∀ W : World, Below w1.heap.size w1 W → Calls Tryz.prog 92 #[.slice (some ⟨b0, off, none⟩) i c0] W (RetCap W (headOf (L, i)))) := fun W h => by
      have k := l00Own_any (some ⟨b0, off, none⟩) c0 (headOf (L, i)) W (fun _ => ⟨b0, off, rfl, Nat.lt_of_lt_of_le hbl0 h.size, fun j t ht => HRL.out W h j t (by
        unfold headOf at ht
        rw [List.map_take, List.getElem?_take] at ht
        split at ht
        · exact ht
        · cases ht)⟩) (by rw [HL.out.1]; omega)
      rwa [HL.out.1] at k
    have HO2 : Hid (∀ W : World, Below w1.heap.size w1 W → Calls Tryz.prog 92 #[.slice (some ⟨b0, off + i, none⟩) (L.length - i) (c0 - i)] W (RetCap W (cycOf (L, i)))) := fun W h => by
      have k := l00Own_any (some ⟨b0, off + i, none⟩) (c0 - i) (cycOf (L, i)) W (fun _ => ⟨b0, off + i, rfl, Nat.lt_of_lt_of_le hbl0 h.size, fun j t ht => by
        rw [show off + i + j = off + (i + j) by omega]
        exact HRL.out W h (i + j) t (by
          unfold cycOf at ht
          rw [List.map_drop, List.getElem?_drop] at ht
          exact ht)⟩) (by rw [HL.out.2]; omega)
      rwa [HL.out.2] at k
    have HBX := Lib.hid hbx
    have HCK : Hid (∀ W : World, Below w1.heap.size w1 W → W.cell? ⟨g, 1, none⟩ = some (.slice (some ⟨b0, off, none⟩) L.length c0) ∧ W.cell? ⟨g, 2, none⟩ = some (.int .i64 (i : Int))) := fun W h => ⟨(HBX.out.next h).at 1 _ rfl, (HBX.out.next h).at 2 _ rfl⟩
    have HB1 := Lib.hid (ext_trans (ext1 w (.cells #[.int .i64 p, .int .i64 d, .int .i64 q] 46)) hb1)
    have hz1 : w.heap.size ≤ w1.heap.size := HB1.out.size
    clear hwk hcx hfx hwr hbx HE hb1
    have j0 : (0 : Int) ≤ (i : Int) := by omega
    have j1 : (i : Int) ≤ (L.length : Int) := by omega
    have j2 : (L.length : Int) ≤ (c0 : Int) := by omega
    have j3 : (i : Int) ≤ (c0 : Int) := by omega
    have j4 : ¬ (c0 - i = 0) := by omega
    have j5 : i ≤ L.length := by omega
    have j6 : i ≤ c0 := by omega
    unfold RetCap at HO1 HO2
    rw [HL.out.1] at HO1
    rw [HL.out.2] at HO2
    go_wp2_with fail
    go_region_held3 (fun w' => w'.cell? ⟨g, 1, none⟩ = some (.slice (some ⟨b0, off, none⟩) L.length c0) ∧ w'.cell? ⟨g, 2, none⟩ = some (.int .i64 (i : Int)))
      (exact HCK.out _ (by repeat (first | exact Below.refl _ _ | assumption | refine ext_set ?_ (by simp <;> omega) _ | refine ext_alloc ?_ _ | refine ext_drew ?_ | refine ext_trans ?_ (by assumption))))
      (first | (go_at_call 92; (with_reducible refine (HO1.out _ (by repeat (first | exact Below.refl _ _ | assumption | refine ext_drew ?_ | refine ext_trans ?_ (by assumption)))).mono ?_); rintro e w5 ⟨A5, c5, rfl, hw5, hc5, hb5⟩) | (go_at_call 92; (with_reducible refine (HO2.out _ (by repeat (first | exact Below.refl _ _ | assumption | refine ext_drew ?_ | refine ext_trans ?_ (by assumption)))).mono ?_); rintro e w6 ⟨A6, c6, rfl, hw6, hc6, hb6⟩))
    all_goals
      have HR : Hid (RetPd w (some (L, i)) (.int .i64 0) (.returned (.tuple #[.slice A5 i c5, .slice A6 (L.length - i) c6, .int .i64 0])) w6) := HF.out w6 A5 c5 A6 c6 ((hw5.below hb6).more hz1) (hw6.more (by have h := hb5.size; simp at h; omega)) hc5 hc6 (ext_trans (ext_trans (ext_drew HB1.out) hb5) hb6)
      clear HF hw5 hw6 hc5 hc6 hb5 hb6 HB1 HRL HO1 HO2 HCK HBX
      go_wp2
      go_ret3
      exact HR.out
end Go.Proofs.YtpgkellmhlmjeaaGreatDoor
