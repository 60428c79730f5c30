/- The reference's walk along surds once more: what room its row of terms has. No condition but those that each theorem names. -/
import Derived.Test.YtjgafjbccfjojaaGreatMgAR
namespace Go.Proofs.YtjgafjbccfjojaaGreat
open Go.RowKit Go.Sort Go.Maps Go.WideMaps
/-- What a call returns that walks along surds, the terms' room too. -/
def RetWkC (w : World) (R : Option (List Sd × Nat)) (e : Ending) (w' : World) : Prop :=
  ∃ g, e = .returned (.tuple #[.pointer (some ⟨g, 0, none⟩), .bool R.isSome]) ∧ Below w.heap.size w w' ∧ ∀ L i, R = some (L, i) →
    ∃ v A c, BoxV g [v, .slice A L.length c, .int .i64 i] w' ∧ w.heap.size ≤ g ∧ Wr (Value.int .i64) w' w.heap.size A (L.map flS) ∧ L.length ≤ c ∧ c ≤ maxLen
set_option maxRecDepth 100000 in
set_option maxHeartbeats 4000000 in
theorem l08Walk_cap (p d q : Int) (w : World) (h : surdB p d q = true) :
    Calls Tryz.prog 99 #[surdV p d q] w (RetWkC w (perOf (p, d, q))) := by
  obtain ⟨ti, hi, hz0, hz1, hz2⟩ := info_parts infoSd'
  have HI := Lib.hid hi
  clear hi
  obtain ⟨tj, hj, hy0, hy1, hy2⟩ := info_parts info64
  have HJ := Lib.hid hj
  clear hj
  obtain ⟨R, hR⟩ : ∃ R, perOf (p, d, q) = R := ⟨_, rfl⟩
  rw [hR]
  have HR : Hid (per 400 [] (p, d, q) = R) := hR
  have HH := Lib.hid h
  clear hR h
  unfold surdV
  go_enter Tryz.func99, Tryz.ntmps99
  go_wp2_with fail
  have HV0 : Hid (SoS w [] (p, d, q) 0 (.slice none 0 0) (.slice none 0 0) ((w.alloc (.cells #[.int .i64 p, .int .i64 d, .int .i64 q] 117)).alloc (.cells #[.slice none 0 0, .slice none 0 0, .int .i64 0] 126))) := by
    have h2 := BoxV.new (w.alloc (.cells #[.int .i64 p, .int .i64 d, .int .i64 q] 117)) #[.slice none 0 0, .slice none 0 0, .int .i64 0] 126
    exact ⟨(BoxV.new w #[.int .i64 p, .int .i64 d, .int .i64 q] 117).alloc _, by simpa using h2, own_nil, own_nil, .inl ⟨rfl, rfl⟩, ext_alloc (ext1 _ _) _, by simp, HH.out⟩
  generalize (w.alloc (.cells #[.int .i64 p, .int .i64 d, .int .i64 q] 117)).alloc (.cells #[.slice none 0 0, .slice none 0 0, .int .i64 0] 126) = W0 at *
  clear HH
  go_loopw [5] (fun _ wr => ∃ (L : List Sd) (s : Sd) (f : Int) (v1 v2 : Value) (k : Nat), L.length + k = 400 ∧ Hid (per k L s = R) ∧ Hid (SoS w L s f v1 v2 wr)) (fun _ wr => 401 - lenOf' (cellV ⟨w.heap.size + 1, 0, none⟩ wr))
  case atStart => exact ⟨[], (p, d, q), 0, _, _, 400, rfl, HR.out, HV0.out⟩
  case round =>
    obtain ⟨L, s, f, v1, v2, k, hk, HP, HV⟩ := hrel
    clear HR HV0
    obtain ⟨sp, sd, sq⟩ := s
    have HOK := Lib.hid HV.out.ok
    obtain ⟨hn1, A1, cp1, rfl, hw1⟩ := Wr.of_ownS HV.out.own1
    have HW1 := Lib.hid hw1.rd
    clear hn1 hw1
    have hL400 : L.length ≤ 400 := by omega
    have x0 := HV.out.box.at 0 _ rfl
    have x1 := HV.out.box.at 1 _ rfl
    have x2 := HV.out.box.at 2 _ rfl
    have y0 := HV.out.wk.at 0 _ rfl
    have HYY := Lib.hid y0
    have HC := Lib.hid (fun (W : World) (f : Int) (v : SoS w L (sp, sd, sq) f (.slice A1 L.length cp1) v2 W) => And.intro (v.wk.at 0 _ rfl) (And.intro (v.box.at 0 _ rfl) (And.intro (v.box.at 1 _ rfl) (v.box.at 2 _ rfl))))
    have HFd : Hid (∀ W, Rd (Value.int .i64) W W.heap.size A1 (sdL L) → Calls Tryz.prog 101 #[.slice A1 L.length cp1, .agg #[.int .i64 sp, .int .i64 sd, .int .i64 sq]] W fun e w' => e = .returned (.int .i64 (fdS L (sp, sd, sq))) ∧ Below W.heap.size W w') := fun W hr => l08Find_any A1 cp1 L (sp, sd, sq) W hr (by omega)
    have HFW := Lib.hid (HFd.out wr.drew (HW1.out.below (ext_drew (Below.refl _ _))))
    clear HFd
    have hfb : -1 ≤ fdS L (sp, sd, sq) ∧ fdS L (sp, sd, sq) ≤ 1000 := by
      unfold fdS
      split
      · rename_i hm
        have := List.idxOf_lt_length_of_mem hm
        omega
      · omega
    obtain ⟨fb1, fb2⟩ := hfb
    have HFI : Hid ((sp, sd, sq) ∈ L → fdS L (sp, sd, sq) = (L.idxOf (sp, sd, sq) : Int)) := fdS_mem
    have HFN : Hid ((sp, sd, sq) ∉ L → fdS L (sp, sd, sq) = -1) := fdS_not
    generalize fdS L (sp, sd, sq) = fd at *
    go_wp2_with fail
    go_region_held3 (fun w' => w'.cell? ⟨w.heap.size + 1, 0, none⟩ = some (.slice A1 L.length cp1) ∧ w'.cell? ⟨w.heap.size, 0, none⟩ = some (.int .i64 sp) ∧ w'.cell? ⟨w.heap.size, 1, none⟩ = some (.int .i64 sd) ∧ w'.cell? ⟨w.heap.size, 2, none⟩ = some (.int .i64 sq))
      (first | exact HC.out _ _ HV.out.drew | exact HC.out _ _ (HV.out.drew.next (by assumption)) | exact HC.out _ _ ((HV.out.drew.next (by assumption)).setF _))
      (first | (go_at_call 101; (with_reducible refine HFW.out.mono ?_); rintro e w2 ⟨rfl, hb2⟩; have V2 := Lib.hid (HV.out.drew.next hb2); have y2 := V2.out.wk.at 2 _ rfl; have F2 := V2.out.wk.f 2))
    have V3 := Lib.hid (V2.out.setF fd)
    have y3 := V3.out.wk.at 2 _ rfl
    have y4 := V3.out.wk.at 0 _ rfl
    clear V2 y2 F2 HC HV x0 x1 x2 y0 hb2
    generalize w2.setCell ⟨w.heap.size + 1, 2, none⟩ (.int .i64 fd) = W3 at *
    have x0 := V3.out.box.at 0 _ rfl
    have x1 := V3.out.box.at 1 _ rfl
    have x2 := V3.out.box.at 2 _ rfl
    by_cases hin : (sp, sd, sq) ∈ L
    · have HRR : Hid (R = some (L, L.idxOf (sp, sd, sq))) := by
        have := HP.out
        unfold Hid
        rw [← this]
        cases k <;> simp [per, hin]
      have hf0 : 0 ≤ fd := by rw [HFI.out hin]; omega
      have HFE := Lib.hid (HFI.out hin)
      clear hin HFI HFN
      go_wp2_with fail
      go_wp2
      go_ret2
      refine ⟨w.heap.size + 1, by rw [HRR.out]; rfl, V3.out.below, fun L' i hL => ?_⟩
      rw [HRR.out] at hL
      injection hL with hL
      injection hL with e1 e2
      subst e1; subst e2
      obtain ⟨hn1, B1, cq1, e1, g1⟩ := Wr.of_ownS V3.out.own1
      obtain ⟨B2, cq2, e2, g2, p3, p4⟩ := own_full (xs := L.map flS) (by simpa using V3.out.own2)
      rw [List.length_map] at e2 p3
      have hbx := V3.out.wk
      rw [e1, e2, HFE.out] at hbx
      exact ⟨_, _, _, hbx, by omega, g2.more (by omega), p3, p4⟩
    · have HIN := Lib.hid hin
      have hfn : fd = -1 := HFN.out hin
      clear hin HFI HFN fb1 fb2
      subst hfn
      by_cases h4 : L.length = 400
      · have HRR : Hid (R = none) := by
          obtain rfl : k = 0 := by omega
          have := HP.out
          unfold Hid
          rw [← this]
          simp [per, HIN.out]
        have t4 : (400 : Int) ≤ (L.length : Int) := by omega
        clear h4
        go_wp2
        go_ret2
        exact ⟨w.heap.size + 1, by rw [HRR.out]; rfl, V3.out.below, fun L' i hL => by rw [HRR.out] at hL; cases hL⟩
      · obtain ⟨k', rfl⟩ : ∃ k', k = k' + 1 := ⟨k - 1, by omega⟩
        have t4 : ¬ (400 : Int) ≤ (L.length : Int) := by omega
        have HPN : Hid (per (k' + 1) L (sp, sd, sq) = if sdOk (nxS (sp, sd, sq)) = true then per k' (L ++ [(sp, sd, sq)]) (nxS (sp, sd, sq)) else none) := by
          unfold Hid
          rw [per, if_neg HIN.out]
        have HFl := Lib.hid (fun W : World => l07Floor_any sp sd sq W HOK.out)
        have HNx := Lib.hid (fun W : World => l07Next_any sp sd sq W HOK.out)
        have HLF : Hid ((L ++ [(sp, sd, sq)]).map flS = L.map flS ++ [flS (sp, sd, sq)]) := by unfold Hid; rw [List.map_append]; rfl
        clear h4
        generalize flS (sp, sd, sq) = a at *
        go_wp2_with fail
        refine (HFl.out _).mono ?_
        rintro e w4 ⟨rfl, hb4⟩
        have V4 := Lib.hid (V3.out.next hb4)
        clear V3 x0 x1 x2 y3 y4 hb4
        have B1 := V4.out.wk
        have B0 := V4.out.box
        have x0 := B0.at 0 _ rfl
        have x1 := B0.at 1 _ rfl
        have x2 := B0.at 2 _ rfl
        have y0 := B1.at 0 _ rfl
        have hlt4a : w.heap.size < w4.heap.size := by have := V4.out.lt; omega
        have hlt4b : w.heap.size + 1 < w4.heap.size := by have := V4.out.lt; omega
        have hlt4 := V4.out.lt
        have HO1 := Lib.hid (own_below V4.out.own1 (ext_drew (Below.refl _ _)))
        have hne0 : (Value.slice A1 L.length cp1).ownBlock ≠ some w.heap.size := own_far V4.out.own1 (by omega)
        have hne1 : (Value.slice A1 L.length cp1).ownBlock ≠ some (w.heap.size + 1) := own_far V4.out.own1 (by omega)
        go_wp2_with fail
        go_region_law (first
          | (refine step_append_lies _ (by rfl) _ _ _ (by rfl) (w.heap.size + 2) 117 ti (.agg #[.int .i64 0, .int .i64 0, .int .i64 0]) 3 24 Tryz.underlying124 HI.out hz0 hz1 hz2 rfl (by decide) _ _ _ (by rfl) (HO1.out.alloc _) _ 1 1 [.int .i64 sp, .int .i64 sd, .int .i64 sq] (by rfl) (by rfl) (news_row _ _ _ rfl) (by simp [Value.oneCell']) (by omega) (by unfold maxLen; omega) (by omega) (by simp; omega) _ rfl ?_; intro g6 cap6 w6 hown6 hgrow hat hlt; have B16 := (B1.drew.alloc _).grown hgrow hne1; have B06 := (B0.drew.alloc _).grown hgrow hne0; have z0 := B16.at 0 _ rfl; have G0 := B16.f 0))
        all_goals
          have K1 := Lib.hid (B16.set 0 (.slice (some ⟨g6, 0, none⟩) (L.length + 1) cap6) (by simp))
          have K0 := Lib.hid (B06.setFar (b := w.heap.size + 1) (j := 0) (.slice (some ⟨g6, 0, none⟩) (L.length + 1) cap6) (by omega))
          have O1 : Hid (World.ownsRow (w6.setCell ⟨w.heap.size + 1, 0, none⟩ (.slice (some ⟨g6, 0, none⟩) (L.length + 1) cap6)) (w.heap.size + 2) 117 3 (.slice (some ⟨g6, 0, none⟩) (L.length + 1) cap6) (L.length + 1) ((sdL (L ++ [(sp, sd, sq)])).map (Value.int .i64))) := by
            unfold Hid
            rw [sdL_snoc]
            have h := own_setFar hown6 (g := w.heap.size + 1) (j := 0) (.slice (some ⟨g6, 0, none⟩) (L.length + 1) cap6) (by omega)
            simpa using h
          have hap : Hid (v2.ownBlock ≠ some g6 ∧ (v2.ownBlock = none ∨ v2.ownBlock ≠ (Value.slice A1 L.length cp1).ownBlock)) := by
            have h2 := V4.out.own2.lt
            rcases hat with h | h
            · have h' := V4.out.apart
              rw [h] at h' ⊢
              rcases h' with ⟨h', _⟩ | h'
              · cases h'
              · exact ⟨fun e => h' e.symm, .inr fun e => h' e.symm⟩
            · refine ⟨fun e => ?_, ?_⟩
              · have := (h2 g6 e).2
                (try simp at h)
                omega
              · rcases V4.out.apart with ⟨_, h'⟩ | h'
                · exact .inl h'
                · exact .inr fun e => h' e.symm
          have O2 : Hid (World.ownsRow (w6.setCell ⟨w.heap.size + 1, 0, none⟩ (.slice (some ⟨g6, 0, none⟩) (L.length + 1) cap6)) (w.heap.size + 2) 2 1 v2 L.length ((L.map flS).map (Value.int .i64))) :=
            own_setFar (((own_below V4.out.own2 (ext_drew (Below.refl _ _))).alloc _).kept hgrow hap.out.2) _ (by omega)
          have BE : Hid (Below w.heap.size w (w6.setCell ⟨w.heap.size + 1, 0, none⟩ (.slice (some ⟨g6, 0, none⟩) (L.length + 1) cap6))) :=
            ext_set (below_grown (ext_alloc (ext_drew V4.out.below) _) (HO1.out.alloc _) (by omega) hgrow) (by simp) _
          have hz7 : w.heap.size + 2 ≤ (w6.setCell ⟨w.heap.size + 1, 0, none⟩ (.slice (some ⟨g6, 0, none⟩) (L.length + 1) cap6)).heap.size := by have := hgrow.size; simp at this ⊢; omega
          clear B16 B06 B1 B0 x0 x1 x2 y0 z0 G0 hown6 hgrow hat hlt V4 HO1 hlt4a hlt4b hlt4 hne0 hne1
          generalize w6.setCell ⟨w.heap.size + 1, 0, none⟩ (.slice (some ⟨g6, 0, none⟩) (L.length + 1) cap6) = W7 at *
          obtain ⟨hn2, A2, cp2, rfl, _⟩ := Wr.of_own O2.out
          rw [List.length_map] at hn2
          clear hn2
          have x0 := K1.out.at 1 _ rfl
          have G1 := K1.out.f 1
          have hown := O2.out
          go_wp2_with (at_builtin; refine wpList_append_own_at _ rfl _ _ 24 rfl (w.heap.size + 2) 2 tj (.int .i64 0) 1 8 Tryz.underlying24 HJ.out hy0 hy1 hy2 rfl (by decide) _ _ _ rfl (hown.alloc _) ⟨W7.heap.size, 0, none⟩ 1 1 [.int .i64 a] rfl rfl ?c1 ?c2 ?c3 ?c4 ?c5 ?_)
          case c1 => exact cell_one_new _ _ _
          case c2 => simp [Value.oneCell']
          case c3 => unfold maxLen; omega
          case c4 => omega
          case c5 => simp; omega
          intro v8 w8 hown8 hgr8 _ hat8
          refine Hid.out ?_
          refine Lib.hid ?_
          obtain ⟨B8, c8, e8⟩ := own_slice hown8
          subst e8
          have K18 := (K1.out.alloc (.cells #[.int .i64 a] 2)).grown hgr8 (own_far O2.out (by omega))
          have K08 := (K0.out.alloc (.cells #[.int .i64 a] 2)).grown hgr8 (own_far O2.out (by omega))
          have O18 := (O1.out.alloc (.cells #[.int .i64 a] 2)).kept hgr8 (.inr fun e => hap.out.1 e.symm)
          have V9 : Hid (SoS w (L ++ [(sp, sd, sq)]) (sp, sd, sq) (-1) (.slice (some ⟨g6, 0, none⟩) (L.length + 1) cap6) (.slice B8 (L.length + 1) c8) (w8.setCell ⟨w.heap.size + 1, 1, none⟩ (.slice B8 (L.length + 1) c8))) := by
            refine ⟨K08.setFar _ (by omega), K18.set 1 (.slice B8 (L.length + 1) c8) (by simp), ?_, ?_, ?_, ?_, ?_, HOK.out⟩
            · have h := own_setFar O18 (g := w.heap.size + 1) (j := 1) (.slice B8 (L.length + 1) c8) (by omega)
              simpa using h
            · have h := own_setFar hown8 (g := w.heap.size + 1) (j := 1) (.slice B8 (L.length + 1) c8) (by omega)
              rw [HLF.out]
              simpa using h
            · right
              intro e
              rcases hat8 with h | h
              · rw [h] at e
                exact hap.out.1 e.symm
              · rw [h] at e
                have e' : g6 = _ := Option.some.inj e
                have := (O1.out.lt g6 rfl).2
                (try simp at e')
                omega
            · exact ext_set (below_grown (ext_alloc BE.out _) (O2.out.alloc _) (by omega) hgr8) (by simp) _
            · have := hgr8.size
              simp at this ⊢
              omega
          have y1 := K18.at 1 _ rfl
          have G2 := K18.f 1
          clear K1 K0 O1 O2 BE hown hown8 hgr8 hat8 hap K18 K08 O18 x0 G1
          have z0 := V9.out.box.at 0 _ rfl
          have z1 := V9.out.box.at 1 _ rfl
          have z2 := V9.out.box.at 2 _ rfl
          go_wp2_with fail
          generalize w8.setCell ⟨w.heap.size + 1, 1, none⟩ (.slice B8 (L.length + 1) c8) = W9 at *
          refine (HNx.out _).mono ?_
          rintro e w10 ⟨⟨t1, t2, t3⟩, rfl, ht, hb10⟩
          have V10 := Lib.hid (V9.out.next hb10)
          have HT := Lib.hid ht
          clear V9 y1 G2 z0 z1 z2 ht hb10
          cases hok : sdOk (nxS (sp, sd, sq))
          · have HRR : Hid (R = none) := by
              have h1 := HP.out
              rw [HPN.out, hok] at h1
              exact h1.symm
            clear hok
            go_wp2
            go_ret2
            exact ⟨w.heap.size + 1, by rw [HRR.out]; rfl, ext_alloc V10.out.below _, fun L' i hL => by rw [HRR.out] at hL; cases hL⟩
          · have HPP : Hid (per k' (L ++ [(sp, sd, sq)]) (nxS (sp, sd, sq)) = R) := by
              have h1 := HP.out
              rw [HPN.out, hok, if_pos rfl] at h1
              exact h1
            have hTT := Lib.hid (HT.out hok)
            have HOKN := Lib.hid hok
            rw [← hTT.out] at HPP HOKN
            clear hok
            have z0 := V10.out.box.at 0 _ rfl
            have z1 := V10.out.box.at 1 _ rfl
            have z2 := V10.out.box.at 2 _ rfl
            have Z0 := V10.out.box.f 0
            have Z1 := V10.out.box.f 1
            have Z2 := V10.out.box.f 2
            have hlt10 : w.heap.size < w10.heap.size := by have := V10.out.lt; omega
            have V11 := Lib.hid ((V10.out.setS HOKN.out).next (ext1 _ (.cells #[.int .i64 t1, .int .i64 t2, .int .i64 t3] 117)))
            have HCE := Lib.hid (cellV_eq (V11.out.wk.at 0 _ rfl))
            clear V10
            go_wp2
            go_roundw
            case rel => exact ⟨L ++ [(sp, sd, sq)], (t1, t2, t3), -1, _, _, k', by simp; omega, HPP.out, V11.out⟩
            case measure => rw [HCE.out, cellV_eq HYY.out]; simp [lenOf']; omega
end Go.Proofs.YtjgafjbccfjojaaGreat
