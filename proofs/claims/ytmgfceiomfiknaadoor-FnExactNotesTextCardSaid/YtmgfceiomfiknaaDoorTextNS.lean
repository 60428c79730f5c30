/- The text of a notebook: the reference's walk. No condition but those that each theorem names. -/
import Derived.Test.YtmgfceiomfiknaaDoorTextNP
namespace Go.Proofs.YtmgfceiomfiknaaDoor
open Go.RowKit Go.Sort Go.Maps Go.WideMaps

theorem lineI {xs : List Nt} {k : Nat} {x : Nt} (h : xs[k]? = some x) : byI (ntsO xs (k + 1)) = ((byI (ntsO xs k) ++ byI (x.name ++ ({ data := #[32, 61, 32] } : ByteArray))) ++ byI (ntBody x)) ++ [10] := by
  rw [ntsO_next h, byI_app, byI_app, byI_app (x.name ++ _), show byI ({ data := #[10] } : ByteArray) = [10] from rfl]
  simp only [List.append_assoc]
theorem l27Text_nil (A : Option Addr) (c : Nat) (w : World) :
    Calls Tryd.prog 29 #[.slice A 0 c] w fun e w' => e = .returned (.string ⟨#[]⟩) ∧ Below w.heap.size w w' := by
  have hcv : ∀ W : World, (convert 72 9 (.slice (some ⟨w.heap.size, 0, none⟩) 0 0)).run Tryd.prog W = .ok (.string ⟨#[]⟩) W := fun W =>
    run_convert_bytes_back (P := Tryd.prog) W 72 9 5 ⟨w.heap.size, 0, none⟩ 0 [] Tryd.underlying72 Tryd.underlying5 Tryd.underlying9 (fun j hj => absurd hj (by simp))
  go_enter Tryd.func29, Tryd.ntmps29
  go_wp2_with fail
  have HB := Lib.hid (ext1 w (.cells #[] 5))
  generalize w.alloc (.cells #[] 5) = W0 at *
  go_loopw [3, 4, 5] (fun v t u wr => v = .slice (some ⟨w.heap.size, 0, none⟩) 0 0 ∧ t = .int .i64 0 ∧ Hid (Below w.heap.size w wr)) (fun _ _ _ _ => 0)
  case atStart => exact ⟨rfl, rfl, HB.out⟩
  case round =>
    obtain ⟨rfl, rfl, HR⟩ := hrel
    go_wp2
    go_ret
    exact ⟨rfl, HR.out⟩
set_option maxRecDepth 100000 in
set_option maxHeartbeats 3000000 in
theorem l27Text_any (A : Option Addr) (c : Nat) (xs : List Nt) (w : World) (hr : RdNt w w.heap.size A xs) (hl : xs.length ≤ 40) (hv : validNt xs = true) (h0 : 0 < xs.length) :
    Calls Tryd.prog 29 #[.slice A xs.length c] w fun e w' => e = .returned (.string (ntsO xs xs.length)) ∧ Below w.heap.size w w' := by
  obtain ⟨ti, hi, hz0, hz1, hz2⟩ := info_parts info8
  have HI := Lib.hid hi
  have HR := Lib.hid hr
  have HOK := Lib.hid (valid_all hv).2
  have HSZ : Hid (∀ k, (ntsO xs k).size ≤ 1500 * k) := ntsO_size (valid_all hv).2
  clear hv hr hi
  go_enter Tryd.func29, Tryd.ntmps29
  go_wp2_with fail
  have HO : Hid (OutB w w.heap.size (byI (ntsO xs 0)) (.slice (some ⟨w.heap.size, 0, none⟩) 0 0) (w.alloc (.cells #[] 5))) := by
    refine ⟨?_, ext1 _ _, by simp⟩
    have h := World.ownsRow_lit (base := w.heap.size) (e := 5) (size := 1) w #[] 0 (Nat.le_refl _) (by unfold maxLen; omega) rfl
    simpa [ntsO, byI] using h
  generalize w.alloc (.cells #[] 5) = W0 at *
  go_loopw [3, 4, 5] (fun v t u wr => ∃ k : Nat, k ≤ xs.length ∧ t = .int .i64 k ∧ Hid (OutB w w.heap.size (byI (ntsO xs k)) v wr)) (fun _ t _ _ => xs.length - (intOf t).toNat)
  case atStart => exact ⟨0, by omega, rfl, HO.out⟩
  case round =>
    obtain ⟨k, hk, rfl, HV1⟩ := hrel
    clear HO
    by_cases hlt : k < xs.length
    · obtain ⟨b, off, rfl, hb, hc⟩ := HR.out (by omega)
      obtain ⟨x, hxk⟩ : ∃ x, xs[k]? = some x := ⟨_, List.getElem?_eq_getElem hlt⟩
      obtain ⟨T, ct, cr0, cT⟩ := hc k x hxk
      have HCR : Hid (∀ W, Below w.heap.size w W → NtAt W b (off + k * 8) x T ct) := fun W hbW => (cr0.below hbW hb).nt
      have HTR : Hid (∀ W, Below w.heap.size w W → Rd (Value.int .i64) W W.heap.size T x.terms) := fun W hbW => (cT.1.below hbW).more hbW.size
      have hox := HOK.out x (List.mem_of_getElem? hxk)
      have n12 := (ntOk_bds hox).1
      have hkn := ntKnd hox
      have HST := Lib.hid (lineI hxk)
      have zb := ntBody_size hox
      have zs := HSZ.out k
      have HBY : Hid (ntBody x = if x.kind = 1 then frT x.num x.den else if x.kind = 2 then tmT x.terms else sdT x.sp x.sd x.sq) := rfl
      have z1 : (x.name ++ ({ data := #[32, 61, 32] } : ByteArray)).size ≤ 15 := by rw [appSize, show ({ data := #[32, 61, 32] } : ByteArray).size = 3 from rfl]; omega
      have HN1 : Hid (x.name.size + 3 = (byI (x.name ++ ({ data := #[32, 61, 32] } : ByteArray))).length) := by unfold Hid; rw [byI_length, appSize, show ({ data := #[32, 61, 32] } : ByteArray).size = 3 from rfl]
      have HN2 := Lib.hid (byI_length (ntBody x))
      have hp0 : (byI (ntsO xs k)).length ≤ 60000 := by rw [byI_length]; omega
      have i0 : (0 : Int) ≤ (k : Int) := by omega
      have i1 : (k : Int) < (xs.length : Int) := by omega
      clear cr0 cT hc hxk hox zs
      generalize byI (ntsO xs k) = P at *
      generalize ntBody x = Y at *
      obtain ⟨wo, rfl⟩ : ∃ wo : World, wo = wr := ⟨_, rfl⟩
      have c0 := (HCR.out _ HV1.out.2.1).c0
      have hown := HV1.out.1
      have hbz := HV1.out.2.2
      have hq1 := HN1.out
      go_wp2_with (at_builtin; refine Go.Lib.wpList_append_own_string _ rfl _ _ 72 9 rfl w.heap.size 5 ti Tryd.underlying72 Tryd.underlying9 HI.out hz0 hz1 hz2 _ _ _ rfl hown (x.name ++ ({ data := #[32, 61, 32] } : ByteArray)) rfl ?h2c3 ?h2c4 ?h2c5 ?_)
      case h2c3 => unfold maxLen; omega
      case h2c4 => omega
      case h2c5 => omega
      intro v3 w3 hown3 hgrow3 _
      rw [strCells_byI] at hown3
      have V3 := Lib.hid (OutB.pushL HV1.out (Nat.le_refl _) (Below.refl _ _) (byI (x.name ++ ({ data := #[32, 61, 32] } : ByteArray))) (byI (x.name ++ ({ data := #[32, 61, 32] } : ByteArray))).length v3 w3 rfl hown3 hgrow3)
      have hlp3 : (P ++ byI (x.name ++ ({ data := #[32, 61, 32] } : ByteArray))).length ≤ 60020 := by rw [List.length_append]; omega
      clear hown3 hgrow3 hown c0 HV1 hq1
      generalize P ++ byI (x.name ++ ({ data := #[32, 61, 32] } : ByteArray)) = P3 at *
      have c1 := (HCR.out _ V3.out.2.1).c1
      rcases hkn with ⟨nk, h1⟩ | ⟨nk, h1⟩ | ⟨nk, h1⟩
      · rw [nk] at c1
        have hk1 : x.kind = 1 := nk
        rw [if_pos hk1] at HBY
        obtain ⟨d1, d2, n1, n2, _⟩ := fracOk_true.1 h1
        have HCL := Lib.hid (l02Text_any x.num x.den w3 (by omega) (by omega) (by omega) (by omega))
        rw [← HBY.out] at HCL
        have e2 : w3.cell? ⟨b, off + k * 8 + 2, none⟩ = some (.int .i64 x.num) := (HCR.out _ V3.out.2.1).c2
        have e3 : w3.cell? ⟨b, off + k * 8 + 2 + 1, none⟩ = some (.int .i64 x.den) := (HCR.out _ V3.out.2.1).c3
        clear nk hk1 h1
        go_wp2_with fail
        refine HCL.out.mono ?_
        rintro e w4 ⟨rfl, hb4⟩
        have V4 := Lib.hid (V3.out.next hb4)
        have hown := V4.out.1
        have hbz4 := V4.out.2.2
        have hq2 := HN2.out
        clear hb4 HCL V3
        go_wp2_with (at_builtin; refine Go.Lib.wpList_append_own_string _ rfl _ _ 72 9 rfl w.heap.size 5 ti Tryd.underlying72 Tryd.underlying9 HI.out hz0 hz1 hz2 _ _ _ rfl hown Y rfl ?h3c3 ?h3c4 ?h3c5 ?_)
        case h3c3 => unfold maxLen; omega
        case h3c4 => omega
        case h3c5 => omega
        intro v5 w5 hown5 hgrow5 _
        rw [strCells_byI] at hown5
        have V5 := Lib.hid (OutB.pushL V4.out (Nat.le_refl _) (Below.refl _ _) (byI Y) Y.size v5 w5 HN2.out.symm hown5 hgrow5)
        have hlp5 : (P3 ++ byI Y).length ≤ 62000 := by rw [List.length_append]; omega
        clear hown5 hgrow5 hown V4 hq2
        generalize P3 ++ byI Y = P5 at *
        have hown := V5.out.1
        have hbz5 := V5.out.2.2
        go_wp2_with (at_builtin; refine wpList_append_own _ rfl _ _ 72 rfl w.heap.size 5 ti (.int .u8 0) 1 1 Tryd.underlying72 HI.out hz0 hz1 hz2 rfl (by decide) _ _ _ rfl (hown.alloc _) ⟨w5.heap.size, 0, none⟩ 1 1 [.int .u8 10] rfl rfl ?h4c1 ?h4c2 ?h4c3 ?h4c4 ?h4c5 ?_)
        case h4c1 => exact cell_one_new _ _ _
        case h4c2 => simp [Value.oneCell']
        case h4c3 => unfold maxLen; omega
        case h4c4 => omega
        case h4c5 => first | omega | (simp; omega)
        intro v6 w6 hown6 hgrow6 _
        have V6 := Lib.hid (OutB.push V5.out (Nat.le_refl _) _ _ hown6 hgrow6)
        clear hown6 hgrow6 hown V5
        go_wp2
        go_roundw
        case rel => exact ⟨k + 1, by omega, by go_num, by rw [HST.out]; exact V6.out⟩
        case measure => simp [intOf]; omega
      · rw [nk] at c1
        have hk1 : x.kind = 2 := nk
        rw [if_neg (by omega), if_pos hk1] at HBY
        obtain ⟨l1, l2, l3⟩ := termsBBd h1
        have HCL := Lib.hid (l03Text_any T ct x.terms w3 (HTR.out _ V3.out.2.1) l1 l2 l3)
        rw [← HBY.out] at HCL
        have e2 := (HCR.out _ V3.out.2.1).c4
        clear nk hk1 h1
        go_wp2_with fail
        refine HCL.out.mono ?_
        rintro e w4 ⟨rfl, hb4⟩
        have V4 := Lib.hid (V3.out.next hb4)
        have hown := V4.out.1
        have hbz4 := V4.out.2.2
        have hq2 := HN2.out
        clear hb4 HCL V3
        go_wp2_with (at_builtin; refine Go.Lib.wpList_append_own_string _ rfl _ _ 72 9 rfl w.heap.size 5 ti Tryd.underlying72 Tryd.underlying9 HI.out hz0 hz1 hz2 _ _ _ rfl hown Y rfl ?h3c3 ?h3c4 ?h3c5 ?_)
        case h3c3 => unfold maxLen; omega
        case h3c4 => omega
        case h3c5 => omega
        intro v5 w5 hown5 hgrow5 _
        rw [strCells_byI] at hown5
        have V5 := Lib.hid (OutB.pushL V4.out (Nat.le_refl _) (Below.refl _ _) (byI Y) Y.size v5 w5 HN2.out.symm hown5 hgrow5)
        have hlp5 : (P3 ++ byI Y).length ≤ 62000 := by rw [List.length_append]; omega
        clear hown5 hgrow5 hown V4 hq2
        generalize P3 ++ byI Y = P5 at *
        have hown := V5.out.1
        have hbz5 := V5.out.2.2
        go_wp2_with (at_builtin; refine wpList_append_own _ rfl _ _ 72 rfl w.heap.size 5 ti (.int .u8 0) 1 1 Tryd.underlying72 HI.out hz0 hz1 hz2 rfl (by decide) _ _ _ rfl (hown.alloc _) ⟨w5.heap.size, 0, none⟩ 1 1 [.int .u8 10] rfl rfl ?h4c1 ?h4c2 ?h4c3 ?h4c4 ?h4c5 ?_)
        case h4c1 => exact cell_one_new _ _ _
        case h4c2 => simp [Value.oneCell']
        case h4c3 => unfold maxLen; omega
        case h4c4 => omega
        case h4c5 => first | omega | (simp; omega)
        intro v6 w6 hown6 hgrow6 _
        have V6 := Lib.hid (OutB.push V5.out (Nat.le_refl _) _ _ hown6 hgrow6)
        clear hown6 hgrow6 hown V5
        go_wp2
        go_roundw
        case rel => exact ⟨k + 1, by omega, by go_num, by rw [HST.out]; exact V6.out⟩
        case measure => simp [intOf]; omega
      · rw [nk] at c1
        have hk1 : x.kind = 3 := nk
        rw [if_neg (by omega), if_neg (by omega)] at HBY
        obtain ⟨⟨d1, d2⟩, _, ⟨p1, p2⟩, ⟨q1, q2⟩, _⟩ := surdB_true.1 h1
        have HCL := Lib.hid (l07Txt_any x.sp x.sd x.sq w3 (by omega) (by omega) (by omega) (by omega) (by omega) (by omega))
        rw [← HBY.out] at HCL
        have e2 : w3.cell? ⟨b, off + k * 8 + 5, none⟩ = some (.int .i64 x.sp) := (HCR.out _ V3.out.2.1).c5
        have e3 : w3.cell? ⟨b, off + k * 8 + 5 + 1, none⟩ = some (.int .i64 x.sd) := (HCR.out _ V3.out.2.1).c6
        have e4 : w3.cell? ⟨b, off + k * 8 + 5 + 2, none⟩ = some (.int .i64 x.sq) := (HCR.out _ V3.out.2.1).c7
        clear nk hk1 h1
        go_wp2_with fail
        refine HCL.out.mono ?_
        rintro e w4 ⟨rfl, hb4⟩
        have V4 := Lib.hid (V3.out.next hb4)
        have hown := V4.out.1
        have hbz4 := V4.out.2.2
        have hq2 := HN2.out
        clear hb4 HCL V3
        go_wp2_with (at_builtin; refine Go.Lib.wpList_append_own_string _ rfl _ _ 72 9 rfl w.heap.size 5 ti Tryd.underlying72 Tryd.underlying9 HI.out hz0 hz1 hz2 _ _ _ rfl hown Y rfl ?h3c3 ?h3c4 ?h3c5 ?_)
        case h3c3 => unfold maxLen; omega
        case h3c4 => omega
        case h3c5 => omega
        intro v5 w5 hown5 hgrow5 _
        rw [strCells_byI] at hown5
        have V5 := Lib.hid (OutB.pushL V4.out (Nat.le_refl _) (Below.refl _ _) (byI Y) Y.size v5 w5 HN2.out.symm hown5 hgrow5)
        have hlp5 : (P3 ++ byI Y).length ≤ 62000 := by rw [List.length_append]; omega
        clear hown5 hgrow5 hown V4 hq2
        generalize P3 ++ byI Y = P5 at *
        have hown := V5.out.1
        have hbz5 := V5.out.2.2
        go_wp2_with (at_builtin; refine wpList_append_own _ rfl _ _ 72 rfl w.heap.size 5 ti (.int .u8 0) 1 1 Tryd.underlying72 HI.out hz0 hz1 hz2 rfl (by decide) _ _ _ rfl (hown.alloc _) ⟨w5.heap.size, 0, none⟩ 1 1 [.int .u8 10] rfl rfl ?h4c1 ?h4c2 ?h4c3 ?h4c4 ?h4c5 ?_)
        case h4c1 => exact cell_one_new _ _ _
        case h4c2 => simp [Value.oneCell']
        case h4c3 => unfold maxLen; omega
        case h4c4 => omega
        case h4c5 => first | omega | (simp; omega)
        intro v6 w6 hown6 hgrow6 _
        have V6 := Lib.hid (OutB.push V5.out (Nat.le_refl _) _ _ hown6 hgrow6)
        clear hown6 hgrow6 hown V5
        go_wp2
        go_roundw
        case rel => exact ⟨k + 1, by omega, by go_num, by rw [HST.out]; exact V6.out⟩
        case measure => simp [intOf]; omega
    · have hil : k = xs.length := by omega
      subst hil
      have hxs : 0 < (byI (ntsO xs xs.length)).length := by
        rw [byI_length]
        obtain ⟨m, hm⟩ : ∃ m, xs.length = m + 1 := ⟨xs.length - 1, by omega⟩
        rw [hm, ntsO_next (List.getElem?_eq_getElem (show m < xs.length by omega)), appSize, appSize, show ({ data := #[10] } : ByteArray).size = 1 from rfl]
        omega
      have hbb : ∀ y ∈ byI (ntsO xs xs.length), 0 ≤ y ∧ y ≤ 255 := by
        intro y hy
        unfold byI at hy
        obtain ⟨u, _, rfl⟩ := List.mem_map.1 hy
        have := u.toNat_lt
        omega
      have HBS := Lib.hid (byS_byI (ntsO xs xs.length))
      obtain ⟨A4, c4, rfl, hw4⟩ := HV1.out.slice
      have hcv := conv_bytes (c := c4) hw4.rd hbb hxs
      rw [HBS.out] at hcv
      have HBE := Lib.hid HV1.out.2.1
      clear hw4 hxs hbb HBS HV1 HSZ
      generalize hS : ntsO xs xs.length = S0 at *
      have HSS := Lib.hid hS
      clear hS
      go_wp2
      go_ret
      rw [HSS.out]
      exact ⟨rfl, HBE.out⟩
theorem sNotesText_any (A : Option Addr) (c : Nat) (xs : List Nt) (w : World) (hr : RdNt w w.heap.size A xs) (hf : ∀ x ∈ xs, x.fits) (hl : xs.length ≤ maxLen) :
    Calls Tryd.prog 12 #[.slice A xs.length c] w fun e w' => e = .returned (.string (ntsB xs)) ∧ Below w.heap.size w w' := by
  have HC := Lib.hid (l27Ok_any A c xs w hr hf hl)
  cases hv : validNt xs
  · have HE : Hid (ntsB xs = ⟨#[]⟩) := by unfold Hid ntsB; rw [hv]; rfl
    rw [hv] at HC
    clear hv hr hf hl
    generalize ntsB xs = R at *
    go_enter Tryd.func12, Tryd.ntmps12
    go_wp2_with fail
    refine HC.out.mono ?_
    rintro e w1 ⟨rfl, hb1⟩
    go_wp2
    go_ret
    rw [HE.out]
    exact ⟨rfl, hb1⟩
  · have HE : Hid (ntsB xs = ntsO xs xs.length) := by unfold Hid ntsB; rw [hv]; rfl
    rw [hv] at HC
    have HT : Hid (∀ W, Below w.heap.size w W → Calls Tryd.prog 29 #[.slice A xs.length c] W fun e w' => e = .returned (.string (ntsO xs xs.length)) ∧ Below W.heap.size W w') := fun W hb => by
      by_cases h0 : 0 < xs.length
      · exact l27Text_any A c xs W ((hr.below hb).more hb.size) (valid_all hv).1 hv h0
      · obtain rfl : xs = [] := List.eq_nil_of_length_eq_zero (by omega)
        exact l27Text_nil A c W
    rw [← HE.out] at HT
    clear hv hr hf hl HE
    generalize ntsB xs = R at *
    go_enter Tryd.func12, Tryd.ntmps12
    go_wp2_with fail
    refine HC.out.mono ?_
    rintro e w1 ⟨rfl, hb1⟩
    go_wp2_with fail
    refine (HT.out w1 hb1).mono ?_
    rintro e w2 ⟨rfl, hb2⟩
    go_wp2
    go_ret
    exact ⟨rfl, ext_trans hb1 hb2⟩
end Go.Proofs.YtmgfceiomfiknaaDoor
