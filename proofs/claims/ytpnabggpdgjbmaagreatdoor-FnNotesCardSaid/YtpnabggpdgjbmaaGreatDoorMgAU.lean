/- Parts of the proof, merged: TextNP TextNS PackIW PackIV. No condition but those that each theorem names. -/
import Derived.Test.YtpnabggpdgjbmaaGreatDoorMgAT
import Derived.Test.YtpnabggpdgjbmaaGreatDoorMgAM
import Derived.Test.YtpnabggpdgjbmaaGreatDoorMgAC
namespace Go.Proofs.YtpnabggpdgjbmaaGreatDoor
open Go.RowKit Go.Sort
/-- The text of notes. -/
def ntsB (xs : List Nt) : ByteArray := if validNt xs = true then ntsO xs xs.length else ⟨#[]⟩
theorem byI_app (a b : ByteArray) : byI (a ++ b) = byI a ++ byI b := by
  unfold byI
  simp [ByteArray.data_append]
theorem byS_byI (s : ByteArray) : byS (byI s) = s := by
  apply byI_byS_inj
where
  byI_byS_inj : byS (byI s) = s := by
    unfold byS byI
    cases s with | mk a =>
    simp only [List.map_map]
    congr 1
    have : (fun n : Int => UInt8.ofNat n.toNat) ∘ (fun b : UInt8 => (b.toNat : Int)) = id := by
      funext b
      simp
    rw [this]
    simp
theorem ntKnd {x : Nt} (h : ntOk x = true) : (x.kind = 1 ∧ fracOk x.num x.den = true) ∨ (x.kind = 2 ∧ termsB x.terms = true) ∨ (x.kind = 3 ∧ surdB x.sp x.sd x.sq = true) := by
  unfold ntOk at h
  rw [Bool.and_eq_true] at h
  obtain ⟨_, h⟩ := h
  split at h
  · rename_i h1; rw [Bool.and_eq_true] at h; exact .inl ⟨h1, h.1⟩
  · split at h
    · rename_i h1; rw [Bool.and_eq_true] at h; exact .inr (.inl ⟨h1, h.1⟩)
    · split at h
      · rename_i h1; rw [Bool.and_eq_true] at h; exact .inr (.inr ⟨h1, h.1⟩)
      · cases h
theorem termsAllBd : ∀ (xs : List Int) (i : Nat), termsAll i xs = true → ∀ x ∈ xs, -1000000000 ≤ x ∧ x ≤ 1000000000
  | [], _, _, x, hx => by cases hx
  | y :: ys, i, h, x, hx => by
    unfold termsAll at h
    rw [Bool.and_eq_true] at h
    rcases List.mem_cons.1 hx with rfl | hx
    · have h1 := h.1
      unfold tmB at h1
      have := inR_true.1 h1
      split at this <;> omega
    · exact termsAllBd ys (i + 1) h.2 x hx
theorem termsBBd {xs : List Int} (h : termsB xs = true) : xs.length ≤ 60 ∧ 1 ≤ xs.length ∧ ∀ x ∈ xs, -1000000000 ≤ x ∧ x ≤ 1000000000 := by
  unfold termsB at h
  rw [Bool.and_eq_true] at h
  have := inR_true.1 h.2
  exact ⟨by omega, by omega, termsAllBd xs 0 h.1⟩
theorem ntBody_size {x : Nt} (h : ntOk x = true) : (ntBody x).size ≤ 1401 := by
  have lz : ({ data := #[93] } : ByteArray).size = 1 := rfl
  unfold ntBody
  rcases ntKnd h with ⟨hk, h1⟩ | ⟨hk, h1⟩ | ⟨hk, h1⟩
  · rw [if_pos hk]
    obtain ⟨d1, d2, n1, n2, _⟩ := fracOk_true.1 h1
    have := frT_size (n := x.num) (d := x.den) (by omega) (by omega) (by omega) (by omega)
    omega
  · rw [if_neg (by omega), if_pos hk]
    obtain ⟨l1, l2, l3⟩ := termsBBd h1
    have := tmO_le l3 l1 x.terms.length (Nat.le_refl _)
    unfold tmT
    rw [appSize]
    omega
  · rw [if_neg (by omega), if_neg (by omega)]
    obtain ⟨⟨d1, d2⟩, _, ⟨p1, p2⟩, ⟨q1, q2⟩, _⟩ := surdB_true.1 h1
    have z0 := decB_size (n := x.sp) (by omega) (by omega)
    have z1 := decB_size (n := x.sd) (by omega) (by omega)
    have z2 := decB_size (n := x.sq) (by omega) (by omega)
    have := (ztS _ _ _ z0 z1 z2).2.2.2.2
    unfold sdT
    omega
theorem ntLine_size {x : Nt} (h : ntOk x = true) : (ntLine x).size ≤ 1500 := by
  have h1 := ntBody_size h
  have h2 := (ntOk_bds h).1
  unfold ntLine
  rw [appSize, appSize, appSize, show ({ data := #[32, 61, 32] } : ByteArray).size = 3 from rfl, show ({ data := #[10] } : ByteArray).size = 1 from rfl]
  omega
theorem ntsO_size {xs : List Nt} (h : ∀ x ∈ xs, ntOk x = true) : ∀ k, (ntsO xs k).size ≤ 1500 * k
  | 0 => Nat.le_refl _
  | k + 1 => by
    have ih := ntsO_size h k
    unfold ntsO
    rw [appSize]
    cases hx : xs[k]? with
    | none => simp only; have : (⟨#[]⟩ : ByteArray).size = 0 := rfl; omega
    | some x => simp only; have := ntLine_size (h x (List.mem_of_getElem? hx)); omega
theorem ntsO_next {xs : List Nt} {k : Nat} {x : Nt} (h : xs[k]? = some x) : ntsO xs (k + 1) = ntsO xs k ++ (((x.name ++ ({ data := #[32, 61, 32] } : ByteArray)) ++ ntBody x) ++ ({ data := #[10] } : ByteArray)) := by
  show ntsO xs k ++ (match xs[k]? with | some x => ntLine x | none => ⟨#[]⟩) = _
  rw [h]; rfl
theorem ztL (a n b : ByteArray) (h1 : a.size ≤ 60000) (h2 : n.size ≤ 12) (h3 : b.size ≤ 1401) : (n ++ ({ data := #[32, 61, 32] } : ByteArray)).size ≤ 100000 ∧ ((n ++ ({ data := #[32, 61, 32] } : ByteArray)) ++ b).size ≤ 100000 ∧ (((n ++ ({ data := #[32, 61, 32] } : ByteArray)) ++ b) ++ ({ data := #[10] } : ByteArray)).size ≤ 100000 ∧ (a ++ (((n ++ ({ data := #[32, 61, 32] } : ByteArray)) ++ b) ++ ({ data := #[10] } : ByteArray))).size ≤ 100000 := by
  have l0 : ({ data := #[32, 61, 32] } : ByteArray).size = 3 := rfl
  have l1 : ({ data := #[10] } : ByteArray).size = 1 := rfl
  simp only [appSize]
  omega
end Go.Proofs.YtpnabggpdgjbmaaGreatDoor
namespace Go.Proofs.YtpnabggpdgjbmaaGreatDoor
open Go.RowKit Go.Sort Go.Maps Go.WideMaps
theorem lineI {xs : List Nt} {k : Nat} {x : Nt} (h : xs[k]? = some x) : byI (ntsO xs (k + 1)) = ((byI (ntsO xs k) ++ byI (x.name ++ ({ data := #[32, 61, 32] } : ByteArray))) ++ byI (ntBody x)) ++ [10] := by
  rw [ntsO_next h, byI_app, byI_app, byI_app (x.name ++ _), show byI ({ data := #[10] } : ByteArray) = [10] from rfl]
  simp only [List.append_assoc]
theorem l27Text_nil (A : Option Addr) (c : Nat) (w : World) :
    Calls Tryz.prog 51 #[.slice A 0 c] w fun e w' => e = .returned (.string ⟨#[]⟩) ∧ Below w.heap.size w w' := by
  have hcv : ∀ W : World, (convert 22 9 (.slice (some ⟨w.heap.size, 0, none⟩) 0 0)).run Tryz.prog W = .ok (.string ⟨#[]⟩) W := fun W =>
    run_convert_bytes_back (P := Tryz.prog) W 22 9 5 ⟨w.heap.size, 0, none⟩ 0 [] Tryz.underlying22 Tryz.underlying5 Tryz.underlying9 (fun j hj => absurd hj (by simp))
  go_enter Tryz.func51, Tryz.ntmps51
  go_wp2_with fail
  have HB := Lib.hid (ext1 w (.cells #[] 5))
  generalize w.alloc (.cells #[] 5) = W0 at *
  go_loopw [3, 4, 5] (fun v t u wr => v = .slice (some ⟨w.heap.size, 0, none⟩) 0 0 ∧ t = .int .i64 0 ∧ Hid (Below w.heap.size w wr)) (fun _ _ _ _ => 0)
  case atStart => exact ⟨rfl, rfl, HB.out⟩
  case round =>
    obtain ⟨rfl, rfl, HR⟩ := hrel
    go_wp2
    go_ret
    exact ⟨rfl, HR.out⟩
set_option maxRecDepth 100000 in
set_option maxHeartbeats 3000000 in
theorem l27Text_any (A : Option Addr) (c : Nat) (xs : List Nt) (w : World) (hr : RdNt w w.heap.size A xs) (hl : xs.length ≤ 40) (hv : validNt xs = true) (h0 : 0 < xs.length) :
    Calls Tryz.prog 51 #[.slice A xs.length c] w fun e w' => e = .returned (.string (ntsO xs xs.length)) ∧ Below w.heap.size w w' := by
  obtain ⟨ti, hi, hz0, hz1, hz2⟩ := info_parts info8
  have HI := Lib.hid hi
  have HR := Lib.hid hr
  have HOK := Lib.hid (valid_all hv).2
  have HSZ : Hid (∀ k, (ntsO xs k).size ≤ 1500 * k) := ntsO_size (valid_all hv).2
  clear hv hr hi
  go_enter Tryz.func51, Tryz.ntmps51
  go_wp2_with fail
  have HO : Hid (OutB w w.heap.size (byI (ntsO xs 0)) (.slice (some ⟨w.heap.size, 0, none⟩) 0 0) (w.alloc (.cells #[] 5))) := by
    refine ⟨?_, ext1 _ _, by simp⟩
    have h := World.ownsRow_lit (base := w.heap.size) (e := 5) (size := 1) w #[] 0 (Nat.le_refl _) (by unfold maxLen; omega) rfl
    simpa [ntsO, byI] using h
  generalize w.alloc (.cells #[] 5) = W0 at *
  go_loopw [3, 4, 5] (fun v t u wr => ∃ k : Nat, k ≤ xs.length ∧ t = .int .i64 k ∧ Hid (OutB w w.heap.size (byI (ntsO xs k)) v wr)) (fun _ t _ _ => xs.length - (intOf t).toNat)
  case atStart => exact ⟨0, by omega, rfl, HO.out⟩
  case round =>
    obtain ⟨k, hk, rfl, HV1⟩ := hrel
    clear HO
    by_cases hlt : k < xs.length
    · obtain ⟨b, off, rfl, hb, hc⟩ := HR.out (by omega)
      obtain ⟨x, hxk⟩ : ∃ x, xs[k]? = some x := ⟨_, List.getElem?_eq_getElem hlt⟩
      obtain ⟨T, ct, cr0, cT⟩ := hc k x hxk
      have HCR : Hid (∀ W, Below w.heap.size w W → NtAt W b (off + k * 8) x T ct) := fun W hbW => (cr0.below hbW hb).nt
      have HTR : Hid (∀ W, Below w.heap.size w W → Rd (Value.int .i64) W W.heap.size T x.terms) := fun W hbW => (cT.1.below hbW).more hbW.size
      have hox := HOK.out x (List.mem_of_getElem? hxk)
      have n12 := (ntOk_bds hox).1
      have hkn := ntKnd hox
      have HST := Lib.hid (lineI hxk)
      have zb := ntBody_size hox
      have zs := HSZ.out k
      have HBY : Hid (ntBody x = if x.kind = 1 then frT x.num x.den else if x.kind = 2 then tmT x.terms else sdT x.sp x.sd x.sq) := rfl
      have z1 : (x.name ++ ({ data := #[32, 61, 32] } : ByteArray)).size ≤ 15 := by rw [appSize, show ({ data := #[32, 61, 32] } : ByteArray).size = 3 from rfl]; omega
      have HN1 : Hid (x.name.size + 3 = (byI (x.name ++ ({ data := #[32, 61, 32] } : ByteArray))).length) := by unfold Hid; rw [byI_length, appSize, show ({ data := #[32, 61, 32] } : ByteArray).size = 3 from rfl]
      have HN2 := Lib.hid (byI_length (ntBody x))
      have hp0 : (byI (ntsO xs k)).length ≤ 60000 := by rw [byI_length]; omega
      have i0 : (0 : Int) ≤ (k : Int) := by omega
      have i1 : (k : Int) < (xs.length : Int) := by omega
      clear cr0 cT hc hxk hox zs
      generalize byI (ntsO xs k) = P at *
      generalize ntBody x = Y at *
      obtain ⟨wo, rfl⟩ : ∃ wo : World, wo = wr := ⟨_, rfl⟩
      have c0 := (HCR.out _ HV1.out.2.1).c0
      have hown := HV1.out.1
      have hbz := HV1.out.2.2
      have hq1 := HN1.out
      go_wp2_with (at_builtin; refine Go.Lib.wpList_append_own_string _ rfl _ _ 22 9 rfl w.heap.size 5 ti Tryz.underlying22 Tryz.underlying9 HI.out hz0 hz1 hz2 _ _ _ rfl hown (x.name ++ ({ data := #[32, 61, 32] } : ByteArray)) rfl ?h2c3 ?h2c4 ?h2c5 ?_)
      case h2c3 => unfold maxLen; omega
      case h2c4 => omega
      case h2c5 => omega
      intro v3 w3 hown3 hgrow3 _
      rw [strCells_byI] at hown3
      have V3 := Lib.hid (OutB.pushL HV1.out (Nat.le_refl _) (Below.refl _ _) (byI (x.name ++ ({ data := #[32, 61, 32] } : ByteArray))) (byI (x.name ++ ({ data := #[32, 61, 32] } : ByteArray))).length v3 w3 rfl hown3 hgrow3)
      have hlp3 : (P ++ byI (x.name ++ ({ data := #[32, 61, 32] } : ByteArray))).length ≤ 60020 := by rw [List.length_append]; omega
      clear hown3 hgrow3 hown c0 HV1 hq1
      generalize P ++ byI (x.name ++ ({ data := #[32, 61, 32] } : ByteArray)) = P3 at *
      have c1 := (HCR.out _ V3.out.2.1).c1
      rcases hkn with ⟨nk, h1⟩ | ⟨nk, h1⟩ | ⟨nk, h1⟩
      · rw [nk] at c1
        have hk1 : x.kind = 1 := nk
        rw [if_pos hk1] at HBY
        obtain ⟨d1, d2, n1, n2, _⟩ := fracOk_true.1 h1
        have HCL := Lib.hid (l02Text_any x.num x.den w3 (by omega) (by omega) (by omega) (by omega))
        rw [← HBY.out] at HCL
        have e2 : w3.cell? ⟨b, off + k * 8 + 2, none⟩ = some (.int .i64 x.num) := (HCR.out _ V3.out.2.1).c2
        have e3 : w3.cell? ⟨b, off + k * 8 + 2 + 1, none⟩ = some (.int .i64 x.den) := (HCR.out _ V3.out.2.1).c3
        clear nk hk1 h1
        go_wp2_with fail
        refine HCL.out.mono ?_
        rintro e w4 ⟨rfl, hb4⟩
        have V4 := Lib.hid (V3.out.next hb4)
        have hown := V4.out.1
        have hbz4 := V4.out.2.2
        have hq2 := HN2.out
        clear hb4 HCL V3
        go_wp2_with (at_builtin; refine Go.Lib.wpList_append_own_string _ rfl _ _ 22 9 rfl w.heap.size 5 ti Tryz.underlying22 Tryz.underlying9 HI.out hz0 hz1 hz2 _ _ _ rfl hown Y rfl ?h3c3 ?h3c4 ?h3c5 ?_)
        case h3c3 => unfold maxLen; omega
        case h3c4 => omega
        case h3c5 => omega
        intro v5 w5 hown5 hgrow5 _
        rw [strCells_byI] at hown5
        have V5 := Lib.hid (OutB.pushL V4.out (Nat.le_refl _) (Below.refl _ _) (byI Y) Y.size v5 w5 HN2.out.symm hown5 hgrow5)
        have hlp5 : (P3 ++ byI Y).length ≤ 62000 := by rw [List.length_append]; omega
        clear hown5 hgrow5 hown V4 hq2
        generalize P3 ++ byI Y = P5 at *
        have hown := V5.out.1
        have hbz5 := V5.out.2.2
        go_wp2_with (at_builtin; refine wpList_append_own _ rfl _ _ 22 rfl w.heap.size 5 ti (.int .u8 0) 1 1 Tryz.underlying22 HI.out hz0 hz1 hz2 rfl (by decide) _ _ _ rfl (hown.alloc _) ⟨w5.heap.size, 0, none⟩ 1 1 [.int .u8 10] rfl rfl ?h4c1 ?h4c2 ?h4c3 ?h4c4 ?h4c5 ?_)
        case h4c1 => exact cell_one_new _ _ _
        case h4c2 => simp [Value.oneCell']
        case h4c3 => unfold maxLen; omega
        case h4c4 => omega
        case h4c5 => first | omega | (simp; omega)
        intro v6 w6 hown6 hgrow6 _
        have V6 := Lib.hid (OutB.push V5.out (Nat.le_refl _) _ _ hown6 hgrow6)
        clear hown6 hgrow6 hown V5
        go_wp2
        go_roundw
        case rel => exact ⟨k + 1, by omega, by go_num, by rw [HST.out]; exact V6.out⟩
        case measure => simp [intOf]; omega
      · rw [nk] at c1
        have hk1 : x.kind = 2 := nk
        rw [if_neg (by omega), if_pos hk1] at HBY
        obtain ⟨l1, l2, l3⟩ := termsBBd h1
        have HCL := Lib.hid (l03Text_any T ct x.terms w3 (HTR.out _ V3.out.2.1) l1 l2 l3)
        rw [← HBY.out] at HCL
        have e2 := (HCR.out _ V3.out.2.1).c4
        clear nk hk1 h1
        go_wp2_with fail
        refine HCL.out.mono ?_
        rintro e w4 ⟨rfl, hb4⟩
        have V4 := Lib.hid (V3.out.next hb4)
        have hown := V4.out.1
        have hbz4 := V4.out.2.2
        have hq2 := HN2.out
        clear hb4 HCL V3
        go_wp2_with (at_builtin; refine Go.Lib.wpList_append_own_string _ rfl _ _ 22 9 rfl w.heap.size 5 ti Tryz.underlying22 Tryz.underlying9 HI.out hz0 hz1 hz2 _ _ _ rfl hown Y rfl ?h3c3 ?h3c4 ?h3c5 ?_)
        case h3c3 => unfold maxLen; omega
        case h3c4 => omega
        case h3c5 => omega
        intro v5 w5 hown5 hgrow5 _
        rw [strCells_byI] at hown5
        have V5 := Lib.hid (OutB.pushL V4.out (Nat.le_refl _) (Below.refl _ _) (byI Y) Y.size v5 w5 HN2.out.symm hown5 hgrow5)
        have hlp5 : (P3 ++ byI Y).length ≤ 62000 := by rw [List.length_append]; omega
        clear hown5 hgrow5 hown V4 hq2
        generalize P3 ++ byI Y = P5 at *
        have hown := V5.out.1
        have hbz5 := V5.out.2.2
        go_wp2_with (at_builtin; refine wpList_append_own _ rfl _ _ 22 rfl w.heap.size 5 ti (.int .u8 0) 1 1 Tryz.underlying22 HI.out hz0 hz1 hz2 rfl (by decide) _ _ _ rfl (hown.alloc _) ⟨w5.heap.size, 0, none⟩ 1 1 [.int .u8 10] rfl rfl ?h4c1 ?h4c2 ?h4c3 ?h4c4 ?h4c5 ?_)
        case h4c1 => exact cell_one_new _ _ _
        case h4c2 => simp [Value.oneCell']
        case h4c3 => unfold maxLen; omega
        case h4c4 => omega
        case h4c5 => first | omega | (simp; omega)
        intro v6 w6 hown6 hgrow6 _
        have V6 := Lib.hid (OutB.push V5.out (Nat.le_refl _) _ _ hown6 hgrow6)
        clear hown6 hgrow6 hown V5
        go_wp2
        go_roundw
        case rel => exact ⟨k + 1, by omega, by go_num, by rw [HST.out]; exact V6.out⟩
        case measure => simp [intOf]; omega
      · rw [nk] at c1
        have hk1 : x.kind = 3 := nk
        rw [if_neg (by omega), if_neg (by omega)] at HBY
        obtain ⟨⟨d1, d2⟩, _, ⟨p1, p2⟩, ⟨q1, q2⟩, _⟩ := surdB_true.1 h1
        have HCL := Lib.hid (l07Txt_any x.sp x.sd x.sq w3 (by omega) (by omega) (by omega) (by omega) (by omega) (by omega))
        rw [← HBY.out] at HCL
        have e2 : w3.cell? ⟨b, off + k * 8 + 5, none⟩ = some (.int .i64 x.sp) := (HCR.out _ V3.out.2.1).c5
        have e3 : w3.cell? ⟨b, off + k * 8 + 5 + 1, none⟩ = some (.int .i64 x.sd) := (HCR.out _ V3.out.2.1).c6
        have e4 : w3.cell? ⟨b, off + k * 8 + 5 + 2, none⟩ = some (.int .i64 x.sq) := (HCR.out _ V3.out.2.1).c7
        clear nk hk1 h1
        go_wp2_with fail
        refine HCL.out.mono ?_
        rintro e w4 ⟨rfl, hb4⟩
        have V4 := Lib.hid (V3.out.next hb4)
        have hown := V4.out.1
        have hbz4 := V4.out.2.2
        have hq2 := HN2.out
        clear hb4 HCL V3
        go_wp2_with (at_builtin; refine Go.Lib.wpList_append_own_string _ rfl _ _ 22 9 rfl w.heap.size 5 ti Tryz.underlying22 Tryz.underlying9 HI.out hz0 hz1 hz2 _ _ _ rfl hown Y rfl ?h3c3 ?h3c4 ?h3c5 ?_)
        case h3c3 => unfold maxLen; omega
        case h3c4 => omega
        case h3c5 => omega
        intro v5 w5 hown5 hgrow5 _
        rw [strCells_byI] at hown5
        have V5 := Lib.hid (OutB.pushL V4.out (Nat.le_refl _) (Below.refl _ _) (byI Y) Y.size v5 w5 HN2.out.symm hown5 hgrow5)
        have hlp5 : (P3 ++ byI Y).length ≤ 62000 := by rw [List.length_append]; omega
        clear hown5 hgrow5 hown V4 hq2
        generalize P3 ++ byI Y = P5 at *
        have hown := V5.out.1
        have hbz5 := V5.out.2.2
        go_wp2_with (at_builtin; refine wpList_append_own _ rfl _ _ 22 rfl w.heap.size 5 ti (.int .u8 0) 1 1 Tryz.underlying22 HI.out hz0 hz1 hz2 rfl (by decide) _ _ _ rfl (hown.alloc _) ⟨w5.heap.size, 0, none⟩ 1 1 [.int .u8 10] rfl rfl ?h4c1 ?h4c2 ?h4c3 ?h4c4 ?h4c5 ?_)
        case h4c1 => exact cell_one_new _ _ _
        case h4c2 => simp [Value.oneCell']
        case h4c3 => unfold maxLen; omega
        case h4c4 => omega
        case h4c5 => first | omega | (simp; omega)
        intro v6 w6 hown6 hgrow6 _
        have V6 := Lib.hid (OutB.push V5.out (Nat.le_refl _) _ _ hown6 hgrow6)
        clear hown6 hgrow6 hown V5
        go_wp2
        go_roundw
        case rel => exact ⟨k + 1, by omega, by go_num, by rw [HST.out]; exact V6.out⟩
        case measure => simp [intOf]; omega
    · have hil : k = xs.length := by omega
      subst hil
      have hxs : 0 < (byI (ntsO xs xs.length)).length := by
        rw [byI_length]
        obtain ⟨m, hm⟩ : ∃ m, xs.length = m + 1 := ⟨xs.length - 1, by omega⟩
        rw [hm, ntsO_next (List.getElem?_eq_getElem (show m < xs.length by omega)), appSize, appSize, show ({ data := #[10] } : ByteArray).size = 1 from rfl]
        omega
      have hbb : ∀ y ∈ byI (ntsO xs xs.length), 0 ≤ y ∧ y ≤ 255 := by
        intro y hy
        unfold byI at hy
        obtain ⟨u, _, rfl⟩ := List.mem_map.1 hy
        have := u.toNat_lt
        omega
      have HBS := Lib.hid (byS_byI (ntsO xs xs.length))
      obtain ⟨A4, c4, rfl, hw4⟩ := HV1.out.slice
      have hcv := conv_bytes (c := c4) hw4.rd hbb hxs
      rw [HBS.out] at hcv
      have HBE := Lib.hid HV1.out.2.1
      clear hw4 hxs hbb HBS HV1 HSZ
      generalize hS : ntsO xs xs.length = S0 at *
      have HSS := Lib.hid hS
      clear hS
      go_wp2
      go_ret
      rw [HSS.out]
      exact ⟨rfl, HBE.out⟩
theorem sNotesText_any (A : Option Addr) (c : Nat) (xs : List Nt) (w : World) (hr : RdNt w w.heap.size A xs) (hf : ∀ x ∈ xs, x.fits) (hl : xs.length ≤ maxLen) :
    Calls Tryz.prog 26 #[.slice A xs.length c] w fun e w' => e = .returned (.string (ntsB xs)) ∧ Below w.heap.size w w' := by
  have HC := Lib.hid (l27Ok_any A c xs w hr hf hl)
  cases hv : validNt xs
  · have HE : Hid (ntsB xs = ⟨#[]⟩) := by unfold Hid ntsB; rw [hv]; rfl
    rw [hv] at HC
    clear hv hr hf hl
    generalize ntsB xs = R at *
    go_enter Tryz.func26, Tryz.ntmps26
    go_wp2_with fail
    refine HC.out.mono ?_
    rintro e w1 ⟨rfl, hb1⟩
    go_wp2
    go_ret
    rw [HE.out]
    exact ⟨rfl, hb1⟩
  · have HE : Hid (ntsB xs = ntsO xs xs.length) := by unfold Hid ntsB; rw [hv]; rfl
    rw [hv] at HC
    have HT : Hid (∀ W, Below w.heap.size w W → Calls Tryz.prog 51 #[.slice A xs.length c] W fun e w' => e = .returned (.string (ntsO xs xs.length)) ∧ Below W.heap.size W w') := fun W hb => by
      by_cases h0 : 0 < xs.length
      · exact l27Text_any A c xs W ((hr.below hb).more hb.size) (valid_all hv).1 hv h0
      · obtain rfl : xs = [] := List.eq_nil_of_length_eq_zero (by omega)
        exact l27Text_nil A c W
    rw [← HE.out] at HT
    clear hv hr hf hl HE
    generalize ntsB xs = R at *
    go_enter Tryz.func26, Tryz.ntmps26
    go_wp2_with fail
    refine HC.out.mono ?_
    rintro e w1 ⟨rfl, hb1⟩
    go_wp2_with fail
    refine (HT.out w1 hb1).mono ?_
    rintro e w2 ⟨rfl, hb2⟩
    go_wp2
    go_ret
    exact ⟨rfl, ext_trans hb1 hb2⟩
end Go.Proofs.YtpnabggpdgjbmaaGreatDoor
namespace Go.Proofs.YtpnabggpdgjbmaaGreatDoor
open Go.RowKit Go.Sort Go.Maps Go.WideMaps
set_option maxRecDepth 100000 in
set_option maxHeartbeats 4000000 in
theorem iPackNotes_bad (A : Option Addr) (c : Nat) (xs : List Nt) (w : World) (hr : RdNt w w.heap.size A xs) (hf : ∀ x ∈ xs, x.fits) (hl : xs.length ≤ maxLen) (hv : validNt xs = false) :
    Calls Tryz.prog 19 #[.slice A xs.length c] w fun e w' => e = .returned (.tuple #[.string ByteArray.empty, .int .i64 1]) ∧ Below w.heap.size w w' := by
  have HC := Lib.hid (iValidNotes_any A c xs w hr hf hl)
  rw [hv] at HC
  clear hv hr hf
  go_enter Tryz.func19, Tryz.ntmps19
  go_wp2_with fail
  refine HC.out.mono ?_
  rintro e w1 ⟨rfl, hb1⟩
  go_wp2
  go_ret2
  exact ⟨rfl, hb1⟩
set_option maxRecDepth 100000 in
set_option maxHeartbeats 4000000 in
theorem sPackNotes_bad (A : Option Addr) (c : Nat) (xs : List Nt) (w : World) (hr : RdNt w w.heap.size A xs) (hf : ∀ x ∈ xs, x.fits) (hl : xs.length ≤ maxLen) (hv : validNt xs = false) :
    Calls Tryz.prog 20 #[.slice A xs.length c] w fun e w' => e = .returned (.tuple #[.string ByteArray.empty, .int .i64 1]) ∧ Below w.heap.size w w' := by
  have HC := Lib.hid (l27Ok_any A c xs w hr hf hl)
  rw [hv] at HC
  clear hv hr hf
  go_enter Tryz.func20, Tryz.ntmps20
  go_wp2_with fail
  refine HC.out.mono ?_
  rintro e w1 ⟨rfl, hb1⟩
  go_wp2
  go_ret2
  exact ⟨rfl, hb1⟩
end Go.Proofs.YtpnabggpdgjbmaaGreatDoor
namespace Go.Proofs.YtpnabggpdgjbmaaGreatDoor
open Go.RowKit Go.Sort Go.Maps Go.WideMaps
/-- A row of bytes does not lie in a block that begins with a string. -/
theorem OutB.farBox {w : World} {base : Nat} {out : List Int} {v : Value} {wr : World} {g : Nat} {s : ByteArray} {vs : List Value} (h : OutB w base out v wr) (h0 : 0 < out.length) (hb : BoxV g (.string s :: vs) wr) : v.ownBlock ≠ some g := by
  intro e
  obtain ⟨g', cap, rfl, _, _, _, _, hc⟩ := own_at h.1 h0
  have e' : g' = g := by injection e
  subst e'
  obtain ⟨z, hz⟩ : ∃ z, out[0]? = some z := ⟨_, List.getElem?_eq_getElem h0⟩
  have c1 := hc 0 (.int .u8 z) (by simp [hz])
  have c2 := hb.at 0 _ rfl
  rw [c1] at c2
  cases c2
theorem take_bds {xs : List Nt} (h : validNt xs = true) (k : Nat) : ([78, (xs.length : Int)] ++ ((xs.take k).map noteB).flatten).length ≤ 28002 := by
  obtain ⟨h1, h2⟩ := valid_all h
  have h3 := books_length (xs := xs.take k) (fun x hx => noteB_length (ntOk_bds (h2 x (List.mem_of_mem_take hx))).1 (ntOk_nu (h2 x (List.mem_of_mem_take hx))).1 (ntOk_nu (h2 x (List.mem_of_mem_take hx))).2)
  have h4 : (xs.take k).length ≤ 40 := by rw [List.length_take]; omega
  simp only [List.length_append, List.length_cons, List.length_nil]
  omega
theorem ntOk_terms {x : Nt} (h : ntOk x = true) : x.terms.length ≤ 60 := by
  have h3 := ntOk_nu h
  obtain ⟨_, hk⟩ := ntOk_bds h
  unfold ntOk at h
  rw [Bool.and_eq_true] at h
  have h := h.2
  rcases hk with hk | hk | hk
  · rw [if_pos hk] at h
    simp [Nt.zT] at h
    simp [h.2.1]
  · have h4 := h3.2
    unfold nuL at h4
    rw [if_neg (by omega), if_pos hk] at h4
    simp at h4
    exact h4
  · rw [if_neg (by omega), if_neg (by omega), if_pos hk] at h
    simp [Nt.zT] at h
    simp [h.2.2]
/-- The numbers' row lies apart from the bytes' row. -/
def Far (v : Value) (A : Option Addr) : Prop := ∀ b off, A = some ⟨b, off, none⟩ → v.ownBlock ≠ some b
structure PkIn (w : World) (pre ns : List Int) (A : Option Addr) (v : Value) (wr : World) : Prop where
  out : OutB w w.heap.size pre v wr
  rdn : Rd (Value.int .i64) wr wr.heap.size A ns
  far : 0 < ns.length → Far v A
theorem PkIn.start {w W wr : World} {pre ns : List Int} {A : Option Addr} {v : Value} (h : OutB w w.heap.size pre v W) (hb : Below W.heap.size W wr) (hw : Wr (Value.int .i64) wr W.heap.size A ns) : PkIn w pre ns A v wr :=
  ⟨h.next hb, hw.rd, fun h0 b off e => by
    obtain ⟨b', off', e', h1, _⟩ := hw h0
    rw [e] at e'
    injection e' with e'
    injection e' with e1 e2
    subst e1
    intro e3
    have := (h.1.lt b e3).2
    omega⟩
theorem PkIn.next {w wr w2 : World} {pre ns : List Int} {A : Option Addr} {v : Value} (h : PkIn w pre ns A v wr) (hb : Below wr.heap.size wr w2) : PkIn w pre ns A v w2 :=
  ⟨h.out.next hb, (h.rdn.below hb).more hb.size, h.far⟩
theorem PkIn.push {w wr w3 : World} {pre ns news : List Int} {A : Option Addr} {v v' : Value} (h : PkIn w pre ns A v wr) (m : Nat) (hm : m = news.length)
    (hown3 : w3.ownsRow w.heap.size 5 1 v' (pre.length + m) (pre.map (Value.int .u8) ++ news.map (Value.int .u8))) (hg : wr.grownBy w3 v.ownBlock) (hat : v'.ownBlock = v.ownBlock ∨ v'.ownBlock = some wr.heap.size) : PkIn w (pre ++ news) ns A v' w3 := by
  refine ⟨h.out.pushL (Nat.le_refl _) (Below.refl _ _) news m v' w3 hm hown3 hg, fun h0 => ?_, fun h0 b off e => ?_⟩
  · obtain ⟨b, off, e, hlt, hc⟩ := h.rdn h0
    refine ⟨b, off, e, Nat.lt_of_lt_of_le hlt hg.size, fun j x hx => ?_⟩
    exact (World.cell?_of_block (a := ⟨b, off + j, none⟩) (hg.block b hlt (fun e2 => h.far h0 b off e e2.symm))).trans (hc j x hx)
  · rcases hat with e2 | e2
    · rw [e2]; exact h.far h0 b off e
    · rw [e2]
      intro e3
      injection e3 with e3
      obtain ⟨b', off', e', hlt, _⟩ := h.rdn h0
      rw [e] at e'
      injection e' with e'
      injection e' with e1 _
      omega
theorem bytes_news {xs : List Int} {w : World} {b off : Nat} (hr : ∀ j x, xs[j]? = some x → w.cell? ⟨b, off + j, none⟩ = some (Value.int .u8 x)) : ∀ j u, (xs.map (Value.int .u8))[j]? = some u → w.cell? ((⟨b, off, none⟩ : Addr).add j) = some u := by
  intro j u hu
  rw [List.getElem?_map] at hu
  cases hx : xs[j]? with
  | none => rw [hx] at hu; cases hu
  | some x =>
    rw [hx] at hu
    obtain rfl := Option.some.inj hu
    have ea : (⟨b, off, none⟩ : Addr).add j = ⟨b, off + j, none⟩ := by simp [Addr.add]
    rw [ea]
    exact hr j x hx
theorem bookOut {w : World} {B : Nat} {xs : List Nt} {v : Value} {wr : World} (h : OutB w B ([78, (xs.length : Int)] ++ (xs.map noteB).flatten) v wr) : OutB w B (bookB xs) v wr := h
set_option maxRecDepth 100000 in
set_option maxHeartbeats 4000000 in
theorem iPackNotes_good (A : Option Addr) (c : Nat) (xs : List Nt) (w : World) (hr : RdNt w w.heap.size A xs) (hf : ∀ x ∈ xs, x.fits) (hl : xs.length ≤ 40) (hv : validNt xs = true) :
    Calls Tryz.prog 19 #[.slice A xs.length c] w fun e w' => e = .returned (.tuple #[.string (endB (bookB xs)), .int .i64 0]) ∧ Below w.heap.size w w' := by
  obtain ⟨ti, hi, hz0, hz1, hz2⟩ := info_parts info8
  have HI := Lib.hid hi
  have HC := Lib.hid (iValidNotes_any A c xs w hr hf (by unfold maxLen; omega))
  rw [hv] at HC
  have HR := Lib.hid hr
  have HV := Lib.hid hv
  have HF := Lib.hid hf
  clear hv hr hf hi
  have v1 : IntKind.u8.wrap (xs.length : Int) = (xs.length : Int) := by simp [IntKind.wrap, IntKind.bits, IntKind.signed]; omega
  go_enter Tryz.func19, Tryz.ntmps19
  go_wp2_with fail
  refine HC.out.mono ?_
  rintro e w1 ⟨rfl, hb1⟩
  go_wp2_with fail
  have HO : Hid (OutB w w.heap.size ([78, (xs.length : Int)] ++ ((xs.take 0).map noteB).flatten) (.slice (some ⟨w1.heap.size, 0, none⟩) 2 2) (w1.alloc (.cells #[.int .u8 78, .int .u8 (xs.length : Int)] 5))) := by
    refine ⟨?_, ext_alloc hb1 _, by have := hb1.size; simp; omega⟩
    have h := World.ownsRow_lit (base := w.heap.size) (e := 5) (size := 1) w1 #[.int .u8 78, .int .u8 (xs.length : Int)] 2 hb1.size (by unfold maxLen; omega) rfl
    simpa using h
  generalize w1.alloc (.cells #[.int .u8 78, .int .u8 (xs.length : Int)] 5) = W0 at *
  go_loopw [4, 19] (fun v t wr => ∃ k : Nat, k ≤ xs.length ∧ t = .int .i64 k ∧ Hid (OutB w w.heap.size ([78, (xs.length : Int)] ++ ((xs.take k).map noteB).flatten) v wr)) (fun _ t _ => xs.length - (intOf t).toNat)
  case atStart => exact ⟨0, by omega, rfl, HO.out⟩
  case round =>
    obtain ⟨k, hk, rfl, HV1⟩ := hrel
    clear HO
    by_cases hlt : k < xs.length
    · obtain ⟨b, off, rfl, hb, hc⟩ := HR.out (by omega)
      obtain ⟨x, hxk⟩ : ∃ x, xs[k]? = some x := ⟨_, List.getElem?_eq_getElem hlt⟩
      obtain ⟨T, ct, cr0, cT⟩ := hc k x hxk
      obtain ⟨c0, c1, c2, c3, c4, c5, c6, c7⟩ := (cr0.below HV1.out.2.1 hb).nt
      have hox := (valid_all HV.out).2 x (List.mem_of_getElem? hxk)
      obtain ⟨n12, nk⟩ := ntOk_bds hox
      have ht60 := ntOk_terms hox
      have HNU := Lib.hid (ntOk_nu hox)
      have hP0 := take_bds HV.out k
      have HST : Hid ([78, (xs.length : Int)] ++ ((xs.take (k + 1)).map noteB).flatten = ((([78, (xs.length : Int)] ++ ((xs.take k).map noteB).flatten) ++ [(x.name.size : Int)]) ++ byI x.name ++ [x.kind]) ++ pkA (nuL x)) := by
        unfold Hid
        rw [book_step hxk]
        simp [noteB]
      have hpos : 0 < ([78, (xs.length : Int)] ++ ((xs.take k).map noteB).flatten).length := by simp
      have i0 : (0 : Int) ≤ (k : Int) := by omega
      have i1 : (k : Int) < (xs.length : Int) := by omega
      have u1 : IntKind.u8.wrap (x.name.size : Int) = (x.name.size : Int) := by simp [IntKind.wrap, IntKind.bits, IntKind.signed]; omega
      have u2 : IntKind.u8.wrap x.kind = x.kind := by simp [IntKind.wrap, IntKind.bits, IntKind.signed]; omega
      have HNO : Hid (∀ W, Below w.heap.size w W → Calls Tryz.prog 57 #[.agg #[.string x.name, .int .i64 x.kind, .int .i64 x.num, .int .i64 x.den, .slice T x.terms.length ct, .int .i64 x.sp, .int .i64 x.sd, .int .i64 x.sq]] W (RetList W (nuL x))) := fun W hbW => numbersOf_any x T ct W ((cT.1.below hbW).more hbW.size) (by omega)
      have HBL := Lib.hid (byI_length x.name)
      clear cr0 cT hc hxk hox
      generalize [78, (xs.length : Int)] ++ ((xs.take k).map noteB).flatten = P at *
      generalize nuL x = ns at *
      obtain ⟨wo, rfl⟩ : ∃ wo : World, wo = wr := ⟨_, rfl⟩
      have B1 := Lib.hid (BoxV.new wo #[.string x.name, .int .i64 x.kind, .int .i64 x.num, .int .i64 x.den, .slice T x.terms.length ct, .int .i64 x.sp, .int .i64 x.sd, .int .i64 x.sq] 31)
      have V1 := Lib.hid (HV1.out.next (ext1 wo (.cells #[.string x.name, .int .i64 x.kind, .int .i64 x.num, .int .i64 x.den, .slice T x.terms.length ct, .int .i64 x.sp, .int .i64 x.sd, .int .i64 x.sq] 31)))
      have hown := V1.out.1
      have hbz := HV1.out.2.2
      go_wp2_with (at_builtin; refine wpList_append_own _ rfl _ _ 22 rfl w.heap.size 5 ti (.int .u8 0) 1 1 Tryz.underlying22 HI.out hz0 hz1 hz2 rfl (by decide) _ _ _ rfl (hown.alloc _) ⟨wo.heap.size + 1, 0, none⟩ 1 1 [.int .u8 (x.name.size : Int)] rfl rfl ?h1c1 ?h1c2 ?h1c3 ?h1c4 ?h1c5 ?_)
      case h1c2 => simp [Value.oneCell']
      case h1c3 => unfold maxLen; omega
      case h1c4 => omega
      case h1c5 => first | omega | (simp; omega)
      intro v2 w2 hown2 hgrow2 _
      have V2 := Lib.hid (OutB.push V1.out (Nat.le_refl _) _ _ hown2 hgrow2)
      have B2 := Lib.hid ((B1.out.alloc _).grown hgrow2 (V1.out.farBox hpos B1.out))
      have hlp2 : (P ++ [(x.name.size : Int)]).length ≤ 28003 ∧ 0 < (P ++ [(x.name.size : Int)]).length := by simp; omega
      clear hown2 hgrow2 hown B1 V1 c0 c1 c2 c3 c4 c5 c6 c7 HV1
      generalize P ++ [(x.name.size : Int)] = P2 at *
      obtain ⟨hlp2, hlq2⟩ := hlp2
      have x0 := B2.out.at 0 _ rfl
      have hown := V2.out.1
      have hbz2 := V2.out.2.2
      go_wp2_with (at_builtin; refine Go.Lib.wpList_append_own_string _ rfl _ _ 22 9 rfl w.heap.size 5 ti Tryz.underlying22 Tryz.underlying9 HI.out hz0 hz1 hz2 _ _ _ rfl hown x.name rfl ?h2c3 ?h2c4 ?h2c5 ?_)
      case h2c3 => unfold maxLen; omega
      case h2c4 => omega
      case h2c5 => omega
      intro v3 w3 hown3 hgrow3 _
      rw [strCells_byI] at hown3
      have V3 := Lib.hid (OutB.pushL V2.out (Nat.le_refl _) (Below.refl _ _) (byI x.name) x.name.size v3 w3 HBL.out.symm hown3 hgrow3)
      have B3 := Lib.hid (B2.out.grown hgrow3 (V2.out.farBox (by omega) B2.out))
      have hlp3 : (P2 ++ byI x.name).length ≤ 28015 ∧ 0 < (P2 ++ byI x.name).length := by simp [HBL.out]; omega
      clear hown3 hgrow3 hown B2 V2 x0
      generalize P2 ++ byI x.name = P3 at *
      obtain ⟨hlp3, hlq3⟩ := hlp3
      have x1 := B3.out.at 1 _ rfl
      have hown := V3.out.1
      have hbz3 := V3.out.2.2
      go_wp2_with (at_builtin; refine wpList_append_own _ rfl _ _ 22 rfl w.heap.size 5 ti (.int .u8 0) 1 1 Tryz.underlying22 HI.out hz0 hz1 hz2 rfl (by decide) _ _ _ rfl (hown.alloc _) ⟨w3.heap.size, 0, none⟩ 1 1 [.int .u8 x.kind] rfl rfl ?h3c1 ?h3c2 ?h3c3 ?h3c4 ?h3c5 ?_)
      case h3c1 => exact cell_one_new _ _ _
      case h3c2 => simp [Value.oneCell']
      case h3c3 => unfold maxLen; omega
      case h3c4 => omega
      case h3c5 => first | omega | (simp; omega)
      intro v4 w4 hown4 hgrow4 _
      have V4 := Lib.hid (OutB.push V3.out (Nat.le_refl _) _ _ hown4 hgrow4)
      have B4 := Lib.hid ((B3.out.alloc _).grown hgrow4 (V3.out.farBox (by omega) B3.out))
      have hlp4 : (P3 ++ [x.kind]).length ≤ 28016 := by simp; omega
      clear hown4 hgrow4 hown B3 V3 x1
      generalize P3 ++ [x.kind] = P4 at *
      have x0 := B4.out.at 0 _ rfl
      have x1 := B4.out.at 1 _ rfl
      have x2 := B4.out.at 2 _ rfl
      have x3 := B4.out.at 3 _ rfl
      have x4 := B4.out.at 4 _ rfl
      have x5 := B4.out.at 5 _ rfl
      have x6 := B4.out.at 6 _ rfl
      have x7 := B4.out.at 7 _ rfl
      go_wp2_with fail
      refine (HNO.out _ V4.out.2.1).mono ?_
      rintro e w5 ⟨A5, c5, rfl, hw5, hb5⟩
      have V5 := Lib.hid (PkIn.start V4.out hb5 hw5)
      clear x0 x1 x2 x3 x4 x5 x6 x7 hw5 hb5 V4 B4 HNO
      have hn61 := HNU.out.2
      have HBN := Lib.hid HNU.out.1
      clear HNU
      go_wp2_with fail
      go_loopw [4, 43] (fun v t wr => ∃ j : Nat, j ≤ ns.length ∧ t = .int .i64 j ∧ Hid (PkIn w (P4 ++ pkA (ns.take j)) ns A5 v wr)) (fun _ t _ => ns.length - (intOf t).toNat)
      case atStart => exact ⟨0, by omega, rfl, by unfold Hid; simpa [pkA] using V5.out⟩
      case round =>
        obtain ⟨j, hj, rfl, HV6⟩ := hrel
        clear V5
        by_cases hlj : j < ns.length
        · obtain ⟨bn, offn, rfl, hbn, hcn⟩ := HV6.out.rdn (by omega)
          obtain ⟨n, hnj⟩ : ∃ n, ns[j]? = some n := ⟨_, List.getElem?_eq_getElem hlj⟩
          have cn := hcn j n hnj
          obtain ⟨m1, m2⟩ := HBN.out n (List.mem_of_getElem? hnj)
          have HTK : Hid (P4 ++ pkA (ns.take (j + 1)) = (P4 ++ pkA (ns.take j)) ++ pkL (zigN n)) := by
            unfold Hid
            rw [List.take_add_one, hnj]
            show P4 ++ pkA (ns.take j ++ [n]) = _
            rw [pkA_snoc, List.append_assoc]
          have hpl := pkL_zig m1 m2
          have hpp : 0 < (pkL (zigN n)).length := by rw [pkL]; split <;> simp
          have hpa := pkA_length (ns := ns.take j) (fun m hm => HBN.out m (List.mem_of_mem_take hm))
          have htl : (ns.take j).length ≤ 61 := by rw [List.length_take]; omega
          have hpl2 : (P4 ++ pkA (ns.take j)).length ≤ 30000 := by rw [List.length_append]; omega
          have HPK := Lib.hid (fun W : World => packNumber_any n W m1 m2)
          have j0 : (0 : Int) ≤ (j : Int) := by omega
          have j1 : (j : Int) < (ns.length : Int) := by omega
          clear hcn hnj hpa htl
          generalize P4 ++ pkA (ns.take j) = Q at *
          generalize pkL (zigN n) = L at *
          go_wp2_with fail
          refine (HPK.out _).mono ?_
          rintro e w6 ⟨A6, c6, rfl, hw6, hb6⟩
          have V6 := Lib.hid (HV6.out.next hb6)
          obtain ⟨b6, off6, rfl, hb6l, hb6h, hc6, _⟩ := hw6 hpp
          have HC6 := Lib.hid hc6
          have hown := V6.out.out.1
          have hbz6 := V6.out.out.2.2
          clear hc6 cn HV6 hw6
          go_wp2_with (at_builtin; refine wpList_append_own_at _ rfl _ _ 22 rfl w.heap.size 5 ti (.int .u8 0) 1 1 Tryz.underlying22 HI.out hz0 hz1 hz2 rfl (by decide) _ _ _ rfl hown ⟨b6, off6, none⟩ L.length c6 (L.map (Value.int .u8)) rfl (by simp) ?h4c1 ?h4c2 ?h4c3 ?h4c4 ?h4c5 ?_)
          case h4c1 => exact bytes_news HC6.out
          case h4c2 => intro u hu; obtain ⟨y, _, rfl⟩ := List.mem_map.1 hu; rfl
          case h4c3 => unfold maxLen; omega
          case h4c4 => omega
          case h4c5 => omega
          intro v7 w7 hown7 hgrow7 _ hat7
          have V7 := Lib.hid (V6.out.push L.length rfl hown7 hgrow7 hat7)
          clear hown7 hgrow7 hat7 hown
          go_wp2
          go_roundw
          case rel => exact ⟨j + 1, by omega, by go_num, by rw [HTK.out]; exact V7.out⟩
          case measure => simp [intOf]; omega
        · have hj' : j = ns.length := by omega
          have hE := HV6.out.out
          rw [hj', List.take_length] at hE
          have HE := Lib.hid hE
          have j1 : ¬ (j : Int) < (ns.length : Int) := by omega
          clear HV6 hj' hE
          go_wp2
          go_roundw
          case rel => exact ⟨k + 1, by omega, by go_num, by rw [HST.out]; exact HE.out⟩
          case measure => simp [intOf]; omega
    · have hk' : k = xs.length := by omega
      obtain ⟨b1, b2, b3⟩ := book_bds HV.out
      have hv2 := HV1.out
      rw [hk', List.take_length] at hv2
      have HV2 := Lib.hid (bookOut hv2)
      clear hv2
      obtain ⟨A4, c4, rfl, hw4⟩ := HV2.out.slice
      obtain ⟨k1, k2⟩ := ckS_bd (bookB xs) 1 b2 (by omega) (by omega)
      have HS := Lib.hid (checksum_any A4 c4 (bookB xs) wr hw4.rd b2 (by omega))
      have HE : Hid (endB (bookB xs) = byS (bookB xs ++ [ckS (bookB xs) 1 / 256, ckS (bookB xs) 1 % 256])) := rfl
      have hb2 : Hid (∀ x ∈ bookB xs ++ [ckS (bookB xs) 1 / 256, ckS (bookB xs) 1 % 256], 0 ≤ x ∧ x ≤ 255) := by
        intro x hx
        rcases List.mem_append.1 hx with h | h
        · exact b2 x h
        · simp only [List.mem_cons, List.not_mem_nil, or_false] at h
          rcases h with rfl | rfl <;> omega
      have i1 : ¬ (k : Int) < (xs.length : Int) := by omega
      clear HV1 hw4 b2 HR HF HV hk'
      generalize ckS (bookB xs) 1 = s at *
      have v3 : s.tdiv 256 = s / 256 := Int.tdiv_eq_ediv_of_nonneg (by omega)
      have v4 : s.tmod 256 = s % 256 := Int.tmod_eq_emod_of_nonneg (by omega)
      have v5 : IntKind.i64.wrap (s / 256) = s / 256 := IntWalk.i64_in _ (by omega)
      have v6 : IntKind.i64.wrap (s % 256) = s % 256 := IntWalk.i64_in _ (by omega)
      have v7 : IntKind.u8.wrap (s / 256) = s / 256 := by simp [IntKind.wrap, IntKind.bits, IntKind.signed] <;> omega
      have v8 : IntKind.u8.wrap (s % 256) = s % 256 := by simp [IntKind.wrap, IntKind.bits, IntKind.signed] <;> omega
      go_wp2_with fail
      refine HS.out.mono ?_
      rintro e w2 ⟨rfl, hb3⟩
      have HV3 := Lib.hid (HV2.out.next hb3)
      have hown := HV3.out.1
      have hbz := HV3.out.2.2
      go_wp2_with (at_builtin; refine wpList_append_own _ rfl _ _ 22 rfl w.heap.size 5 ti (.int .u8 0) 1 1 Tryz.underlying22 HI.out hz0 hz1 hz2 rfl (by decide) _ _ _ rfl (hown.alloc _) ⟨w2.heap.size, 0, none⟩ 2 2 [.int .u8 (s / 256), .int .u8 (s % 256)] rfl rfl ?h5c1 ?h5c2 ?h5c3 ?h5c4 ?h5c5 ?_)
      case h5c1 => exact news_row w2 _ _ rfl
      case h5c2 => simp [Value.oneCell']
      case h5c3 => unfold maxLen; omega
      case h5c4 => omega
      case h5c5 => first | omega | (simp; omega)
      intro v' w4 hown3 hgrow _
      have HV4 := OutB.pushL HV3.out (Nat.le_refl _) (ext1 w2 _) [s / 256, s % 256] 2 v' w4 rfl hown3 hgrow
      obtain ⟨A5, c5, rfl, hw5⟩ := HV4.slice
      have hcv4 := conv_bytes (c := c5) hw5.rd hb2.out (by simp)
      rw [← HE.out, show (bookB xs ++ [s / 256, s % 256]).length = (bookB xs).length + 2 from by simp] at hcv4
      have HBW := Lib.hid HV4.2.1
      clear hown3 hgrow hw5 hown HV4
      generalize hEE : endB (bookB xs) = E at *
      have HEE := Lib.hid hEE
      clear hEE
      go_wp2
      go_ret2
      exact ⟨by rw [HEE.out]; rfl, HBW.out⟩
end Go.Proofs.YtpnabggpdgjbmaaGreatDoor
