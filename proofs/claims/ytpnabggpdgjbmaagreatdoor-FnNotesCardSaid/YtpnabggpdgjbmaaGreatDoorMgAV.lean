/- Parts of the proof, merged: PackSV DrawUpW RunNtP. No condition but those that each theorem names. -/
import Derived.Test.YtpnabggpdgjbmaaGreatDoorMgAU
import Derived.Deep.RegionHeld3
import Derived.Test.YtpnabggpdgjbmaaGreatDoorMgAQ
import Derived.Test.YtpnabggpdgjbmaaGreatDoorMgAS
import Derived.Test.YtpnabggpdgjbmaaGreatDoorMgAP
import Derived.Test.YtpnabggpdgjbmaaGreatDoorMgAN
import Derived.Laws.CopyOwn
import Derived.Deep.DeepAppendRoom
import Derived.Lib.AppendZerosOnto
namespace Go.Proofs.YtpnabggpdgjbmaaGreatDoor
open Go.RowKit Go.Sort Go.Maps Go.WideMaps
theorem pkA_cons (n : Int) (ns : List Int) : pkA (n :: ns) = pkL (zigN n) ++ pkA ns := by simp [pkA]
theorem pkA_nil : pkA [] = [] := rfl
theorem nuL_1 {x : Nt} (h : x.kind = 1) : nuL x = [x.num, x.den] := by unfold nuL; rw [if_pos h]
theorem nuL_2 {x : Nt} (h : x.kind = 2) : nuL x = (x.terms.length : Int) :: x.terms := by unfold nuL; rw [if_neg (by omega), if_pos h]
theorem nuL_3 {x : Nt} (h : x.kind = 3) : nuL x = [x.sp, x.sd, x.sq] := by unfold nuL; rw [if_neg (by omega), if_neg (by omega)]
set_option maxRecDepth 100000 in
set_option maxHeartbeats 3000000 in
theorem l27Pack_any (A : Option Addr) (c : Nat) (xs : List Nt) (w : World) (hr : RdNt w w.heap.size A xs) (hl : xs.length ≤ 40) (hv : validNt xs = true) :
    Calls Tryz.prog 60 #[.slice A xs.length c] w fun e w' => e = .returned (.string (endB (bookB xs))) ∧ Below w.heap.size w w' := by
  obtain ⟨ti, hi, hz0, hz1, hz2⟩ := info_parts info8
  have HI := Lib.hid hi
  have HR := Lib.hid hr
  have HV := Lib.hid hv
  clear hv hr hi
  have v1 : IntKind.u8.wrap (xs.length : Int) = (xs.length : Int) := by simp [IntKind.wrap, IntKind.bits, IntKind.signed]; omega
  go_enter Tryz.func60, Tryz.ntmps60
  go_wp2_with fail
  have HO : Hid (OutB w w.heap.size ([78, (xs.length : Int)] ++ ((xs.take 0).map noteB).flatten) (.slice (some ⟨w.heap.size, 0, none⟩) 2 2) (w.alloc (.cells #[.int .u8 78, .int .u8 (xs.length : Int)] 5))) := by
    refine ⟨?_, ext1 _ _, by simp⟩
    have h := World.ownsRow_lit (base := w.heap.size) (e := 5) (size := 1) w #[.int .u8 78, .int .u8 (xs.length : Int)] 2 (Nat.le_refl _) (by unfold maxLen; omega) rfl
    simpa using h
  generalize w.alloc (.cells #[.int .u8 78, .int .u8 (xs.length : Int)] 5) = W0 at *
  go_loopw [3, 4] (fun v t wr => ∃ k : Nat, k ≤ xs.length ∧ t = .int .i64 k ∧ Hid (OutB w w.heap.size ([78, (xs.length : Int)] ++ ((xs.take k).map noteB).flatten) v wr)) (fun _ t _ => xs.length - (intOf t).toNat)
  case atStart => exact ⟨0, by omega, rfl, HO.out⟩
  case round =>
    obtain ⟨k, hk, rfl, HV1⟩ := hrel
    clear HO
    by_cases hlt : k < xs.length
    · obtain ⟨b, off, rfl, hb, hc⟩ := HR.out (by omega)
      obtain ⟨x, hxk⟩ : ∃ x, xs[k]? = some x := ⟨_, List.getElem?_eq_getElem hlt⟩
      obtain ⟨T, ct, cr0, cT⟩ := hc k x hxk
      have HCR : Hid (∀ W, Below w.heap.size w W → NtAt W b (off + k * 8) x T ct) := fun W hbW => (cr0.below hbW hb).nt
      have HTR : Hid (∀ W, Below w.heap.size w W → Rd (Value.int .i64) W w.heap.size T x.terms) := fun W hbW => cT.1.below hbW
      have hox := (valid_all HV.out).2 x (List.mem_of_getElem? hxk)
      obtain ⟨n12, nk⟩ := ntOk_bds hox
      have ht60 := ntOk_terms hox
      have HNU := Lib.hid (ntOk_nu hox)
      have hP0 := take_bds HV.out k
      have HST : Hid ([78, (xs.length : Int)] ++ ((xs.take (k + 1)).map noteB).flatten = ((([78, (xs.length : Int)] ++ ((xs.take k).map noteB).flatten) ++ [(x.name.size : Int)]) ++ byI x.name ++ [x.kind]) ++ pkA (nuL x)) := by
        unfold Hid
        rw [book_step hxk]
        simp [noteB]
      have i0 : (0 : Int) ≤ (k : Int) := by omega
      have i1 : (k : Int) < (xs.length : Int) := by omega
      have u1 : IntKind.u8.wrap (x.name.size : Int) = (x.name.size : Int) := by simp [IntKind.wrap, IntKind.bits, IntKind.signed]; omega
      have u2 : IntKind.u8.wrap x.kind = x.kind := by simp [IntKind.wrap, IntKind.bits, IntKind.signed]; omega
      have HBL := Lib.hid (byI_length x.name)
      clear cr0 cT hc hxk hox
      generalize [78, (xs.length : Int)] ++ ((xs.take k).map noteB).flatten = P at *
      obtain ⟨wo, rfl⟩ : ∃ wo : World, wo = wr := ⟨_, rfl⟩
      have c0 := (HCR.out _ HV1.out.2.1).c0
      have hown := HV1.out.1
      have hbz := HV1.out.2.2
      go_wp2_with (at_builtin; refine wpList_append_own _ rfl _ _ 22 rfl w.heap.size 5 ti (.int .u8 0) 1 1 Tryz.underlying22 HI.out hz0 hz1 hz2 rfl (by decide) _ _ _ rfl (hown.alloc _) ⟨wo.heap.size, 0, none⟩ 1 1 [.int .u8 (x.name.size : Int)] rfl rfl ?h1c1 ?h1c2 ?h1c3 ?h1c4 ?h1c5 ?_)
      case h1c1 => exact cell_one_new _ _ _
      case h1c2 => simp [Value.oneCell']
      case h1c3 => unfold maxLen; omega
      case h1c4 => omega
      case h1c5 => first | omega | (simp; omega)
      intro v2 w2 hown2 hgrow2 _
      have V2 := Lib.hid (OutB.push HV1.out (Nat.le_refl _) _ _ hown2 hgrow2)
      have hlp2 : (P ++ [(x.name.size : Int)]).length ≤ 28003 ∧ 0 < (P ++ [(x.name.size : Int)]).length := by simp; omega
      clear hown2 hgrow2 hown c0 HV1
      generalize P ++ [(x.name.size : Int)] = P2 at *
      obtain ⟨hlp2, hlq2⟩ := hlp2
      have c0 := (HCR.out _ V2.out.2.1).c0
      have hown := V2.out.1
      have hbz2 := V2.out.2.2
      go_wp2_with (at_builtin; refine Go.Lib.wpList_append_own_string _ rfl _ _ 22 9 rfl w.heap.size 5 ti Tryz.underlying22 Tryz.underlying9 HI.out hz0 hz1 hz2 _ _ _ rfl hown x.name rfl ?h2c3 ?h2c4 ?h2c5 ?_)
      case h2c3 => unfold maxLen; omega
      case h2c4 => omega
      case h2c5 => omega
      intro v3 w3 hown3 hgrow3 _
      rw [strCells_byI] at hown3
      have V3 := Lib.hid (OutB.pushL V2.out (Nat.le_refl _) (Below.refl _ _) (byI x.name) x.name.size v3 w3 HBL.out.symm hown3 hgrow3)
      have hlp3 : (P2 ++ byI x.name).length ≤ 28015 ∧ 0 < (P2 ++ byI x.name).length := by simp [HBL.out]; omega
      clear hown3 hgrow3 hown V2 c0
      generalize P2 ++ byI x.name = P3 at *
      obtain ⟨hlp3, hlq3⟩ := hlp3
      have c1 := (HCR.out _ V3.out.2.1).c1
      have hown := V3.out.1
      have hbz3 := V3.out.2.2
      go_wp2_with (at_builtin; refine wpList_append_own _ rfl _ _ 22 rfl w.heap.size 5 ti (.int .u8 0) 1 1 Tryz.underlying22 HI.out hz0 hz1 hz2 rfl (by decide) _ _ _ rfl (hown.alloc _) ⟨w3.heap.size, 0, none⟩ 1 1 [.int .u8 x.kind] rfl rfl ?h3c1 ?h3c2 ?h3c3 ?h3c4 ?h3c5 ?_)
      case h3c1 => exact cell_one_new _ _ _
      case h3c2 => simp [Value.oneCell']
      case h3c3 => unfold maxLen; omega
      case h3c4 => omega
      case h3c5 => first | omega | (simp; omega)
      intro v4 w4 hown4 hgrow4 _
      have V4 := Lib.hid (OutB.push V3.out (Nat.le_refl _) _ _ hown4 hgrow4)
      have hlp4 : (P3 ++ [x.kind]).length ≤ 28016 := by simp; omega
      clear hown4 hgrow4 hown V3 c1
      generalize P3 ++ [x.kind] = P4 at *
      have hPP : P4.length ≤ 30000 := by omega
      clear hlp2 hlp3 hlp4 hP0 u1 u2 hbz hbz2 hbz3
      have HPUT : Hid (∀ (Q : List Int) (v : Value) (n : Int) (W : World), OutB w w.heap.size Q v W → Q.length ≤ 1000000 → -1000000000000000 ≤ n → n ≤ 1000000000000000 → Calls Tryz.prog 104 #[v, .int .i64 n] W fun e w' => ∃ v', e = .returned v' ∧ OutB w w.heap.size (Q ++ pkL (zigN n)) v' w') := fun Q v n W h1 h2 h3 h4 => l27Put_any w w.heap.size Q v n W h1 (Nat.le_refl _) h2 h3 h4
      have c1 := (HCR.out _ V4.out.2.1).c1
      have VD := Lib.hid (V4.out.next (ext_drew (Below.refl _ _)))
      rcases nk with nk | nk | nk
      · rw [nk] at c1
        rw [nuL_1 nk, pkA_cons, pkA_cons, pkA_nil, List.append_nil, ← List.append_assoc] at HST
        have hN := HNU.out.1
        rw [nuL_1 nk] at hN
        obtain ⟨a1, a2⟩ := hN x.num (by simp)
        obtain ⟨a3, a4⟩ := hN x.den (by simp)
        have l1 := pkL_zig a1 a2
        have H1 := Lib.hid (HPUT.out P4 v4 x.num _ VD.out (by omega) a1 a2)
        have H2 : Hid (∀ v W, OutB w w.heap.size (P4 ++ pkL (zigN x.num)) v W → Calls Tryz.prog 104 #[v, .int .i64 x.den] W fun e w' => ∃ v', e = .returned v' ∧ OutB w w.heap.size ((P4 ++ pkL (zigN x.num)) ++ pkL (zigN x.den)) v' w') := fun v W h => HPUT.out _ v x.den W h (by simp; omega) a3 a4
        have HS : Hid (∀ W, Below w.heap.size w W → W.cell? ⟨b, off + k * 8 + 2, none⟩ = some (.int .i64 x.num) ∧ W.cell? ⟨b, off + k * 8 + 2 + 1, none⟩ = some (.int .i64 x.den)) := fun W h => ⟨(HCR.out W h).c2, (HCR.out W h).c3⟩
        clear HNU hN HPUT l1
        generalize P4 ++ pkL (zigN x.num) = Q1 at *
        generalize Q1 ++ pkL (zigN x.den) = Q2 at *
        go_wp2_with fail
        go_region_held3 (fun w' => w'.cell? ⟨b, off + k * 8 + 2, none⟩ = some (.int .i64 x.num) ∧ w'.cell? ⟨b, off + k * 8 + 2 + 1, none⟩ = some (.int .i64 x.den))
          (first | exact HS.out _ VD.out.2.1 | exact HS.out _ hV5.2.1 | exact HS.out _ hV6.2.1)
          (first | (go_at_call 104; (with_reducible refine H1.out.mono ?_); rintro e w5 ⟨v5, rfl, hV5⟩) | (go_at_call 104; (with_reducible refine (H2.out _ _ hV5).mono ?_); rintro e w6 ⟨v6, rfl, hV6⟩))
        all_goals
          have HV6 := Lib.hid hV6
          clear hV6
          go_wp2
          go_roundw
          case rel => exact ⟨k + 1, by omega, by go_num, by rw [HST.out]; exact HV6.out⟩
          case measure => simp [intOf]; omega
      · rw [nk] at c1
        rw [nuL_2 nk, pkA_cons, ← List.append_assoc] at HST
        have hN := HNU.out.1
        rw [nuL_2 nk] at hN
        have HBN : Hid (∀ n ∈ x.terms, -1000000000000000 ≤ n ∧ n ≤ 1000000000000000) := fun n hn => hN n (by simp [hn])
        have l1 := pkL_zig (n := (x.terms.length : Int)) (by omega) (by omega)
        have H1 := Lib.hid (HPUT.out P4 v4 (x.terms.length : Int) _ V4.out (by omega) (by omega) (by omega))
        have hQ1 : (P4 ++ pkL (zigN (x.terms.length : Int))).length ≤ 30010 := by simp; omega
        have c4 := (HCR.out _ V4.out.2.1).c4
        clear HNU hN l1 VD
        generalize P4 ++ pkL (zigN (x.terms.length : Int)) = Q1 at *
        go_wp2_with fail
        refine H1.out.mono ?_
        rintro e w5 ⟨v5, rfl, hV5⟩
        have V5 := Lib.hid hV5
        clear hV5 c1 c4
        go_wp2_with fail
        go_loopw [3, 6] (fun v t wr => ∃ j : Nat, j ≤ x.terms.length ∧ t = .int .i64 j ∧ Hid (OutB w w.heap.size (Q1 ++ pkA (x.terms.take j)) v wr)) (fun _ t _ => x.terms.length - (intOf t).toNat)
        case atStart => exact ⟨0, by omega, rfl, by unfold Hid; simpa [pkA] using V5.out⟩
        case round =>
          obtain ⟨j, hj, rfl, HV6⟩ := hrel
          clear V5
          have c4 := (HCR.out _ HV6.out.2.1).c4
          by_cases hlj : j < x.terms.length
          · obtain ⟨bn, offn, rfl, hbn, hcn⟩ := (HTR.out _ HV6.out.2.1) (by omega)
            obtain ⟨n, hnj⟩ : ∃ n, x.terms[j]? = some n := ⟨_, List.getElem?_eq_getElem hlj⟩
            have cn := hcn j n hnj
            obtain ⟨m1, m2⟩ := HBN.out n (List.mem_of_getElem? hnj)
            have HTK : Hid (Q1 ++ pkA (x.terms.take (j + 1)) = (Q1 ++ pkA (x.terms.take j)) ++ pkL (zigN n)) := by
              unfold Hid
              rw [List.take_add_one, hnj]
              show Q1 ++ pkA (x.terms.take j ++ [n]) = _
              rw [pkA_snoc, List.append_assoc]
            have hpa := pkA_length (ns := x.terms.take j) (fun m hm => HBN.out m (List.mem_of_mem_take hm))
            have htl : (x.terms.take j).length ≤ 60 := by rw [List.length_take]; omega
            have hpl2 : (Q1 ++ pkA (x.terms.take j)).length ≤ 40000 := by rw [List.length_append]; omega
            have HPK := Lib.hid (HPUT.out (Q1 ++ pkA (x.terms.take j)) _ n wr HV6.out (by omega) m1 m2)
            have j0 : (0 : Int) ≤ (j : Int) := by omega
            have j1 : (j : Int) < (x.terms.length : Int) := by omega
            clear hcn hnj hpa htl
            generalize Q1 ++ pkA (x.terms.take j) = Q at *
            go_wp2_with fail
            refine HPK.out.mono ?_
            rintro e w7 ⟨v7, rfl, hV7⟩
            have HV7 := Lib.hid hV7
            clear hV7
            go_wp2
            go_roundw
            case rel => exact ⟨j + 1, by omega, by go_num, by rw [HTK.out]; exact HV7.out⟩
            case measure => simp [intOf]; omega
          · have hj' : j = x.terms.length := by omega
            have hE := HV6.out
            rw [hj', List.take_length] at hE
            have HE := Lib.hid hE
            have j1 : ¬ (j : Int) < (x.terms.length : Int) := by omega
            clear HV6 hj' hE
            go_wp2
            go_roundw
            case rel => exact ⟨k + 1, by omega, by go_num, by rw [HST.out]; exact HE.out⟩
            case measure => simp [intOf]; omega
      · rw [nk] at c1
        rw [nuL_3 nk, pkA_cons, pkA_cons, pkA_cons, pkA_nil, List.append_nil, ← List.append_assoc, ← List.append_assoc] at HST
        have hN := HNU.out.1
        rw [nuL_3 nk] at hN
        obtain ⟨a1, a2⟩ := hN x.sp (by simp)
        obtain ⟨a3, a4⟩ := hN x.sd (by simp)
        obtain ⟨a5, a6⟩ := hN x.sq (by simp)
        have l1 := pkL_zig a1 a2
        have l2 := pkL_zig a3 a4
        have H1 := Lib.hid (HPUT.out P4 v4 x.sp _ VD.out (by omega) a1 a2)
        have H2 : Hid (∀ v W, OutB w w.heap.size (P4 ++ pkL (zigN x.sp)) v W → Calls Tryz.prog 104 #[v, .int .i64 x.sd] W fun e w' => ∃ v', e = .returned v' ∧ OutB w w.heap.size ((P4 ++ pkL (zigN x.sp)) ++ pkL (zigN x.sd)) v' w') := fun v W h => HPUT.out _ v x.sd W h (by simp; omega) a3 a4
        have H3 : Hid (∀ v W, OutB w w.heap.size ((P4 ++ pkL (zigN x.sp)) ++ pkL (zigN x.sd)) v W → Calls Tryz.prog 104 #[v, .int .i64 x.sq] W fun e w' => ∃ v', e = .returned v' ∧ OutB w w.heap.size (((P4 ++ pkL (zigN x.sp)) ++ pkL (zigN x.sd)) ++ pkL (zigN x.sq)) v' w') := fun v W h => HPUT.out _ v x.sq W h (by simp; omega) a5 a6
        have HS : Hid (∀ W, Below w.heap.size w W → W.cell? ⟨b, off + k * 8 + 5, none⟩ = some (.int .i64 x.sp) ∧ W.cell? ⟨b, off + k * 8 + 5 + 1, none⟩ = some (.int .i64 x.sd) ∧ W.cell? ⟨b, off + k * 8 + 5 + 2, none⟩ = some (.int .i64 x.sq)) := fun W h => ⟨(HCR.out W h).c5, (HCR.out W h).c6, (HCR.out W h).c7⟩
        clear HNU hN HPUT l1 l2
        generalize P4 ++ pkL (zigN x.sp) = Q1 at *
        generalize Q1 ++ pkL (zigN x.sd) = Q2 at *
        generalize Q2 ++ pkL (zigN x.sq) = Q3 at *
        go_wp2_with fail
        go_region_held3 (fun w' => w'.cell? ⟨b, off + k * 8 + 5, none⟩ = some (.int .i64 x.sp) ∧ w'.cell? ⟨b, off + k * 8 + 5 + 1, none⟩ = some (.int .i64 x.sd) ∧ w'.cell? ⟨b, off + k * 8 + 5 + 2, none⟩ = some (.int .i64 x.sq))
          (first | exact HS.out _ VD.out.2.1 | exact HS.out _ hV5.2.1 | exact HS.out _ hV6.2.1 | exact HS.out _ hV7.2.1)
          (first | (go_at_call 104; (with_reducible refine H1.out.mono ?_); rintro e w5 ⟨v5, rfl, hV5⟩) | (go_at_call 104; (with_reducible refine (H2.out _ _ hV5).mono ?_); rintro e w6 ⟨v6, rfl, hV6⟩) | (go_at_call 104; (with_reducible refine (H3.out _ _ hV6).mono ?_); rintro e w7 ⟨v7, rfl, hV7⟩))
        all_goals
          have HV7 := Lib.hid hV7
          clear hV7
          go_wp2
          go_roundw
          case rel => exact ⟨k + 1, by omega, by go_num, by rw [HST.out]; exact HV7.out⟩
          case measure => simp [intOf]; omega
    · have hk' : k = xs.length := by omega
      obtain ⟨b1, b2, b3⟩ := book_bds HV.out
      have hv2 := HV1.out
      rw [hk', List.take_length] at hv2
      have HEN := Lib.hid (l27Ended_any w w.heap.size (bookB xs) _ wr (bookOut hv2) (Nat.le_refl _) (by omega) b3 b2)
      have i1 : ¬ (k : Int) < (xs.length : Int) := by omega
      clear hv2 HV1 b2 hk' HR
      go_wp2_with fail
      refine HEN.out.mono ?_
      rintro e w2 ⟨rfl, hb2⟩
      go_wp2
      go_ret
      exact ⟨rfl, hb2⟩
end Go.Proofs.YtpnabggpdgjbmaaGreatDoor
namespace Go.Proofs.YtpnabggpdgjbmaaGreatDoor
open Go.RowKit Go.Sort
/-- A text that is drawn. -/
def RetTd (w : World) (e : Ending) (w' : World) : Prop := ∃ t : ByteArray, e = .returned (.string t) ∧ t.size ≤ 20000 ∧ Below w.heap.size w w'
theorem RetTd.mk {w w' : World} {t : ByteArray} (h : t.size ≤ 20000) (hb : Below w.heap.size w w') : RetTd w (.returned (.string t)) w' := ⟨t, rfl, h, hb⟩
theorem drawReadNotes_any (A : Option Addr) (n c : Nat) (w : World) (h : Bytes w A n) :
    Calls Tryz.prog 16 #[.slice A n c] w (RetTd w) := by
  have H := Lib.hid h
  clear h
  go_enter Tryz.func16, Tryz.ntmps16
  go_wp2_with fail
  refine (l00From_bytes A n c _ H.out).mono ?_
  rintro e w1 ⟨rfl, S1, hb1⟩
  have HL := Lib.hid (l27Draw_any w w.heap.size w.heap.size 0 w1 S1 (by omega) hb1 (Nat.le_refl _))
  clear S1 hb1
  go_wp2_with fail
  refine HL.out.mono ?_
  rintro e w2 ⟨rs, own, h2, c2, rfl, hv, hl, hs, O2, S2, K2⟩
  have hn2 := O2.nk (by omega) hs
  have HTX : Hid (∃ t : ByteArray, t.size ≤ 9000 ∧ Calls Tryz.prog 51 #[.slice (some ⟨h2, 0, none⟩) rs.length c2] w2 fun e w' => e = .returned (.string t) ∧ Below w2.heap.size w2 w') := by
    have hlen : rs.length = (rs.map NtR.x).length := by simp
    rcases Nat.eq_zero_or_pos (rs.map NtR.x).length with h0 | h0
    · refine ⟨⟨#[]⟩, by decide, ?_⟩
      rw [hlen, h0]
      exact l27Text_nil _ _ _
    · refine ⟨_, ?_, by rw [hlen]; exact l27Text_any _ c2 _ w2 hn2.rd (by rw [← hlen]; omega) hv h0⟩
      have := ntsO_size (valid_all hv).2 (rs.map NtR.x).length
      omega
  obtain ⟨t, ht, hct⟩ := HTX.out
  have HCT := Lib.hid hct
  have HS2 := Lib.hid S2
  have HB2 := Lib.hid O2.bel
  have hz2 := O2.bel.size
  clear S2 K2 O2 hs hv hl hn2 hct HTX HL
  go_wp2_with fail
  refine HCT.out.mono ?_
  rintro e w3 ⟨rfl, hb3⟩
  have HB3 := Lib.hid (HB2.out.trans (hb3.mono hz2))
  have HS3 := Lib.hid (HS2.out.next hb3)
  clear hb3
  go_wp2_with fail
  refine (srcOne_any w.heap.size _ _ 3 _ HS3.out (by omega) (by omega)).mono ?_
  rintro e w4 ⟨b4, rfl, S4, K4⟩
  have HB4 := Lib.hid (HB3.out.trans (K4.1.mono (Nat.le_refl _)))
  have HS4 := Lib.hid S4
  clear S4 K4
  cases b4
  · go_wp2
    go_ret
    exact RetTd.mk (by omega) HB4.out
  · go_wp2_with fail
    refine (l01Spoil_any w.heap.size _ _ t _ HS4.out (by omega) (by omega)).mono ?_
    rintro e w5 ⟨u, rfl, hu, S5, K5⟩
    have HB5 := Lib.hid (HB4.out.trans K5.1)
    clear S5 K5
    go_wp2
    go_ret
    exact RetTd.mk (by omega) HB5.out
set_option maxRecDepth 100000 in
set_option maxHeartbeats 4000000 in
set_option linter.unusedSimpArgs false in
theorem drawUnpackNotes_any (A : Option Addr) (n c : Nat) (w : World) (h : Bytes w A n) :
    Calls Tryz.prog 21 #[.slice A n c] w (RetTd w) := by
  have H := Lib.hid h
  clear h
  go_enter Tryz.func21, Tryz.ntmps21
  go_wp2_with fail
  refine (l00From_bytes A n c _ H.out).mono ?_
  rintro e w1 ⟨rfl, S1, hb1⟩
  have HL := Lib.hid (l27Draw_any w w.heap.size w.heap.size 0 w1 S1 (by omega) hb1 (Nat.le_refl _))
  clear S1 hb1
  go_wp2_with fail
  refine HL.out.mono ?_
  rintro e w2 ⟨rs, own, h2, c2, rfl, hv, hl, hs, O2, S2, K2⟩
  have hn2 := O2.nk (by omega) hs
  have HTX : Hid (∃ t : ByteArray, 4 ≤ t.size ∧ t.size ≤ 9000 ∧ Calls Tryz.prog 60 #[.slice (some ⟨h2, 0, none⟩) rs.length c2] w2 fun e w' => e = .returned (.string t) ∧ Below w2.heap.size w2 w') := by
    have hlen : rs.length = (rs.map NtR.x).length := by simp
    refine ⟨endB (bookB (rs.map NtR.x)), ?_, ?_, by rw [hlen]; exact l27Pack_any _ c2 _ w2 hn2.rd (by rw [← hlen]; omega) hv⟩
    · unfold endB bookB
      rw [byS_size]
      simp
    · have h3 := books_length (xs := rs.map NtR.x) fun x hx => by
        have h4 := (valid_all hv).2 x hx
        exact noteB_length (ntOk_bds h4).1 (ntOk_nu h4).1 (ntOk_nu h4).2
      unfold endB bookB
      rw [byS_size]
      simp only [List.length_append, List.length_cons, List.length_nil]
      omega
  obtain ⟨t, ht4, ht, hct⟩ := HTX.out
  have HCT := Lib.hid hct
  have HS2 := Lib.hid S2
  have HB2 := Lib.hid O2.bel
  have hz2 := O2.bel.size
  clear S2 K2 O2 hs hv hl hn2 hct HTX HL
  go_wp2_with fail
  refine HCT.out.mono ?_
  rintro e w3 ⟨rfl, hb3⟩
  have HB3 := Lib.hid (HB2.out.trans (hb3.mono hz2))
  have HS3 := Lib.hid (HS2.out.next hb3)
  clear hb3
  obtain ⟨cap, W4, hcv, hbr, hb4, hsz4⟩ := conv_br t w3 (by unfold maxLen; omega)
  have hxl := byI_length t
  obtain ⟨m, hm⟩ : ∃ m, (byI t).length = m := ⟨_, rfl⟩
  rw [hm] at hcv
  have hm4 : 4 ≤ m := by omega
  have hm9 : m ≤ 9000 := by omega
  have hmt : m ≤ t.size := by omega
  have hg3 := HS3.out.lt
  have HBR : Hid (∃ xs : List Int, xs.length = m ∧ BR (w.heap.size + 1) xs w3.heap.size cap W4) := ⟨_, hm, ⟨by omega, hbr.lt, hbr.le, hbr.max, hbr.byte, hbr.cells, hbr.there⟩⟩
  have hmc : m ≤ cap := by have := hbr.le; omega
  obtain ⟨q, hq⟩ : ∃ q : Nat, m = q + 2 := ⟨m - 2, by omega⟩
  have hwq : IntKind.i64.wrap ((m : Int) - 2) = (q : Int) := by rw [IntWalk.i64_in _ (by omega)]; omega
  have hq2 : 2 ≤ q := by omega
  have hqm : q + 2 ≤ m := by omega
  have HS4 := Lib.hid (HS3.out.next hb4)
  have HB4 := Lib.hid (HB3.out.trans (hb4.mono (by omega)))
  have hzb := hb4.size
  clear hbr hb4 hsz4 hxl hm hq HCT
  generalize w3.heap.size = g at *
  go_wp2_with fail
  refine (srcPick_any w.heap.size _ _ 8 _ HS4.out (by omega) (by omega)).mono ?_
  rintro e w5 ⟨k, k1, k2, rfl, S5, K5⟩
  obtain ⟨xs, hxs, hbr⟩ := HBR.out
  have HBR := Lib.hid (hbr.keep K5 (by omega))
  have HXS := Lib.hid hxs
  have HB5 := Lib.hid (HB4.out.trans K5.1)
  have HS5 := Lib.hid S5
  have hlt5 := HBR.out.lt
  clear hbr hxs S5 K5 HS4 HB4
  obtain rfl | rfl | rfl | rfl | hk : k = 0 ∨ k = 1 ∨ k = 2 ∨ k = 3 ∨ 4 ≤ k := by omega
  · go_wp2_with fail
    refine (srcPick_any w.heap.size _ _ m _ HS5.out (by omega) (by omega)).mono ?_
    rintro e w6 ⟨a, a1, a2, rfl, S6, K6⟩
    obtain ⟨j, rfl⟩ : ∃ j : Nat, a = (j : Int) := ⟨a.toNat, by omega⟩
    have hj : j < m := by omega
    have HBR := Lib.hid (HBR.out.keep K6 (by omega))
    have HB6 := Lib.hid (HB5.out.trans K6.1)
    have HS6 := Lib.hid S6
    clear S6 K6 HB5 HS5
    go_wp2_with fail
    refine (srcPick_any w.heap.size _ _ 256 _ HS6.out (by omega) (by omega)).mono ?_
    rintro e w7 ⟨b, b1, b2, rfl, S7, K7⟩
    have hbr7 := HBR.out.keep K7 (by omega)
    have HB7 := Lib.hid (HB6.out.trans K7.1)
    have HS7 := Lib.hid S7
    obtain ⟨hsm, f0⟩ := hbr7.there j (by omega)
    obtain ⟨u, u0⟩ := Option.isSome_iff_exists.1 hsm
    have wb : IntKind.u8.wrap b = b := by simp [IntKind.wrap, IntKind.bits, IntKind.signed]; omega
    have i0 : (0 : Int) ≤ (j : Int) := by omega
    have i1 : (j : Int) < (m : Int) := by omega
    have HBR := Lib.hid (hbr7.set (k := j) (x := b) ⟨by omega, by omega⟩ (by rw [HXS.out]; omega))
    have HB8 := Lib.hid (HB7.out.setCell (p := ⟨g, j, none⟩) (by show w.heap.size ≤ g; omega) (.int .u8 b))
    clear S7 K7 hbr7 hsm HB7 HB6 HS6
    go_wp2
    go_ret
    exact RetTd.mk (by omega) HB8.out
  · go_wp2_with fail
    refine (srcPick_any w.heap.size _ _ m _ HS5.out (by omega) (by omega)).mono ?_
    rintro e w6 ⟨a, a1, a2, rfl, S6, K6⟩
    obtain ⟨j, rfl⟩ : ∃ j : Nat, a = (j : Int) := ⟨a.toNat, by omega⟩
    have HB6 := Lib.hid (HB5.out.trans K6.1)
    have i0 : (0 : Int) ≤ (j : Int) := by omega
    have i1 : (j : Int) ≤ (t.size : Int) := by omega
    clear S6 K6 HB5 HS5
    go_wp2
    go_ret
    exact RetTd.mk (by simp; omega) HB6.out
  · go_wp2_with fail
    refine (srcPick_any w.heap.size _ _ q _ HS5.out (by omega) (by omega)).mono ?_
    rintro e w6 ⟨a, a1, a2, rfl, S6, K6⟩
    obtain ⟨j, rfl⟩ : ∃ j : Nat, a = (j : Int) := ⟨a.toNat, by omega⟩
    have hj : j < m := by omega
    have HBR := Lib.hid (HBR.out.keep K6 (by omega))
    have HB6 := Lib.hid (HB5.out.trans K6.1)
    have HS6 := Lib.hid S6
    clear S6 K6 HB5 HS5
    go_wp2_with fail
    refine (srcPick_any w.heap.size _ _ 256 _ HS6.out (by omega) (by omega)).mono ?_
    rintro e w7 ⟨b, b1, b2, rfl, S7, K7⟩
    have hbr7 := HBR.out.keep K7 (by omega)
    have HB7 := Lib.hid (HB6.out.trans K7.1)
    have HS7 := Lib.hid S7
    obtain ⟨hsm, f0⟩ := hbr7.there j (by omega)
    obtain ⟨u, u0⟩ := Option.isSome_iff_exists.1 hsm
    have wb : IntKind.u8.wrap b = b := by simp [IntKind.wrap, IntKind.bits, IntKind.signed]; omega
    have i0 : (0 : Int) ≤ (j : Int) := by omega
    have i1 : (j : Int) < (m : Int) := by omega
    have HBR := Lib.hid (hbr7.set (k := j) (x := b) ⟨by omega, by omega⟩ (by rw [HXS.out]; omega))
    have HB8 := Lib.hid (HB7.out.setCell (p := ⟨g, j, none⟩) (by show w.heap.size ≤ g; omega) (.int .u8 b))
    clear S7 K7 hbr7 hsm HB7 HB6 HS6
    have i2 : (0 : Int) ≤ (q : Int) := by omega
    have i3 : (q : Int) ≤ (cap : Int) := by omega
    have hl8 : ((xs.set j b).take q).length = q := by rw [List.length_take, List.length_set, HXS.out]; omega
    have HEN := Lib.hid (l27Ended_br w (w.heap.size + 1) _ g cap _ (HBR.out.cut q) HB8.out (by omega) (by have := HBR.out.lt; omega) (by omega) (by omega))
    rw [hl8] at HEN
    clear hl8
    go_wp2_with fail
    refine HEN.out.mono ?_
    rintro e w9 ⟨r, rfl, hr, hb9⟩
    have HB9 := Lib.hid hb9
    clear hb9
    go_wp2
    go_ret
    exact RetTd.mk (by omega) HB9.out
  · have i2 : (0 : Int) ≤ (q : Int) := by omega
    have i3 : (q : Int) ≤ (cap : Int) := by omega
    go_wp2_with fail
    refine wp_region_sink 8 (by kernel_rfl) (by kernel_rfl) ?_
    refine wpAny_of_held (S := fun _ : World => True) _ _ _ _ ?_
    change wpAnyH _ _ _ _ _ 8 (Array.replicate 8 false) _ _
    (try simp only [List.take_succ_cons, List.take_zero, List.drop_succ_cons, List.drop_zero])
    have hHeld : True := trivial
    refine wpAnyH_take (i := 0) (oi := _) (v := ?_) rfl (by kernel_rfl) (by kernel_rfl) (by kernel_rfl) (fun _ _ _ h => h) (Or.inl ⟨by rfl, ?_⟩) hHeld ?_
    rotate_left 1
    · intro w hSw
      (try dsimp only at hSw)
      skip
      go_simp <;> with_reducible rfl
    (try simp only [Act.put, List.setIfInBounds_toArray, List.set_cons_zero, List.set_cons_succ])
    refine wpAnyH_take (i := 1) (oi := _) (v := ?_) rfl (by kernel_rfl) (by kernel_rfl) (by kernel_rfl) (fun _ _ _ h => h) (Or.inl ⟨by rfl, ?_⟩) hHeld ?_
    rotate_left 1
    · intro w hSw
      (try dsimp only at hSw)
      skip
      go_simp <;> with_reducible rfl
    (try simp only [Act.put, List.setIfInBounds_toArray, List.set_cons_zero, List.set_cons_succ])
    refine wpAnyH_take (i := 2) (oi := _) (v := ?_) rfl (by kernel_rfl) (by kernel_rfl) (by kernel_rfl) (fun _ _ _ h => h) (Or.inl ⟨by rfl, ?_⟩) hHeld ?_
    rotate_left 1
    · intro w hSw
      (try dsimp only at hSw)
      skip
      go_simp <;> with_reducible rfl
    (try simp only [Act.put, List.setIfInBounds_toArray, List.set_cons_zero, List.set_cons_succ])
    refine wpAnyH_take (i := 3) (oi := _) (v := ?_) rfl (by kernel_rfl) (by kernel_rfl) (by kernel_rfl) (fun _ _ _ h => h) (Or.inl ⟨by rfl, ?_⟩) hHeld ?_
    rotate_left 1
    · intro w hSw
      (try dsimp only at hSw)
      skip
      go_simp <;> with_reducible rfl
    (try simp only [Act.put, List.setIfInBounds_toArray, List.set_cons_zero, List.set_cons_succ])
    refine wpAnyH_take (i := 4) (oi := _) (v := ?_) rfl (by kernel_rfl) (by kernel_rfl) (by kernel_rfl) (fun _ _ _ h => h) (Or.inl ⟨by rfl, ?_⟩) hHeld ?_
    rotate_left 1
    · intro w hSw
      (try dsimp only at hSw)
      skip
      go_simp <;> with_reducible rfl
    (try simp only [Act.put, List.setIfInBounds_toArray, List.set_cons_zero, List.set_cons_succ])
    refine wpAnyH_ready (rs := [5]) (by kernel_rfl) (by simp) ?_
    refine AllReadyH.cons (o := _) rfl (fun K hK => ?_) AllReadyH.nil
    go_simp
    refine (srcPick_any w.heap.size _ _ 3 _ (HS5.out.next (ext_drew (Below.refl _ _))) (by omega) (by omega)).mono ?_
    rintro e w6 ⟨b, b1, b2, rfl, S6, K6⟩
    have hbr6 := (HBR.out.next (ext_drew (Below.refl _ _))).keep K6 (by omega)
    have HB6 := Lib.hid (HB5.out.drew.trans K6.1)
    have wb : IntKind.u8.wrap b = b := by simp [IntKind.wrap, IntKind.bits, IntKind.signed]; omega
    go_wp2_with fail
    refine hK.out _ _ trivial (fun hHeld => ?_)
    clear hK K
    (try simp only [Act.put, List.setIfInBounds_toArray, List.set_cons_zero, List.set_cons_succ])
    refine wpAnyH_take (i := 6) (oi := _) (v := ?_) rfl (by kernel_rfl) (by kernel_rfl) (by kernel_rfl) (fun _ _ _ h => h) (Or.inl ⟨by rfl, ?_⟩) hHeld ?_
    rotate_left 1
    · intro w hSw
      (try dsimp only at hSw)
      skip
      go_simp <;> with_reducible rfl
    (try simp only [Act.put, List.setIfInBounds_toArray, List.set_cons_zero, List.set_cons_succ])
    refine wpAnyH_ready (rs := [7]) (by kernel_rfl) (by simp) ?_
    refine AllReadyH.cons (o := _) rfl (fun K hK => ?_) AllReadyH.nil
    go_simp
    refine hK.out _ _ ?_ (fun hHeld => ?_)
    · (try dsimp only)
      skip
    clear hK K
    (try simp only [Act.put, List.setIfInBounds_toArray, List.set_cons_zero, List.set_cons_succ])
    refine wpAnyH_done (by kernel_rfl) ?_ _
    change wpList _ _ _ _ _ _
    have e7 := ext1 w6 (.cells #[.int .u8 b] 5)
    have hl6 : (xs.take q).length = q := by rw [List.length_take, HXS.out]; omega
    obtain ⟨g', cap', W', hrun, hbr7, hgr⟩ := run_append_br ((hbr6.next e7).cut q) (by have := hbr6.lt; simp; omega) 22 ⟨w6.heap.size, 0, none⟩ 1 1 [b] rfl (fun x hx => by
      simp only [List.mem_cons, List.not_mem_nil, or_false] at hx
      subst hx
      omega) (news_row w6 _ _ rfl) (by rw [hl6]; omega)
    rw [hl6] at hrun
    have hz6 := HB6.out.size
    have hz7 := hgr.size
    have hlg := hbr6.lt
    rw [World.size_alloc] at hz7
    have HB7 := Lib.hid ((HB6.out.trans (e7.mono hz6)).grown hgr (by simp; omega) (fun k e => by injection e with e; omega))
    have hl8 : (xs.take q ++ [b]).length = q + 1 := by rw [List.length_append, hl6]; rfl
    have HEN := Lib.hid (l27Ended_br w (w.heap.size + 1) _ g' cap' _ hbr7 HB7.out (by omega) (by omega) (by omega) (by omega))
    rw [hl8] at HEN
    clear hl8 hl6 hbr7 hgr e7 hbr6
    go_wp2_with (at_builtin; go_must (refine wpList_append_br rfl (.tmp 56) (.tmp 60) 22 rfl rfl rfl hrun ?_))
    go_wp2_with fail
    refine HEN.out.mono ?_
    rintro e w9 ⟨r, rfl, hr, hb9⟩
    have HB9 := Lib.hid hb9
    clear hb9
    go_wp2
    go_ret
    exact RetTd.mk (by omega) HB9.out
  · have n0 : (k == 0) = false := by simp; omega
    have n1 : (k == 1) = false := by simp; omega
    have n2 : (k == 2) = false := by simp; omega
    have n3 : (k == 3) = false := by simp; omega
    go_wp2
    go_ret
    exact RetTd.mk (by omega) HB5.out
end Go.Proofs.YtpnabggpdgjbmaaGreatDoor
namespace Go.Proofs.YtpnabggpdgjbmaaGreatDoor
open Go.RowKit Go.Sort
section
variable {P : Program} (w : World)
theorem run_copyS (dT sT ty elem : TypeId) (sz : Nat) (g o dLen dCap : Nat) (a : Addr) (sLen sCap : Nat) (cur : Array Value) (t : TypeId) (cs : List Value)
    (hu : P.underlying dT = some (.slice elem)) (hs : (P.info? elem).map (·.size) = some sz)
    (hg : w.heap[g]? = some (.cells cur t (0, 0))) (hn : cs.length = Nat.min sLen dLen * sz)
    (hsrc : ∀ j v, cs[j]? = some v → w.cell? (a.add j) = some v) (hfit : o + cs.length ≤ cur.size) (h1 : ∀ v ∈ cs, v.oneCell' = true) :
    (Builtin.copy_ #[dT, sT] ty #[.slice (some ⟨g, o, none⟩) dLen dCap, .slice (some a) sLen sCap]).run P w =
      .ok (goInt (Nat.min sLen dLen)) (w.setRow g (splice cur.toList o cs).toArray) := by
  have hl := run_loadCells_list (P := P) w a cs hsrc
  have hst := run_storeCells_at P g o t cs 0 cur w hg (by simpa using hfit) h1
  have e : cur.toList.take o ++ cs ++ cur.toList.drop (o + cs.length) = splice cur.toList o cs := by simp [splice]
  simp only [Nat.add_zero] at hst
  rw [e] at hst
  cases hq : P.info? elem with
  | none => simp [hq] at hs
  | some i =>
    have hi : i.size = sz := by simpa [hq] using hs
    simp [Builtin.copy_, run_underlying hu, Builtin.lenOf, Builtin.firstCells, sizeOf, typeInfo, hq, hi, ← hn, hl, hst]
theorem zeroCells_one (z : Array Value) : (Builtin.zeroCells z 1).toList = z.toList := by
  unfold Builtin.zeroCells
  rw [Array.toList_map, Nat.one_mul]
  apply List.ext_getElem
  · simp
  · intro i h1 h2
    have hi : i < z.size := by simpa using h2
    simp [Nat.mod_eq_of_lt hi, getElem!_pos z i hi]
/-- The spare element behind a row is cleared: the row stays. -/
theorem run_clear_own (base : Nat) (t e : TypeId) (z : Value) (size : Nat) (ht : P.underlying t = some (.slice e)) (hv : ∀ w, (zeroValue e).run P w = .ok z w) (hz : z.cells.size = size) (h1 : ∀ u ∈ z.cells.toList, u.oneCell' = true)
    (g n cap c : Nat) (xs : List Value) (hown : w.ownsRow base e size (.slice (some ⟨g, 0, none⟩) n cap) n xs) (hroom : n + 1 ≤ cap) :
    ∃ w', (∀ ty, (Builtin.clear_ #[t] ty #[.slice (some ⟨g, n * size, none⟩) 1 c]).run P w = .ok (.tuple #[]) w') ∧ w'.ownsRow base e size (.slice (some ⟨g, 0, none⟩) n cap) n xs ∧ w.grownBy w' (some g) := by
  rcases hown.2 with ⟨h0, _⟩ | ⟨g', cap', cur, hvv, hbg, hg, hnc, hcm, hcs, htake⟩
  · cases h0
  · cases hvv
    have hzl : z.cells.toList.length = size := by simpa using hz
    have hfit : n * size + z.cells.toList.length ≤ cur.size := by
      rw [hzl, hcs, ← Nat.succ_mul]; exact Nat.mul_le_mul_right _ hroom
    have hst := run_storeCells_at P g (n * size) e z.cells.toList 0 cur w hg (by simpa using hfit) h1
    simp only [Nat.add_zero] at hst
    have hxl : xs.length = n * size := hown.1
    refine ⟨w.setRow g (cur.toList.take (n * size) ++ z.cells.toList ++ cur.toList.drop (n * size + z.cells.toList.length)).toArray, ?_, ⟨hxl, .inr ⟨g, cap, _, rfl, hbg, setRow_heap w g cur _ e _ hg, hnc, hcm, ?_, ?_⟩⟩, ⟨rfl, rfl, rfl, by simp, fun k _ hk => setRow_other w g k _ (fun e => hk (by simp [e]))⟩⟩
    · intro ty
      simp only [Builtin.clear_]
      simp [run_underlying ht, hv, zeroCells_one, hst]
    · simp only [List.size_toArray, List.length_append, List.length_take, List.length_drop, Array.length_toList]
      omega
    · rw [List.append_assoc, List.take_append_of_le_length (by rw [List.length_take, Array.length_toList]; omega), List.take_take, Nat.min_self]
      exact htake
/-- A row cut short is a row. -/
theorem own_cut {base : Nat} {e : TypeId} {size : Nat} {g n cap : Nat} {xs : List Value} (hown : w.ownsRow base e size (.slice (some ⟨g, 0, none⟩) n cap) n xs) {k : Nat} (hk : k ≤ n) : w.ownsRow base e size (.slice (some ⟨g, 0, none⟩) k cap) k (xs.take (k * size)) := by
  have hkn : k * size ≤ n * size := Nat.mul_le_mul_right _ hk
  rcases hown.2 with ⟨h0, _⟩ | ⟨g', cap', cur, hvv, hbg, hg, hnc, hcm, hcs, htake⟩
  · cases h0
  · cases hvv
    refine ⟨by rw [List.length_take, hown.1]; omega, .inr ⟨g, cap, cur, rfl, hbg, hg, by omega, hcm, hcs, ?_⟩⟩
    rw [← htake, List.take_take, Nat.min_eq_left hkn]
end
section
variable {P : Program} {w : World} {ops : Array Oper} {o : Oper} {a : Act} {K : Act → World → Prop} {Q : Exit → Act → World → Prop} {E : Prop}
theorem step_append_eq (hg : o.guard = none) (d x : Operand) (dT sT : TypeId) (hop : o.op = Op.call { callee := Callee.builtin Builtin.append, args := #[d, x], argTypes := #[dT, sT] })
    (v u : Value) (hd : a.eval d = v) (hx : a.eval x = u) {v' : Value} {w' : World} (hr : (Builtin.append_ #[dT, sT] o.type #[v, u]).run P w = .ok v' w') (hK : K (a.put o.dst v') w') :
    if Region.wanted o (yielded ops a.tmps) = true then Oper.wp P o a w K Q else E := by
  have hw : Region.wanted o (yielded ops a.tmps) = true := by simp [Region.wanted, hg]
  rw [if_pos hw]
  exact Lib.wp_append_run w d x dT sT hop v u hd hx v' w' hr hK
theorem wp_copy_eq (d x : Operand) (dT sT : TypeId) (hop : o.op = Op.call { callee := Callee.builtin Builtin.copy, args := #[d, x], argTypes := #[dT, sT] })
    (v u : Value) (hd : a.eval d = v) (hx : a.eval x = u) {v' : Value} {w' : World} (hr : (Builtin.copy_ #[dT, sT] o.type #[v, u]).run P w = .ok v' w') (hK : K (a.put o.dst v') w') : o.wp P a w K Q := by
  unfold Oper.wp execOp
  simp only [hop, resolve, invoke, builtin, Sem.run_bind, Sem.run_pure, Result.andThen_ok, List.map_toArray, List.map_cons, List.map_nil, hd, hx, hr]
  exact hK
theorem step_copy_eq (hg : o.guard = none) (d x : Operand) (dT sT : TypeId) (hop : o.op = Op.call { callee := Callee.builtin Builtin.copy, args := #[d, x], argTypes := #[dT, sT] })
    (v u : Value) (hd : a.eval d = v) (hx : a.eval x = u) {v' : Value} {w' : World} (hr : (Builtin.copy_ #[dT, sT] o.type #[v, u]).run P w = .ok v' w') (hK : K (a.put o.dst v') w') :
    if Region.wanted o (yielded ops a.tmps) = true then Oper.wp P o a w K Q else E := by
  have hw : Region.wanted o (yielded ops a.tmps) = true := by simp [Region.wanted, hg]
  rw [if_pos hw]
  exact wp_copy_eq d x dT sT hop v u hd hx hr hK
theorem list_copy_eq {rest : List Oper} (hgd : o.guard = none) (d x : Operand) (dT sT : TypeId) (hop : o.op = Op.call { callee := Callee.builtin Builtin.copy, args := #[d, x], argTypes := #[dT, sT] })
    (v u : Value) (hd : a.eval d = v) (hx : a.eval x = u) {v' : Value} {w' : World} (hr : (Builtin.copy_ #[dT, sT] o.type #[v, u]).run P w = .ok v' w') (h : wpList P ops Q rest (a.put o.dst v') w') : wpList P ops Q (o :: rest) a w :=
  wpList_plain hgd fun _ hK => wp_copy_eq d x dT sT hop v u hd hx hr (hK _ _ h)
end
theorem splice_mid {α : Type} (A B cs : List α) : splice (A ++ B) A.length cs = A ++ cs ++ B.drop cs.length := by
  unfold splice
  rw [List.take_left, ← List.append_assoc, List.drop_append]
  simp
theorem flatR_take (rs : List NtR) (k : Nat) : (flatR rs).take (k * 8) = flatR (rs.take k) := by
  rcases Nat.lt_or_ge k rs.length with h | h
  · have e := congrArg flatR (List.take_append_drop k rs)
    rw [flatR_append] at e
    rw [← e, List.take_left' (by rw [flatR_length, List.length_take]; omega)]
  · rw [List.take_of_length_le (by rw [flatR_length]; omega), List.take_of_length_le h]
theorem flatR_drop (rs : List NtR) (k : Nat) : (flatR rs).drop (k * 8) = flatR (rs.drop k) := by
  rcases Nat.lt_or_ge k rs.length with h | h
  · have e := congrArg flatR (List.take_append_drop k rs)
    rw [flatR_append] at e
    rw [← e, List.drop_left' (by rw [flatR_length, List.length_take]; omega)]
  · rw [List.drop_eq_nil_of_le (by rw [flatR_length]; omega), List.drop_eq_nil_of_le h]; rfl
theorem flatR_one8 (rs : List NtR) : ∀ u ∈ flatR rs, u.oneCell' = true := fun u hu => by
  unfold flatR at hu
  obtain ⟨r, _, hr⟩ := List.mem_flatMap.1 hu
  simp only [NtR.cells, ntC, List.mem_cons, List.not_mem_nil, or_false] at hr
  rcases hr with rfl | rfl | rfl | rfl | rfl | rfl | rfl | rfl <;> simp [Value.oneCell']
end Go.Proofs.YtpnabggpdgjbmaaGreatDoor
