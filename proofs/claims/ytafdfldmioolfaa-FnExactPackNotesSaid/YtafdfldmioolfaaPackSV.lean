/- PackNotes, the reference's walk over a sound notebook. No condition but those that each theorem names. -/
import Derived.Test.YtafdfldmioolfaaPackIV
import Derived.Deep.RegionHeld3
namespace Go.Proofs.Ytafdfldmioolfaa
open Go.RowKit Go.Sort Go.Maps Go.WideMaps

theorem pkA_cons (n : Int) (ns : List Int) : pkA (n :: ns) = pkL (zigN n) ++ pkA ns := by simp [pkA]
theorem pkA_nil : pkA [] = [] := rfl
theorem nuL_1 {x : Nt} (h : x.kind = 1) : nuL x = [x.num, x.den] := by unfold nuL; rw [if_pos h]
theorem nuL_2 {x : Nt} (h : x.kind = 2) : nuL x = (x.terms.length : Int) :: x.terms := by unfold nuL; rw [if_neg (by omega), if_pos h]
theorem nuL_3 {x : Nt} (h : x.kind = 3) : nuL x = [x.sp, x.sd, x.sq] := by unfold nuL; rw [if_neg (by omega), if_neg (by omega)]
set_option maxRecDepth 100000 in
set_option maxHeartbeats 3000000 in
theorem l27Pack_any (A : Option Addr) (c : Nat) (xs : List Nt) (w : World) (hr : RdNt w w.heap.size A xs) (hl : xs.length ≤ 40) (hv : validNt xs = true) :
    Calls Try.prog 131 #[.slice A xs.length c] w fun e w' => e = .returned (.string (endB (bookB xs))) ∧ Below w.heap.size w w' := by
  obtain ⟨ti, hi, hz0, hz1, hz2⟩ := info_parts info8
  have HI := Lib.hid hi
  have HR := Lib.hid hr
  have HV := Lib.hid hv
  clear hv hr hi
  have v1 : IntKind.u8.wrap (xs.length : Int) = (xs.length : Int) := by simp [IntKind.wrap, IntKind.bits, IntKind.signed]; omega
  go_enter Try.func131, Try.ntmps131
  go_wp2_with fail
  have HO : Hid (OutB w w.heap.size ([78, (xs.length : Int)] ++ ((xs.take 0).map noteB).flatten) (.slice (some ⟨w.heap.size, 0, none⟩) 2 2) (w.alloc (.cells #[.int .u8 78, .int .u8 (xs.length : Int)] 5))) := by
    refine ⟨?_, ext1 _ _, by simp⟩
    have h := World.ownsRow_lit (base := w.heap.size) (e := 5) (size := 1) w #[.int .u8 78, .int .u8 (xs.length : Int)] 2 (Nat.le_refl _) (by unfold maxLen; omega) rfl
    simpa using h
  generalize w.alloc (.cells #[.int .u8 78, .int .u8 (xs.length : Int)] 5) = W0 at *
  go_loopw [3, 4] (fun v t wr => ∃ k : Nat, k ≤ xs.length ∧ t = .int .i64 k ∧ Hid (OutB w w.heap.size ([78, (xs.length : Int)] ++ ((xs.take k).map noteB).flatten) v wr)) (fun _ t _ => xs.length - (intOf t).toNat)
  case atStart => exact ⟨0, by omega, rfl, HO.out⟩
  case round =>
    obtain ⟨k, hk, rfl, HV1⟩ := hrel
    clear HO
    by_cases hlt : k < xs.length
    · obtain ⟨b, off, rfl, hb, hc⟩ := HR.out (by omega)
      obtain ⟨x, hxk⟩ : ∃ x, xs[k]? = some x := ⟨_, List.getElem?_eq_getElem hlt⟩
      obtain ⟨T, ct, cr0, cT⟩ := hc k x hxk
      have HCR : Hid (∀ W, Below w.heap.size w W → NtAt W b (off + k * 8) x T ct) := fun W hbW => (cr0.below hbW hb).nt
      have HTR : Hid (∀ W, Below w.heap.size w W → Rd (Value.int .i64) W w.heap.size T x.terms) := fun W hbW => cT.1.below hbW
      have hox := (valid_all HV.out).2 x (List.mem_of_getElem? hxk)
      obtain ⟨n12, nk⟩ := ntOk_bds hox
      have ht60 := ntOk_terms hox
      have HNU := Lib.hid (ntOk_nu hox)
      have hP0 := take_bds HV.out k
      have HST : Hid ([78, (xs.length : Int)] ++ ((xs.take (k + 1)).map noteB).flatten = ((([78, (xs.length : Int)] ++ ((xs.take k).map noteB).flatten) ++ [(x.name.size : Int)]) ++ byI x.name ++ [x.kind]) ++ pkA (nuL x)) := by
        unfold Hid
        rw [book_step hxk]
        simp [noteB]
      have i0 : (0 : Int) ≤ (k : Int) := by omega
      have i1 : (k : Int) < (xs.length : Int) := by omega
      have u1 : IntKind.u8.wrap (x.name.size : Int) = (x.name.size : Int) := by simp [IntKind.wrap, IntKind.bits, IntKind.signed]; omega
      have u2 : IntKind.u8.wrap x.kind = x.kind := by simp [IntKind.wrap, IntKind.bits, IntKind.signed]; omega
      have HBL := Lib.hid (byI_length x.name)
      clear cr0 cT hc hxk hox
      generalize [78, (xs.length : Int)] ++ ((xs.take k).map noteB).flatten = P at *
      obtain ⟨wo, rfl⟩ : ∃ wo : World, wo = wr := ⟨_, rfl⟩
      have c0 := (HCR.out _ HV1.out.2.1).c0
      have hown := HV1.out.1
      have hbz := HV1.out.2.2
      go_wp2_with (at_builtin; refine wpList_append_own _ rfl _ _ 22 rfl w.heap.size 5 ti (.int .u8 0) 1 1 Try.underlying22 HI.out hz0 hz1 hz2 rfl (by decide) _ _ _ rfl (hown.alloc _) ⟨wo.heap.size, 0, none⟩ 1 1 [.int .u8 (x.name.size : Int)] rfl rfl ?h1c1 ?h1c2 ?h1c3 ?h1c4 ?h1c5 ?_)
      case h1c1 => exact cell_one_new _ _ _
      case h1c2 => simp [Value.oneCell']
      case h1c3 => unfold maxLen; omega
      case h1c4 => omega
      case h1c5 => first | omega | (simp; omega)
      intro v2 w2 hown2 hgrow2 _
      have V2 := Lib.hid (OutB.push HV1.out (Nat.le_refl _) _ _ hown2 hgrow2)
      have hlp2 : (P ++ [(x.name.size : Int)]).length ≤ 28003 ∧ 0 < (P ++ [(x.name.size : Int)]).length := by simp; omega
      clear hown2 hgrow2 hown c0 HV1
      generalize P ++ [(x.name.size : Int)] = P2 at *
      obtain ⟨hlp2, hlq2⟩ := hlp2
      have c0 := (HCR.out _ V2.out.2.1).c0
      have hown := V2.out.1
      have hbz2 := V2.out.2.2
      go_wp2_with (at_builtin; refine Go.Lib.wpList_append_own_string _ rfl _ _ 22 9 rfl w.heap.size 5 ti Try.underlying22 Try.underlying9 HI.out hz0 hz1 hz2 _ _ _ rfl hown x.name rfl ?h2c3 ?h2c4 ?h2c5 ?_)
      case h2c3 => unfold maxLen; omega
      case h2c4 => omega
      case h2c5 => omega
      intro v3 w3 hown3 hgrow3 _
      rw [strCells_byI] at hown3
      have V3 := Lib.hid (OutB.pushL V2.out (Nat.le_refl _) (Below.refl _ _) (byI x.name) x.name.size v3 w3 HBL.out.symm hown3 hgrow3)
      have hlp3 : (P2 ++ byI x.name).length ≤ 28015 ∧ 0 < (P2 ++ byI x.name).length := by simp [HBL.out]; omega
      clear hown3 hgrow3 hown V2 c0
      generalize P2 ++ byI x.name = P3 at *
      obtain ⟨hlp3, hlq3⟩ := hlp3
      have c1 := (HCR.out _ V3.out.2.1).c1
      have hown := V3.out.1
      have hbz3 := V3.out.2.2
      go_wp2_with (at_builtin; refine wpList_append_own _ rfl _ _ 22 rfl w.heap.size 5 ti (.int .u8 0) 1 1 Try.underlying22 HI.out hz0 hz1 hz2 rfl (by decide) _ _ _ rfl (hown.alloc _) ⟨w3.heap.size, 0, none⟩ 1 1 [.int .u8 x.kind] rfl rfl ?h3c1 ?h3c2 ?h3c3 ?h3c4 ?h3c5 ?_)
      case h3c1 => exact cell_one_new _ _ _
      case h3c2 => simp [Value.oneCell']
      case h3c3 => unfold maxLen; omega
      case h3c4 => omega
      case h3c5 => first | omega | (simp; omega)
      intro v4 w4 hown4 hgrow4 _
      have V4 := Lib.hid (OutB.push V3.out (Nat.le_refl _) _ _ hown4 hgrow4)
      have hlp4 : (P3 ++ [x.kind]).length ≤ 28016 := by simp; omega
      clear hown4 hgrow4 hown V3 c1
      generalize P3 ++ [x.kind] = P4 at *
      have hPP : P4.length ≤ 30000 := by omega
      clear hlp2 hlp3 hlp4 hP0 u1 u2 hbz hbz2 hbz3
      have HPUT : Hid (∀ (Q : List Int) (v : Value) (n : Int) (W : World), OutB w w.heap.size Q v W → Q.length ≤ 1000000 → -1000000000000000 ≤ n → n ≤ 1000000000000000 → Calls Try.prog 192 #[v, .int .i64 n] W fun e w' => ∃ v', e = .returned v' ∧ OutB w w.heap.size (Q ++ pkL (zigN n)) v' w') := fun Q v n W h1 h2 h3 h4 => l27Put_any w w.heap.size Q v n W h1 (Nat.le_refl _) h2 h3 h4
      have c1 := (HCR.out _ V4.out.2.1).c1
      have VD := Lib.hid (V4.out.next (ext_drew (Below.refl _ _)))
      rcases nk with nk | nk | nk
      · rw [nk] at c1
        rw [nuL_1 nk, pkA_cons, pkA_cons, pkA_nil, List.append_nil, ← List.append_assoc] at HST
        have hN := HNU.out.1
        rw [nuL_1 nk] at hN
        obtain ⟨a1, a2⟩ := hN x.num (by simp)
        obtain ⟨a3, a4⟩ := hN x.den (by simp)
        have l1 := pkL_zig a1 a2
        have H1 := Lib.hid (HPUT.out P4 v4 x.num _ VD.out (by omega) a1 a2)
        have H2 : Hid (∀ v W, OutB w w.heap.size (P4 ++ pkL (zigN x.num)) v W → Calls Try.prog 192 #[v, .int .i64 x.den] W fun e w' => ∃ v', e = .returned v' ∧ OutB w w.heap.size ((P4 ++ pkL (zigN x.num)) ++ pkL (zigN x.den)) v' w') := fun v W h => HPUT.out _ v x.den W h (by simp; omega) a3 a4
        have HS : Hid (∀ W, Below w.heap.size w W → W.cell? ⟨b, off + k * 8 + 2, none⟩ = some (.int .i64 x.num) ∧ W.cell? ⟨b, off + k * 8 + 2 + 1, none⟩ = some (.int .i64 x.den)) := fun W h => ⟨(HCR.out W h).c2, (HCR.out W h).c3⟩
        clear HNU hN HPUT l1
        generalize P4 ++ pkL (zigN x.num) = Q1 at *
        generalize Q1 ++ pkL (zigN x.den) = Q2 at *
        go_wp2_with fail
        go_region_held3 (fun w' => w'.cell? ⟨b, off + k * 8 + 2, none⟩ = some (.int .i64 x.num) ∧ w'.cell? ⟨b, off + k * 8 + 2 + 1, none⟩ = some (.int .i64 x.den))
          (first | exact HS.out _ VD.out.2.1 | exact HS.out _ hV5.2.1 | exact HS.out _ hV6.2.1)
          (first | (go_at_call 192; (with_reducible refine H1.out.mono ?_); rintro e w5 ⟨v5, rfl, hV5⟩) | (go_at_call 192; (with_reducible refine (H2.out _ _ hV5).mono ?_); rintro e w6 ⟨v6, rfl, hV6⟩))
        all_goals
          have HV6 := Lib.hid hV6
          clear hV6
          go_wp2
          go_roundw
          case rel => exact ⟨k + 1, by omega, by go_num, by rw [HST.out]; exact HV6.out⟩
          case measure => simp [intOf]; omega
      · rw [nk] at c1
        rw [nuL_2 nk, pkA_cons, ← List.append_assoc] at HST
        have hN := HNU.out.1
        rw [nuL_2 nk] at hN
        have HBN : Hid (∀ n ∈ x.terms, -1000000000000000 ≤ n ∧ n ≤ 1000000000000000) := fun n hn => hN n (by simp [hn])
        have l1 := pkL_zig (n := (x.terms.length : Int)) (by omega) (by omega)
        have H1 := Lib.hid (HPUT.out P4 v4 (x.terms.length : Int) _ V4.out (by omega) (by omega) (by omega))
        have hQ1 : (P4 ++ pkL (zigN (x.terms.length : Int))).length ≤ 30010 := by simp; omega
        have c4 := (HCR.out _ V4.out.2.1).c4
        clear HNU hN l1 VD
        generalize P4 ++ pkL (zigN (x.terms.length : Int)) = Q1 at *
        go_wp2_with fail
        refine H1.out.mono ?_
        rintro e w5 ⟨v5, rfl, hV5⟩
        have V5 := Lib.hid hV5
        clear hV5 c1 c4
        go_wp2_with fail
        go_loopw [3, 6] (fun v t wr => ∃ j : Nat, j ≤ x.terms.length ∧ t = .int .i64 j ∧ Hid (OutB w w.heap.size (Q1 ++ pkA (x.terms.take j)) v wr)) (fun _ t _ => x.terms.length - (intOf t).toNat)
        case atStart => exact ⟨0, by omega, rfl, by unfold Hid; simpa [pkA] using V5.out⟩
        case round =>
          obtain ⟨j, hj, rfl, HV6⟩ := hrel
          clear V5
          have c4 := (HCR.out _ HV6.out.2.1).c4
          by_cases hlj : j < x.terms.length
          · obtain ⟨bn, offn, rfl, hbn, hcn⟩ := (HTR.out _ HV6.out.2.1) (by omega)
            obtain ⟨n, hnj⟩ : ∃ n, x.terms[j]? = some n := ⟨_, List.getElem?_eq_getElem hlj⟩
            have cn := hcn j n hnj
            obtain ⟨m1, m2⟩ := HBN.out n (List.mem_of_getElem? hnj)
            have HTK : Hid (Q1 ++ pkA (x.terms.take (j + 1)) = (Q1 ++ pkA (x.terms.take j)) ++ pkL (zigN n)) := by
              unfold Hid
              rw [List.take_add_one, hnj]
              show Q1 ++ pkA (x.terms.take j ++ [n]) = _
              rw [pkA_snoc, List.append_assoc]
            have hpa := pkA_length (ns := x.terms.take j) (fun m hm => HBN.out m (List.mem_of_mem_take hm))
            have htl : (x.terms.take j).length ≤ 60 := by rw [List.length_take]; omega
            have hpl2 : (Q1 ++ pkA (x.terms.take j)).length ≤ 40000 := by rw [List.length_append]; omega
            have HPK := Lib.hid (HPUT.out (Q1 ++ pkA (x.terms.take j)) _ n wr HV6.out (by omega) m1 m2)
            have j0 : (0 : Int) ≤ (j : Int) := by omega
            have j1 : (j : Int) < (x.terms.length : Int) := by omega
            clear hcn hnj hpa htl
            generalize Q1 ++ pkA (x.terms.take j) = Q at *
            go_wp2_with fail
            refine HPK.out.mono ?_
            rintro e w7 ⟨v7, rfl, hV7⟩
            have HV7 := Lib.hid hV7
            clear hV7
            go_wp2
            go_roundw
            case rel => exact ⟨j + 1, by omega, by go_num, by rw [HTK.out]; exact HV7.out⟩
            case measure => simp [intOf]; omega
          · have hj' : j = x.terms.length := by omega
            have hE := HV6.out
            rw [hj', List.take_length] at hE
            have HE := Lib.hid hE
            have j1 : ¬ (j : Int) < (x.terms.length : Int) := by omega
            clear HV6 hj' hE
            go_wp2
            go_roundw
            case rel => exact ⟨k + 1, by omega, by go_num, by rw [HST.out]; exact HE.out⟩
            case measure => simp [intOf]; omega
      · rw [nk] at c1
        rw [nuL_3 nk, pkA_cons, pkA_cons, pkA_cons, pkA_nil, List.append_nil, ← List.append_assoc, ← List.append_assoc] at HST
        have hN := HNU.out.1
        rw [nuL_3 nk] at hN
        obtain ⟨a1, a2⟩ := hN x.sp (by simp)
        obtain ⟨a3, a4⟩ := hN x.sd (by simp)
        obtain ⟨a5, a6⟩ := hN x.sq (by simp)
        have l1 := pkL_zig a1 a2
        have l2 := pkL_zig a3 a4
        have H1 := Lib.hid (HPUT.out P4 v4 x.sp _ VD.out (by omega) a1 a2)
        have H2 : Hid (∀ v W, OutB w w.heap.size (P4 ++ pkL (zigN x.sp)) v W → Calls Try.prog 192 #[v, .int .i64 x.sd] W fun e w' => ∃ v', e = .returned v' ∧ OutB w w.heap.size ((P4 ++ pkL (zigN x.sp)) ++ pkL (zigN x.sd)) v' w') := fun v W h => HPUT.out _ v x.sd W h (by simp; omega) a3 a4
        have H3 : Hid (∀ v W, OutB w w.heap.size ((P4 ++ pkL (zigN x.sp)) ++ pkL (zigN x.sd)) v W → Calls Try.prog 192 #[v, .int .i64 x.sq] W fun e w' => ∃ v', e = .returned v' ∧ OutB w w.heap.size (((P4 ++ pkL (zigN x.sp)) ++ pkL (zigN x.sd)) ++ pkL (zigN x.sq)) v' w') := fun v W h => HPUT.out _ v x.sq W h (by simp; omega) a5 a6
        have HS : Hid (∀ W, Below w.heap.size w W → W.cell? ⟨b, off + k * 8 + 5, none⟩ = some (.int .i64 x.sp) ∧ W.cell? ⟨b, off + k * 8 + 5 + 1, none⟩ = some (.int .i64 x.sd) ∧ W.cell? ⟨b, off + k * 8 + 5 + 2, none⟩ = some (.int .i64 x.sq)) := fun W h => ⟨(HCR.out W h).c5, (HCR.out W h).c6, (HCR.out W h).c7⟩
        clear HNU hN HPUT l1 l2
        generalize P4 ++ pkL (zigN x.sp) = Q1 at *
        generalize Q1 ++ pkL (zigN x.sd) = Q2 at *
        generalize Q2 ++ pkL (zigN x.sq) = Q3 at *
        go_wp2_with fail
        go_region_held3 (fun w' => w'.cell? ⟨b, off + k * 8 + 5, none⟩ = some (.int .i64 x.sp) ∧ w'.cell? ⟨b, off + k * 8 + 5 + 1, none⟩ = some (.int .i64 x.sd) ∧ w'.cell? ⟨b, off + k * 8 + 5 + 2, none⟩ = some (.int .i64 x.sq))
          (first | exact HS.out _ VD.out.2.1 | exact HS.out _ hV5.2.1 | exact HS.out _ hV6.2.1 | exact HS.out _ hV7.2.1)
          (first | (go_at_call 192; (with_reducible refine H1.out.mono ?_); rintro e w5 ⟨v5, rfl, hV5⟩) | (go_at_call 192; (with_reducible refine (H2.out _ _ hV5).mono ?_); rintro e w6 ⟨v6, rfl, hV6⟩) | (go_at_call 192; (with_reducible refine (H3.out _ _ hV6).mono ?_); rintro e w7 ⟨v7, rfl, hV7⟩))
        all_goals
          have HV7 := Lib.hid hV7
          clear hV7
          go_wp2
          go_roundw
          case rel => exact ⟨k + 1, by omega, by go_num, by rw [HST.out]; exact HV7.out⟩
          case measure => simp [intOf]; omega
    · have hk' : k = xs.length := by omega
      obtain ⟨b1, b2, b3⟩ := book_bds HV.out
      have hv2 := HV1.out
      rw [hk', List.take_length] at hv2
      have HEN := Lib.hid (l27Ended_any w w.heap.size (bookB xs) _ wr (bookOut hv2) (Nat.le_refl _) (by omega) b3 b2)
      have i1 : ¬ (k : Int) < (xs.length : Int) := by omega
      clear hv2 HV1 b2 hk' HR
      go_wp2_with fail
      refine HEN.out.mono ?_
      rintro e w2 ⟨rfl, hb2⟩
      go_wp2
      go_ret
      exact ⟨rfl, hb2⟩
end Go.Proofs.Ytafdfldmioolfaa
