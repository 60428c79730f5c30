/- Parts of the proof, merged: RnS PackSW. No condition but those that each theorem names. -/
import Derived.Test.YtpnabggpdgjbmaaGreatDoorMgBH
import Derived.Test.YtpnabggpdgjbmaaGreatDoorMgBI
import Derived.Test.YtpnabggpdgjbmaaGreatDoorMgBJ
import Derived.Test.YtpnabggpdgjbmaaGreatDoorMgAV
namespace Go.Proofs.YtpnabggpdgjbmaaGreatDoor
open Go.RowKit Go.Sort
theorem lnO_no {s : ByteArray} (h : lnK s = false) : lnO s = none := by unfold lnO; rw [if_neg (by rw [h]; decide)]
theorem lnO_t {s : ByteArray} (h : lnK s = true) (hb : (lnR s).data.toList.headD 0 = 91) : lnO s = (rtO (lnR s)).map fun ts => ⟨lnN s, 2, 0, 0, ts, 0, 0, 0⟩ := by unfold lnO; rw [if_pos h, if_pos hb]
theorem lnO_s {s : ByteArray} (h : lnK s = true) (hb : ¬ (lnR s).data.toList.headD 0 = 91) (hc : (lnR s).data.toList.headD 0 = 40) : lnO s = (rsO (lnR s)).map fun x => ⟨lnN s, 3, 0, 0, [], x.1, x.2.1, x.2.2⟩ := by unfold lnO; rw [if_pos h, if_neg hb, if_pos hc]
theorem lnO_f {s : ByteArray} (h : lnK s = true) (hb : ¬ (lnR s).data.toList.headD 0 = 91) (hc : ¬ (lnR s).data.toList.headD 0 = 40) : lnO s = (rfO (lnR s)).map fun x => ⟨lnN s, 1, x.1, x.2, [], 0, 0, 0⟩ := by unfold lnO; rw [if_pos h, if_neg hb, if_neg hc]
theorem head_get {s : ByteArray} (h : 0 < s.size) : s.data.toList.headD 0 = s[0] := by rw [head_list h]; rfl
theorem wrT_none {w : World} {B c : Nat} {T : Option Addr} (hc : c ≤ maxLen) : WrT w B T c [] := ⟨fun h => absurd h (by simp), by simp, hc⟩
theorem lit3 : ({ data := #[32, 61, 32] } : ByteArray).toList = [32, 61, 32] := by rw [ByteArray.toList_eq]
theorem beq_of_byte {b c : UInt8} {k : Int} (h : b = c) (hk : (c.toNat : Int) = k) : ((b.toNat : Int) == k) = true := by rw [h, hk]; simp
theorem beq_of_ne {b c : UInt8} {k : Int} (h : ¬ b = c) (hk : (c.toNat : Int) = k) : ((b.toNat : Int) == k) = false := by
  rw [beq_eq_false_iff_ne]
  intro e
  exact h (UInt8.toNat_inj.1 (by omega))
set_option maxRecDepth 100000 in
set_option maxHeartbeats 8000000 in
theorem l27Line_any (s : ByteArray) (w : World) (hs : s.size ≤ 100000000) :
    Calls Tryz.prog 56 #[.string s] w (RetNo w (lnO s)) := by
  have R0 := Lib.hid (BoxV.new w #[.string ⟨#[]⟩, .int .i64 0, .int .i64 0, .int .i64 0, .slice none 0 0, .int .i64 0, .int .i64 0, .int .i64 0] 31)
  have E0 := Lib.hid (ext1 w (.cells #[.string ⟨#[]⟩, .int .i64 0, .int .i64 0, .int .i64 0, .slice none 0 0, .int .i64 0, .int .i64 0, .int .i64 0] 31))
  obtain ⟨P, hP⟩ : ∃ P, lnP s = P := ⟨_, rfl⟩
  have hPl : P ≤ s.size := by rw [← hP, ← size_list]; exact blP_le _
  have HP0 : Hid (blP (s.data.toList.drop 0) + 0 = P) := by unfold Hid; rw [List.drop_zero, Nat.add_zero]; exact hP
  go_enter Tryz.func56, Tryz.ntmps56
  go_wp2_with fail
  have HW0 : Hid ((w.alloc (.cells #[.string ⟨#[]⟩, .int .i64 0, .int .i64 0, .int .i64 0, .slice none 0 0, .int .i64 0, .int .i64 0, .int .i64 0] 31)).heap.size = w.heap.size + 1) := by unfold Hid; simp
  generalize w.alloc (.cells #[.string ⟨#[]⟩, .int .i64 0, .int .i64 0, .int .i64 0, .slice none 0 0, .int .i64 0, .int .i64 0, .int .i64 0] 31) = W0 at *
  go_loop [4] (fun t => ∃ k : Nat, k ≤ s.size ∧ t = .int .i64 k ∧ Hid (blP (s.data.toList.drop k) + k = P)) (fun t => s.size - (intOf t).toNat)
  case atStart => exact ⟨0, by omega, rfl, HP0.out⟩
  case round =>
    obtain ⟨k, hk, rfl, HK⟩ := hrel
    clear HP0
    by_cases hcont : ∃ h : k < s.size, s[k] ≠ 32
    · obtain ⟨hlt, hb⟩ := hcont
      have HS := blP_step (bytes_get hlt)
      have HE : Hid (blP (s.data.toList.drop (k + 1)) + (k + 1) = P) := by
        have h := HK.out
        rw [HS, if_neg hb] at h
        unfold Hid
        omega
      have i0 : (0 : Int) ≤ (k : Int) := by omega
      have i1 : (k : Int) < (s.size : Int) := by omega
      have b1 := byte_ne (k := 32) hb rfl
      clear HS hb
      go_wp2
      go_round
      case rel => exact ⟨k + 1, by omega, by go_num, HE.out⟩
      case measure => simp [intOf]; omega
    · have hkP : k = P := by
        rcases Nat.lt_or_ge k s.size with g | g
        · have h := HK.out
          have hb : s[k] = 32 := Classical.byContradiction fun e => hcont ⟨g, e⟩
          rw [blP_step (bytes_get g), if_pos hb] at h
          omega
        · have h := HK.out
          rw [List.drop_of_length_le (by rw [size_list]; omega)] at h
          simp only [blP] at h
          omega
      have hw : (∃ h : k < s.size, s[k] = 32) ∨ ¬ k < s.size := by
        rcases Nat.lt_or_ge k s.size with g | g
        · exact .inl ⟨g, Classical.byContradiction fun e => hcont ⟨g, e⟩⟩
        · exact .inr (by omega)
      subst hkP
      clear HK hcont
      have v4 : IntKind.i64.wrap ((k : Int) + 4) = (k : Int) + 4 := IntWalk.i64_in _ (by omega)
      have v3 : IntKind.i64.wrap ((k : Int) + 3) = (k : Int) + 3 := IntWalk.i64_in _ (by omega)
      rcases hw with ⟨hlt, hb⟩ | hlt
      · have i0 : (0 : Int) ≤ (k : Int) := by omega
        have i1 : (k : Int) < (s.size : Int) := by omega
        have b1 := byte_eq (k := 32) hb rfl
        clear hb
        by_cases h4 : k + 4 ≤ s.size
        · have j4 : ¬ (s.size : Int) < (k : Int) + 4 := by omega
          have j5 : (k : Int) ≤ (k : Int) + 3 := by omega
          have j6 : (k : Int) + 3 ≤ (s.size : Int) := by omega
          have j7 : ((k : Int) + 3).toNat = k + 3 := by omega
          have j8 : (0 : Int) ≤ (k : Int) + 3 := by omega
          have j9 : (k : Int) ≤ (s.size : Int) := by omega
          obtain ⟨X, hX⟩ : ∃ X, s.extract k (k + 3) = X := ⟨_, rfl⟩
          by_cases hsep : X = ⟨#[32, 61, 32]⟩
          · have heq := strEqB hsep
            have heq2 : (X.toList == [32, 61, 32]) = true := by rw [hsep, lit3]; exact beq_self_eq_true _
            have hlk : lnK s = true := by unfold lnK; rw [hP, decide_eq_true h4, decide_eq_true (hX.trans hsep)]; rfl
            have hnm : s.extract 0 k = lnN s := by unfold lnN; rw [hP]
            have hrs : s.extract (k + 3) s.size = lnR s := by unfold lnR; rw [hP]
            have hrz : (lnR s).size + (k + 3) = s.size := by
              rw [← hrs, ByteArray.size_extract]
              omega
            have HRZ := Lib.hid hrz
            have HNZ : Hid ((lnN s).size ≤ 100000000) := by unfold Hid; rw [← hnm, ByteArray.size_extract]; omega
            have hT := lnO_t hlk
            have hS := lnO_s hlk
            have hF := lnO_f hlk
            have HCT := Lib.hid (fun W : World => sReadTerms_any (lnR s) W (by omega))
            have HCS := Lib.hid (fun W : World => sReadSurd_any (lnR s) W (by omega))
            have HCF := Lib.hid (fun W : World => sReadFraction_any (lnR s) W (by omega))
            clear hP hlk hsep hrz
            generalize lnO s = R at *
            go_upto_region 8 with fail
            have hg0 : W0.heap.size = w.heap.size + 1 := HW0.out
            have X1 := Lib.hid (BoxV.new (W0.alloc (.cells #[] 2)) #[.string (lnN s), .int .i64 0, .int .i64 0, .int .i64 0, .slice (some ⟨W0.heap.size, 0, none⟩) 0 0, .int .i64 0, .int .i64 0, .int .i64 0] 31)
            have R1 := Lib.hid (((R0.out.alloc (.cells #[] 2)).alloc (.cells #[.string (lnN s), .int .i64 0, .int .i64 0, .int .i64 0, .slice (some ⟨W0.heap.size, 0, none⟩) 0 0, .int .i64 0, .int .i64 0, .int .i64 0] 31)))
            have E1 := Lib.hid (ext_alloc (ext_alloc E0.out (.cells #[] 2)) (.cells #[.string (lnN s), .int .i64 0, .int .i64 0, .int .i64 0, .slice (some ⟨W0.heap.size, 0, none⟩) 0 0, .int .i64 0, .int .i64 0, .int .i64 0] 31))
            rw [show (W0.alloc (.cells #[] 2)).heap.size = W0.heap.size + 1 by simp] at X1
            have hbn : ¬ W0.heap.size + 1 = w.heap.size := by omega
            have hbg : w.heap.size ≤ W0.heap.size + 1 := by omega
            generalize (W0.alloc (.cells #[] 2)).alloc (.cells #[.string (lnN s), .int .i64 0, .int .i64 0, .int .i64 0, .slice (some ⟨W0.heap.size, 0, none⟩) 0 0, .int .i64 0, .int .i64 0, .int .i64 0] 31) = W1 at *
            have hrp : 0 < (lnR s).size := by have := HRZ.out; omega
            have hhg := head_get hrp
            generalize lnR s = RS at *
            generalize lnN s = NM at *
            generalize W0.heap.size = g0 at *
            obtain ⟨b, hb⟩ : ∃ b, g0 + 1 = b := ⟨_, rfl⟩
            rw [hb] at X1 hbn hbg ⊢
            clear hb hnm hrs hX heq heq2 hg0 HW0 R0 E0 b1
            by_cases c1 : RS[0] = 91
            · have q1 := beq_of_byte (k := 91) c1 rfl
              have HR := Lib.hid (hT (hhg.trans c1))
              have HRK : Hid (R.isSome = (rtO RS).isSome ∧ ∀ y, R = some y → (⟨NM, 2, 0, 0, (rtO RS).getD [], 0, 0, 0⟩ : Nt) = y) := by
                rw [HR.out]
                cases rtO RS with
                | none => exact ⟨rfl, fun y hy => by cases hy⟩
                | some ts => exact ⟨rfl, fun y hy => Option.some.inj hy⟩
              have HTL : Hid (((rtO RS).getD []).length ≤ 60) := by
                cases h : rtO RS with
                | none => exact Nat.zero_le _
                | some ts => exact (termsBBd (rtO_iff.1 h).1).1
              unfold RetTm at HCT
              generalize (rtO RS).getD [] = ts at *
              generalize (rtO RS).isSome = kk at *
              clear hT hS hF c1 HCS HCF HR
              have hbl := X1.out.lt
              have hwl := R1.out.lt
              go_wp2_with fail
              refine (HCT.out _).mono ?_
              rintro e w5 ⟨B, c, rfl, hw5, hb5⟩
              have X5 := Lib.hid (X1.out.next hb5)
              have R5 := Lib.hid (R1.out.next hb5)
              have E5 := Lib.hid (ext_trans E1.out hb5)
              have HW := Lib.hid hw5
              clear hb5 hw5 X1 R1 E1 HCT
              have k1 := X5.out.at 1 _ rfl
              have h1f := X5.out.f 1
              go_upto_region 12 with fail
              have X6 := Lib.hid (X5.out.set 1 (.int .i64 2) (by simp))
              have R6 := Lib.hid (R5.out.setFar (j := 1) (.int .i64 2) hbn)
              have E6 := Lib.hid (ext_set E5.out (p := ⟨b, 1, none⟩) hbg (.int .i64 2))
              have HW6 := Lib.hid (HW.out.setLow (p := ⟨b, 1, none⟩) (by exact hbl) (.int .i64 2))
              generalize w5.setCell ⟨b, 1, none⟩ (.int .i64 2) = W6 at *
              clear X5 R5 E5 HW k1 h1f
              have k4 := X6.out.at 4 _ rfl
              have h4f := X6.out.f 4
              go_upto_region 13 with fail
              have X9 := Lib.hid (X6.out.set 4 (.slice B ts.length c) (by simp))
              have R9 := Lib.hid (R6.out.setFar (j := 4) (.slice B ts.length c) hbn)
              have E9 := Lib.hid (ext_set E6.out (p := ⟨b, 4, none⟩) hbg (.slice B ts.length c))
              have HW9 := Lib.hid (HW6.out.setLow (p := ⟨b, 4, none⟩) (by exact hbl) (.slice B ts.length c))
              generalize W6.setCell ⟨b, 4, none⟩ (.slice B ts.length c) = W9 at *
              clear X6 R6 E6 HW6 k4 h4f
              have r0 := R9.out.at 0 _ rfl
              have r1 := R9.out.at 1 _ rfl
              have r2 := R9.out.at 2 _ rfl
              have r3 := R9.out.at 3 _ rfl
              have r4 := R9.out.at 4 _ rfl
              have r5 := R9.out.at 5 _ rfl
              have r6 := R9.out.at 6 _ rfl
              have r7 := R9.out.at 7 _ rfl
              have f0 := R9.out.f 0
              have f1 := R9.out.f 1
              have f2 := R9.out.f 2
              have f3 := R9.out.f 3
              have f4 := R9.out.f 4
              have f5 := R9.out.f 5
              have f6 := R9.out.f 6
              have f7 := R9.out.f 7
              have x0 := X9.out.at 0 _ rfl
              have x1 := X9.out.at 1 _ rfl
              have x2 := X9.out.at 2 _ rfl
              have x3 := X9.out.at 3 _ rfl
              have x4 := X9.out.at 4 _ rfl
              have x5 := X9.out.at 5 _ rfl
              have x6 := X9.out.at 6 _ rfl
              have x7 := X9.out.at 7 _ rfl
              go_wp2
              refine bodyPost_ret (v := .tuple #[ntV NM 2 0 0 B ts.length c 0 0 0, .bool kk]) (by simp [results, Tryz.results56, go_sem, r0, r1, r2, r3, r4, r5, r6, r7]; done) rfl ?_
              refine ⟨⟨NM, 2, 0, 0, ts, 0, 0, 0⟩, B, c, by rw [HRK.out.1], HRK.out.2, ?_, HTL.out, ?_⟩
              · refine WrT.more (B := W1.heap.size) ?_ (Nat.le_of_lt hwl)
                iterate 8 (refine WrT.setLow ?_ (by exact hwl) _)
                exact HW9.out
              · iterate 8 (refine ext_set ?_ (Nat.le_refl _) _)
                exact E9.out
            · have q1 := beq_of_ne (k := 91) c1 rfl
              by_cases c2 : RS[0] = 40
              · have q2 := beq_of_byte (k := 40) c2 rfl
                have HR := Lib.hid (hS (fun e => c1 (hhg.symm.trans e)) (hhg.trans c2))
                have HRK : Hid (R.isSome = rsK RS ∧ ∀ y, R = some y → (⟨NM, 3, 0, 0, [], rsN RS, rsM RS, rsL RS⟩ : Nt) = y) := by
                  rw [HR.out]
                  cases h : rsO RS with
                  | none => exact ⟨by rw [(rs_none h).2.2.2]; rfl, fun y hy => by cases hy⟩
                  | some y =>
                    obtain ⟨p, d, q⟩ := y
                    obtain ⟨b1, b2, b3, b4⟩ := rs_some h
                    rw [b1, b2, b3, b4]
                    exact ⟨rfl, fun y hy => Option.some.inj hy⟩
                generalize rsN RS = p at *
                generalize rsM RS = d at *
                generalize rsL RS = q at *
                generalize rsK RS = kk at *
                unfold surdV at HCS
                clear hT hS hF c1 c2 HCT HCF HR
                go_wp2_with fail
                refine (HCS.out _).mono ?_
                rintro e w5 ⟨rfl, hb5⟩
                have hfb : ¬ b = w5.heap.size := by have h1 := X1.out.lt; have := hb5.size; omega
                go_upto_region 16 with fail
                have FX := Lib.hid (BoxV.new w5 #[.int .i64 p, .int .i64 d, .int .i64 q] 29)
                have X5 := Lib.hid ((X1.out.next hb5).alloc (.cells #[.int .i64 p, .int .i64 d, .int .i64 q] 29))
                have R5 := Lib.hid ((R1.out.next hb5).alloc (.cells #[.int .i64 p, .int .i64 d, .int .i64 q] 29))
                have E5 := Lib.hid (ext_alloc (ext_trans E1.out hb5) (.cells #[.int .i64 p, .int .i64 d, .int .i64 q] 29))
                generalize w5.alloc (.cells #[.int .i64 p, .int .i64 d, .int .i64 q] 29) = W5 at *
                generalize w5.heap.size = gf at *
                clear hb5 X1 R1 E1 HCS
                have k1 := X5.out.at 1 _ rfl
                have h1f := X5.out.f 1
                go_upto_region 17 with fail
                have X6 := Lib.hid (X5.out.set 1 (.int .i64 3) (by simp))
                have R6 := Lib.hid (R5.out.setFar (j := 1) (.int .i64 3) hbn)
                have E6 := Lib.hid (ext_set E5.out (p := ⟨b, 1, none⟩) hbg (.int .i64 3))
                have F6 := Lib.hid (FX.out.setFar (j := 1) (.int .i64 3) hfb)
                generalize W5.setCell ⟨b, 1, none⟩ (.int .i64 3) = W6 at *
                clear X5 R5 E5 FX k1 h1f
                have y0 := F6.out.at 0 _ rfl
                have y1 := F6.out.at 1 _ rfl
                have y2 := F6.out.at 2 _ rfl
                have k5 := X6.out.at 5 _ rfl
                have k6 := X6.out.at 6 _ rfl
                have k7 := X6.out.at 7 _ rfl
                have h5f := X6.out.f 5
                have h6f := X6.out.f 6
                have h7f := X6.out.f 7
                go_upto_region 18 with fail
                have X9 := Lib.hid (((X6.out.set 5 (.int .i64 p) (by simp)).set 6 (.int .i64 d) (by simp)).set 7 (.int .i64 q) (by simp))
                have R9 := Lib.hid (((R6.out.setFar (j := 5) (.int .i64 p) hbn).setFar (j := 6) (.int .i64 d) hbn).setFar (j := 7) (.int .i64 q) hbn)
                have E9 := Lib.hid (ext_set (ext_set (ext_set E6.out (p := ⟨b, 5, none⟩) hbg (.int .i64 p)) (p := ⟨b, 6, none⟩) hbg (.int .i64 d)) (p := ⟨b, 7, none⟩) hbg (.int .i64 q))
                generalize ((W6.setCell ⟨b, 5, none⟩ (.int .i64 p)).setCell ⟨b, 6, none⟩ (.int .i64 d)).setCell ⟨b, 7, none⟩ (.int .i64 q) = W9 at *
                clear X6 R6 E6 F6 y0 y1 y2 k5 k6 k7 h5f h6f h7f
                have r0 := R9.out.at 0 _ rfl
                have r1 := R9.out.at 1 _ rfl
                have r2 := R9.out.at 2 _ rfl
                have r3 := R9.out.at 3 _ rfl
                have r4 := R9.out.at 4 _ rfl
                have r5 := R9.out.at 5 _ rfl
                have r6 := R9.out.at 6 _ rfl
                have r7 := R9.out.at 7 _ rfl
                have f0 := R9.out.f 0
                have f1 := R9.out.f 1
                have f2 := R9.out.f 2
                have f3 := R9.out.f 3
                have f4 := R9.out.f 4
                have f5 := R9.out.f 5
                have f6 := R9.out.f 6
                have f7 := R9.out.f 7
                have x0 := X9.out.at 0 _ rfl
                have x1 := X9.out.at 1 _ rfl
                have x2 := X9.out.at 2 _ rfl
                have x3 := X9.out.at 3 _ rfl
                have x4 := X9.out.at 4 _ rfl
                have x5 := X9.out.at 5 _ rfl
                have x6 := X9.out.at 6 _ rfl
                have x7 := X9.out.at 7 _ rfl
                go_wp2
                refine bodyPost_ret (v := .tuple #[ntV NM 3 0 0 (some ⟨g0, 0, none⟩) 0 0 p d q, .bool kk]) (by simp [results, Tryz.results56, go_sem, r0, r1, r2, r3, r4, r5, r6, r7]; done) rfl ?_
                refine ⟨⟨NM, 3, 0, 0, [], p, d, q⟩, some ⟨g0, 0, none⟩, 0, by rw [HRK.out.1]; rfl, HRK.out.2, wrT_none (by unfold maxLen; omega), by simp, ?_⟩
                iterate 8 (refine ext_set ?_ (Nat.le_refl _) _)
                exact E9.out
              · have q2 := beq_of_ne (k := 40) c2 rfl
                have HR := Lib.hid (hF (fun e => c1 (hhg.symm.trans e)) (fun e => c2 (hhg.symm.trans e)))
                have HRK : Hid (R.isSome = rfK RS ∧ ∀ y, R = some y → (⟨NM, 1, rfN RS, rfM RS, [], 0, 0, 0⟩ : Nt) = y) := by
                  rw [HR.out]
                  cases h : rfO RS with
                  | none => exact ⟨by rw [(rf_none h).2.2]; rfl, fun y hy => by cases hy⟩
                  | some y =>
                    obtain ⟨p, d⟩ := y
                    obtain ⟨b1, b2, b3⟩ := rf_some h
                    rw [b1, b2, b3]
                    exact ⟨rfl, fun y hy => Option.some.inj hy⟩
                generalize rfN RS = n at *
                generalize rfM RS = d at *
                generalize rfK RS = kk at *
                unfold fracV at HCF
                clear hT hS hF c1 c2 HCT HCS HR
                go_wp2_with fail
                refine (HCF.out _).mono ?_
                rintro e w5 ⟨rfl, hb5⟩
                have hfb : ¬ b = w5.heap.size := by have h1 := X1.out.lt; have := hb5.size; omega
                go_upto_region 20 with fail
                have FX := Lib.hid (BoxV.new w5 #[.int .i64 n, .int .i64 d] 26)
                have X5 := Lib.hid ((X1.out.next hb5).alloc (.cells #[.int .i64 n, .int .i64 d] 26))
                have R5 := Lib.hid ((R1.out.next hb5).alloc (.cells #[.int .i64 n, .int .i64 d] 26))
                have E5 := Lib.hid (ext_alloc (ext_trans E1.out hb5) (.cells #[.int .i64 n, .int .i64 d] 26))
                generalize w5.alloc (.cells #[.int .i64 n, .int .i64 d] 26) = W5 at *
                generalize w5.heap.size = gf at *
                clear hb5 X1 R1 E1 HCF
                have k1 := X5.out.at 1 _ rfl
                have h1f := X5.out.f 1
                go_upto_region 21 with fail
                have X6 := Lib.hid (X5.out.set 1 (.int .i64 1) (by simp))
                have R6 := Lib.hid (R5.out.setFar (j := 1) (.int .i64 1) hbn)
                have E6 := Lib.hid (ext_set E5.out (p := ⟨b, 1, none⟩) hbg (.int .i64 1))
                have F6 := Lib.hid (FX.out.setFar (j := 1) (.int .i64 1) hfb)
                generalize W5.setCell ⟨b, 1, none⟩ (.int .i64 1) = W6 at *
                clear X5 R5 E5 FX k1 h1f
                have y0 := F6.out.at 0 _ rfl
                have y1 := F6.out.at 1 _ rfl
                have k2 := X6.out.at 2 _ rfl
                have k3 := X6.out.at 3 _ rfl
                have h2f := X6.out.f 2
                have h3f := X6.out.f 3
                go_upto_region 22 with fail
                have X9 := Lib.hid ((X6.out.set 2 (.int .i64 n) (by simp)).set 3 (.int .i64 d) (by simp))
                have R9 := Lib.hid ((R6.out.setFar (j := 2) (.int .i64 n) hbn).setFar (j := 3) (.int .i64 d) hbn)
                have E9 := Lib.hid (ext_set (ext_set E6.out (p := ⟨b, 2, none⟩) hbg (.int .i64 n)) (p := ⟨b, 3, none⟩) hbg (.int .i64 d))
                generalize (W6.setCell ⟨b, 2, none⟩ (.int .i64 n)).setCell ⟨b, 3, none⟩ (.int .i64 d) = W9 at *
                clear X6 R6 E6 F6 y0 y1 k2 k3 h2f h3f
                have r0 := R9.out.at 0 _ rfl
                have r1 := R9.out.at 1 _ rfl
                have r2 := R9.out.at 2 _ rfl
                have r3 := R9.out.at 3 _ rfl
                have r4 := R9.out.at 4 _ rfl
                have r5 := R9.out.at 5 _ rfl
                have r6 := R9.out.at 6 _ rfl
                have r7 := R9.out.at 7 _ rfl
                have f0 := R9.out.f 0
                have f1 := R9.out.f 1
                have f2 := R9.out.f 2
                have f3 := R9.out.f 3
                have f4 := R9.out.f 4
                have f5 := R9.out.f 5
                have f6 := R9.out.f 6
                have f7 := R9.out.f 7
                have x0 := X9.out.at 0 _ rfl
                have x1 := X9.out.at 1 _ rfl
                have x2 := X9.out.at 2 _ rfl
                have x3 := X9.out.at 3 _ rfl
                have x4 := X9.out.at 4 _ rfl
                have x5 := X9.out.at 5 _ rfl
                have x6 := X9.out.at 6 _ rfl
                have x7 := X9.out.at 7 _ rfl
                go_wp2
                refine bodyPost_ret (v := .tuple #[ntV NM 1 n d (some ⟨g0, 0, none⟩) 0 0 0 0 0, .bool kk]) (by simp [results, Tryz.results56, go_sem, r0, r1, r2, r3, r4, r5, r6, r7]; done) rfl ?_
                refine ⟨⟨NM, 1, n, d, [], 0, 0, 0⟩, some ⟨g0, 0, none⟩, 0, by rw [HRK.out.1]; rfl, HRK.out.2, wrT_none (by unfold maxLen; omega), by simp, ?_⟩
                iterate 8 (refine ext_set ?_ (Nat.le_refl _) _)
                exact E9.out
          · have heq := strNeB hsep
            have heq2 : (X.toList == [32, 61, 32]) = false := by
              rw [beq_eq_false_iff_ne]
              intro e
              exact beq_eq_false_iff_ne.1 heq (e.trans lit3.symm)
            have HQ : Hid (lnO s = none) := lnO_no (by unfold lnK; rw [hP, show decide (s.extract k (k + 3) = ⟨#[32, 61, 32]⟩) = false from decide_eq_false (by rw [hX]; exact hsep), Bool.and_false])
            clear hP hsep
            have r0 := R0.out.at 0 _ rfl
            have r1 := R0.out.at 1 _ rfl
            have r2 := R0.out.at 2 _ rfl
            have r3 := R0.out.at 3 _ rfl
            have r4 := R0.out.at 4 _ rfl
            have r5 := R0.out.at 5 _ rfl
            have r6 := R0.out.at 6 _ rfl
            have r7 := R0.out.at 7 _ rfl
            have f0 := R0.out.f 0
            have f1 := R0.out.f 1
            have f2 := R0.out.f 2
            have f3 := R0.out.f 3
            have f4 := R0.out.f 4
            have f5 := R0.out.f 5
            have f6 := R0.out.f 6
            have f7 := R0.out.f 7
            go_wp2
            refine bodyPost_ret (v := .tuple #[ntV ⟨#[]⟩ 0 0 0 none 0 0 0 0 0, .bool false]) (by simp [results, Tryz.results56, go_sem, r0, r1, r2, r3, r4, r5, r6, r7]; done) rfl ?_
            rw [HQ.out]
            refine ⟨⟨⟨#[]⟩, 0, 0, 0, [], 0, 0, 0⟩, none, 0, rfl, fun y hy => (by cases hy), wrT_nil, by simp, ?_⟩
            iterate 8 (refine ext_set ?_ (Nat.le_refl _) _)
            exact E0.out
        · have j4 : (s.size : Int) < (k : Int) + 4 := by omega
          have HQ : Hid (lnO s = none) := lnO_no (by unfold lnK; rw [hP, decide_eq_false h4]; rfl)
          clear hP h4
          have r0 := R0.out.at 0 _ rfl
          have r1 := R0.out.at 1 _ rfl
          have r2 := R0.out.at 2 _ rfl
          have r3 := R0.out.at 3 _ rfl
          have r4 := R0.out.at 4 _ rfl
          have r5 := R0.out.at 5 _ rfl
          have r6 := R0.out.at 6 _ rfl
          have r7 := R0.out.at 7 _ rfl
          have f0 := R0.out.f 0
          have f1 := R0.out.f 1
          have f2 := R0.out.f 2
          have f3 := R0.out.f 3
          have f4 := R0.out.f 4
          have f5 := R0.out.f 5
          have f6 := R0.out.f 6
          have f7 := R0.out.f 7
          go_wp2
          refine bodyPost_ret (v := .tuple #[ntV ⟨#[]⟩ 0 0 0 none 0 0 0 0 0, .bool false]) (by simp [results, Tryz.results56, go_sem, r0, r1, r2, r3, r4, r5, r6, r7]; done) rfl ?_
          rw [HQ.out]
          refine ⟨⟨⟨#[]⟩, 0, 0, 0, [], 0, 0, 0⟩, none, 0, rfl, fun y hy => (by cases hy), wrT_nil, by simp, ?_⟩
          iterate 8 (refine ext_set ?_ (Nat.le_refl _) _)
          exact E0.out
      · have HQ : Hid (lnO s = none) := lnO_no (by unfold lnK; rw [hP, decide_eq_false (by omega)]; rfl)
        have i1 : ¬ (k : Int) < (s.size : Int) := by omega
        have i4 : (s.size : Int) < (k : Int) + 4 := by omega
        clear hP
        have r0 := R0.out.at 0 _ rfl
        have r1 := R0.out.at 1 _ rfl
        have r2 := R0.out.at 2 _ rfl
        have r3 := R0.out.at 3 _ rfl
        have r4 := R0.out.at 4 _ rfl
        have r5 := R0.out.at 5 _ rfl
        have r6 := R0.out.at 6 _ rfl
        have r7 := R0.out.at 7 _ rfl
        have f0 := R0.out.f 0
        have f1 := R0.out.f 1
        have f2 := R0.out.f 2
        have f3 := R0.out.f 3
        have f4 := R0.out.f 4
        have f5 := R0.out.f 5
        have f6 := R0.out.f 6
        have f7 := R0.out.f 7
        go_wp2
        refine bodyPost_ret (v := .tuple #[ntV ⟨#[]⟩ 0 0 0 none 0 0 0 0 0, .bool false]) (by simp [results, Tryz.results56, go_sem, r0, r1, r2, r3, r4, r5, r6, r7]; done) rfl ?_
        rw [HQ.out]
        refine ⟨⟨⟨#[]⟩, 0, 0, 0, [], 0, 0, 0⟩, none, 0, rfl, fun y hy => (by cases hy), wrT_nil, by simp, ?_⟩
        iterate 8 (refine ext_set ?_ (Nat.le_refl _) _)
        exact E0.out
theorem lnO_name {s : ByteArray} {x : Nt} (h : lnO s = some x) : x.name.size ≤ s.size := by
  have hc := congrArg List.length (lnO_cut h)
  rw [size_list] at hc
  unfold ntL at hc
  rw [List.length_append, size_list] at hc
  omega
theorem spB_last (c : UInt8) (s : ByteArray) : ∃ ls e, spB c s = ls ++ [e] := by
  obtain ⟨a, r, h⟩ := spB_ne c s
  rw [h]
  exact ⟨_, _, (List.dropLast_concat_getLast (l := a :: r) (by simp)).symm⟩
set_option maxRecDepth 100000 in
set_option maxHeartbeats 8000000 in
theorem sReadNotes_any (s : ByteArray) (w : World) (hs : s.size ≤ 10000000) :
    Calls Tryz.prog 17 #[.string s] w (RetNtK w (rnX s) (rnK s)) := by
  obtain ⟨ti, hi, hz0, hz1, hz2⟩ := info_parts infoNtR
  have HI := Lib.hid hi
  have HSP := Lib.hid (fun W : World => l01Split_any s 10 10 rfl W (by omega))
  have hsz : ∀ x ∈ spB 10 s, x.size ≤ 10000000 := fun x hx => by have := spB_sz hx; omega
  have hct := spB_count 10 s
  obtain ⟨ls, e0, hsp⟩ := spB_last 10 s
  obtain ⟨G1, G2, G3, G4, G5⟩ := rn_ref hsp
  unfold RetStrs at HSP
  rw [hsp] at HSP hsz hct
  obtain ⟨N, hN⟩ : ∃ N, (ls ++ [e0]).length = N := ⟨_, rfl⟩
  obtain ⟨n, hn⟩ : ∃ n, ls.length = n := ⟨_, rfl⟩
  have hNn : N = n + 1 := by rw [← hN, List.length_append, hn]; rfl
  have a1 : (N : Int) - 1 = (n : Int) := by omega
  have a2 : IntKind.i64.wrap (n : Int) = (n : Int) := IntWalk.i64_in _ (by omega)
  have a3 : (0 : Int) ≤ (n : Int) := by omega
  have a4 : (n : Int) < (N : Int) := by omega
  have HNL := Lib.hid hn
  have HLE : Hid ((ls ++ [e0])[n]? = some e0) := by
    unfold Hid
    rw [List.getElem?_append_right (by omega), hn, Nat.sub_self]
    rfl
  have HLK : Hid (∀ k x, ls[k]? = some x → (ls ++ [e0])[k]? = some x) := fun k x h => by
    rw [List.getElem?_append_left (List.getElem?_eq_some_iff.1 h).1]
    exact h
  rw [hN] at HSP hct
  clear hi
  go_enter Tryz.func17, Tryz.ntmps17
  go_wp2_with fail
  refine (HSP.out _).mono ?_
  rintro e w1 ⟨A1, c1, rfl, hw1, hb1⟩
  have O : Hid (OutNt w1 w1.heap.size [] (fun _ => 0) (.slice (some ⟨w1.heap.size, 0, none⟩) 0 0) (w1.alloc (.cells #[] 31))) := OutNt.start0 w1
  obtain ⟨g1, o1, rfl, _, hgl, hcc, _⟩ := hw1 (by rw [List.length_append]; simp)
  have HC : Hid (∀ W, Below w1.heap.size w1 W → ∀ j x, (ls ++ [e0])[j]? = some x → W.cell? ⟨g1, o1 + j, none⟩ = some (.string x)) := fun W hb j x h => (hb.cell (p := ⟨g1, o1 + j, none⟩) hgl).trans (hcc j x h)
  have E1 := Lib.hid hb1
  have ce := HC.out _ (ext1 w1 (.cells #[] 31)) n e0 HLE.out
  clear hw1 hb1 HSP hcc hN
  go_upto_region 3 with fail
  generalize w1.alloc (.cells #[] 31) = W1 at *
  have EE : Hid (Below w.heap.size w W1) := ext_trans E1.out O.out.bel
  by_cases he : e0 = ⟨#[]⟩
  · have hez : e0.size = 0 := by rw [he]; rfl
    obtain ⟨z1, z2⟩ := empty_eq hez
    by_cases h40 : 40 < n
    · have HQ := Lib.hid (rn_none_ (G3 (by omega)))
      have b1 : (41 : Int) < (N : Int) := by omega
      clear G1 G2 G3 G4 G5 he hez
      go_wp2
      go_ret2
      rw [HQ.out.1, HQ.out.2]
      exact RetNtK.nil_ false EE.out
    · have b1 : ¬ (41 : Int) < (N : Int) := by omega
      have HG1 := Lib.hid (G1 he)
      have HN : Hid (∀ k x, ls[k]? = some x → lnO x = none → rnO s = none) := fun k x h1 h2 => G4 (lns_none h1 h2)
      have HF : Hid (∀ L, lnsO (ls.take ls.length) = some L → (validNt L = true → rnO s = some L) ∧ (validNt L = false → rnO s = none)) := fun L h => by
        rw [List.take_of_length_le (Nat.le_refl _)] at h
        exact ⟨HG1.out L h, G5 L h⟩
      have HLZ : Hid (∀ x ∈ ls, x.size ≤ 10000000) := fun x hx => hsz x (by simp [hx])
      clear G1 G2 G3 G4 G5 he hez HG1 hsz hsp hn
      go_wp2_with fail
      go_loopw [5, 6] (fun v t wr => ∃ (k : Nat) (rs : List NtR) (own : Nat → Nat) (v0 : Value), v0 = v ∧ t = .int .i64 k ∧ k ≤ n ∧ rs.length = k ∧ Hid (lnsO (ls.take k) = some (rs.map NtR.x)) ∧ Hid (∀ x ∈ rs.map NtR.x, x.fits) ∧ Hid (OutNt w1 w1.heap.size rs own v wr)) (fun _ t _ => n - (intOf t).toNat)
      case atStart => exact ⟨0, [], _, _, rfl, rfl, by omega, rfl, rfl, fun x hx => by simp at hx, O.out⟩
      case round =>
        obtain ⟨k, rs, own, v, rfl, rfl, hk, hrk, HL, HF2, HO⟩ := hrel
        have HRK := Lib.hid hrk
        clear O ce EE hrk
        by_cases hlt : k < n
        · obtain ⟨x0, hx0⟩ : ∃ x, ls[k]? = some x := ⟨_, List.getElem?_eq_getElem (by rw [HNL.out]; exact hlt)⟩
          have hxz := HLZ.out x0 (List.mem_of_getElem? hx0)
          have cx := HC.out wr HO.out.bel k x0 (HLK.out k x0 hx0)
          have HX0 := Lib.hid hx0
          have i0 : (0 : Int) ≤ (k : Int) := by omega
          have i1 : (k : Int) < (N : Int) := by omega
          have i2 : (k : Int) < (n : Int) := by omega
          have HR := Lib.hid (l27Line_any x0 wr (by omega))
          unfold RetNo at HR
          clear hx0
          go_wp2_with fail
          refine HR.out.mono ?_
          rintro e w3 ⟨x, T, c, rfl, hxx, hwt, htl, hb3⟩
          have HX := Lib.hid hxx
          have HWT := Lib.hid hwt
          have HB3 := Lib.hid hb3
          clear hxx hwt hb3 HR
          cases hR : lnO x0 with
          | none =>
            have HQ := Lib.hid (rn_none_ (HN.out k x0 HX0.out hR))
            simp only [Option.isSome_none]
            have EE := Lib.hid (ext_alloc (ext_trans E1.out (ext_trans HO.out.bel HB3.out)) (.cells #[.string x.name, .int .i64 x.kind, .int .i64 x.num, .int .i64 x.den, .slice T x.terms.length c, .int .i64 x.sp, .int .i64 x.sd, .int .i64 x.sq] 31))
            clear HX HWT hR
            go_wp2
            go_ret2
            rw [HQ.out.1, HQ.out.2]
            exact RetNtK.nil_ false EE.out
          | some y =>
            obtain rfl := HX.out y hR
            simp only [Option.isSome_some]
            have hnm := lnO_name hR
            have HST := Lib.hid (lns_take HL.out HX0.out hR)
            have HFX : Hid x.fits := ⟨by unfold maxLen; omega, by unfold maxLen; omega⟩
            have hrl : rs.length ≤ 40 := by have := HRK.out; omega
            obtain ⟨A, cp, rfl⟩ := own_slice HO.out.row
            have HO3 := Lib.hid (HO.out.next HB3.out)
            have hown := (HO3.out.row.alloc (.cells #[.string x.name, .int .i64 x.kind, .int .i64 x.num, .int .i64 x.den, .slice T x.terms.length c, .int .i64 x.sp, .int .i64 x.sd, .int .i64 x.sq] 31)).alloc (.cells #[.string x.name, .int .i64 x.kind, .int .i64 x.num, .int .i64 x.den, .slice T x.terms.length c, .int .i64 x.sp, .int .i64 x.sd, .int .i64 x.sq] 31)
            have hhi := HO3.out.hi
            clear HX hR hnm
            go_wp2_with (at_builtin; refine wpList_append_lies _ rfl _ _ 24 rfl w1.heap.size 31 ti (ntV ByteArray.empty 0 0 0 none 0 0 0 0 0) 8 88 Tryz.underlying24 HI.out hz0 hz1 hz2 rfl (by decide) _ _ _ rfl hown ⟨w3.heap.size + 1, 0, none⟩ 1 1 (ntC x T c) rfl rfl ?c1 ?c2 (by omega) ?c3 ?c4 ?c5 _ rfl ?_)
            case c1 =>
              intro j u hu
              have := news_rowN (w3.alloc (.cells #[.string x.name, .int .i64 x.kind, .int .i64 x.num, .int .i64 x.den, .slice T x.terms.length c, .int .i64 x.sp, .int .i64 x.sd, .int .i64 x.sq] 31)) 31 (ntC x T c) rfl j u hu
              simpa using this
            case c2 => simp [ntC, Value.oneCell']
            case c3 => unfold maxLen; omega
            case c4 => omega
            case c5 => simp only [World.size_alloc]; omega
            intro g6 cap6 w6 hown3 hgrow hat hlt6
            have HP := Lib.hid (OutNt.push HO.out HB3.out HWT.out (ext_alloc (ext1 _ _) _) hown3 hgrow (by simpa only [World.size_alloc] using hat))
            have HS6 : Hid (lnsO (ls.take (k + 1)) = some ((rs ++ [(⟨x, T, c⟩ : NtR)]).map NtR.x)) := by
              unfold Hid
              rw [List.map_append]
              exact HST.out
            have HF6 : Hid (∀ y ∈ (rs ++ [(⟨x, T, c⟩ : NtR)]).map NtR.x, y.fits) := fun y hy => by
              rw [List.map_append] at hy
              rcases List.mem_append.1 hy with hy | hy
              · exact HF2.out y hy
              · simp only [List.map_cons, List.map_nil, List.mem_cons, List.not_mem_nil, or_false] at hy
                subst hy
                exact HFX.out
            clear hown3 hgrow hat hlt6 HO HO3 hown HWT HB3 HST
            go_wp2
            go_roundw
            case rel => exact ⟨k + 1, _, _, _, rfl, by go_num, by omega, by have := HRK.out; simp; omega, HS6.out, HF6.out, HP.out⟩
            case measure => simp [intOf]; omega
        · have hkn : k = n := by omega
          have i2 : ¬ (k : Int) < (n : Int) := by omega
          have HLL : Hid (lnsO (ls.take ls.length) = some (rs.map NtR.x)) := by rw [HNL.out, ← hkn]; exact HL.out
          obtain ⟨F1, F2⟩ := HF.out _ HLL.out
          obtain ⟨A, cp, rfl, hwd⟩ := HO.out.wr
          have hrl : rs.length ≤ 40 := by have := HRK.out; omega
          generalize hxs : rs.map NtR.x = xs at *
          have hlx : xs.length ≤ 40 := by rw [← hxs, List.length_map]; exact hrl
          have HXS := Lib.hid hxs
          have HRDN : Hid (RdNt wr wr.heap.size A xs) := hwd.rd
          have HV := Lib.hid (l27Ok_any A cp xs wr HRDN.out HF2.out (by unfold maxLen; omega))
          clear hwd hxs HLL HL HF HN
          cases hv : validNt xs
          · have HQ := Lib.hid (rn_none_ (F2 hv))
            rw [hv] at HV
            clear F1 F2 hv
            go_wp2_with fail
            refine HV.out.mono ?_
            rintro e w4 ⟨rfl, hb4⟩
            have EE := Lib.hid (ext_trans (ext_trans E1.out HO.out.bel) hb4)
            clear hb4
            go_wp2
            go_ret2
            rw [HQ.out.1, HQ.out.2]
            exact RetNtK.nil_ false EE.out
          · have HQ := Lib.hid (rn_some_ (F1 hv))
            rw [hv] at HV
            clear F1 F2 hv
            go_wp2_with fail
            refine HV.out.mono ?_
            rintro e w4 ⟨rfl, hb4⟩
            have HO4 := Lib.hid (HO.out.next hb4)
            clear hb4
            go_wp2
            go_ret2
            rw [HQ.out.1, HQ.out.2]
            exact HO4.out.retK E1.out true HXS.out
  · have hez : ¬ e0.size = 0 := fun h => he (by
      have hl := size_list e0
      rw [← back_bytes e0, List.eq_nil_of_length_eq_zero (l := e0.data.toList) (by omega)])
    obtain ⟨z1, z2⟩ := empty_ne hez
    have HQ := Lib.hid (rn_none_ (G2 he))
    clear G1 G2 G3 G4 G5 he hez
    go_wp2
    go_ret2
    rw [HQ.out.1, HQ.out.2]
    exact RetNtK.nil_ false EE.out
end Go.Proofs.YtpnabggpdgjbmaaGreatDoor
namespace Go.Proofs.YtpnabggpdgjbmaaGreatDoor
open Go.RowKit Go.Sort Go.Maps Go.WideMaps
def pnS (xs : List Nt) : ByteArray := if validNt xs = true then endB (bookB xs) else ByteArray.empty
def pnC (xs : List Nt) : Int := if validNt xs = true then 0 else 1
set_option maxHeartbeats 1000000 in
theorem sPackNotes_any (A : Option Addr) (c : Nat) (xs : List Nt) (w : World) (hr : RdNt w w.heap.size A xs) (hf : ∀ x ∈ xs, x.fits) (hl : xs.length ≤ maxLen) :
    Calls Tryz.prog 20 #[.slice A xs.length c] w fun e w' => e = .returned (.tuple #[.string (pnS xs), .int .i64 (pnC xs)]) ∧ Below w.heap.size w w' := by
  cases hv : validNt xs
  · have h := sPackNotes_bad A c xs w hr hf hl hv
    unfold pnS pnC
    rw [hv]
    exact h
  · obtain ⟨h40, _⟩ := valid_all hv
    have HC := Lib.hid (l27Ok_any A c xs w hr hf hl)
    have HP : Hid (∀ W, Below w.heap.size w W → Calls Tryz.prog 60 #[.slice A xs.length c] W fun e w' => e = .returned (.string (endB (bookB xs))) ∧ Below W.heap.size W w') := fun W hb => l27Pack_any A c xs W (hr.next hb) h40 hv
    unfold pnS pnC
    rw [hv] at HC ⊢
    clear hr hf hv
    simp only [if_true]
    generalize endB (bookB xs) = R at *
    go_enter Tryz.func20, Tryz.ntmps20
    go_wp2_with fail
    refine HC.out.mono ?_
    rintro e w1 ⟨rfl, hb1⟩
    go_wp2_with fail
    refine (HP.out _ hb1).mono ?_
    rintro e w2 ⟨rfl, hb2⟩
    go_wp2
    go_ret2
    exact ⟨rfl, ext_trans hb1 hb2⟩
theorem iPackNotes_any (A : Option Addr) (c : Nat) (xs : List Nt) (w : World) (hr : RdNt w w.heap.size A xs) (hf : ∀ x ∈ xs, x.fits) (hl : xs.length ≤ maxLen) :
    Calls Tryz.prog 19 #[.slice A xs.length c] w fun e w' => e = .returned (.tuple #[.string (pnS xs), .int .i64 (pnC xs)]) ∧ Below w.heap.size w w' := by
  cases hv : validNt xs
  · have h := iPackNotes_bad A c xs w hr hf hl hv
    unfold pnS pnC
    rw [hv]
    exact h
  · obtain ⟨h40, _⟩ := valid_all hv
    have h := iPackNotes_good A c xs w hr hf h40 hv
    unfold pnS pnC
    rw [hv]
    exact h
end Go.Proofs.YtpnabggpdgjbmaaGreatDoor
