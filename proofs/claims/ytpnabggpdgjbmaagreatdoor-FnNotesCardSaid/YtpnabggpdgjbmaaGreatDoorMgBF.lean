/- ReadFraction: both walks. No condition but those that each theorem names. -/
import Derived.Test.YtpnabggpdgjbmaaGreatDoorMgBC
import Derived.Test.YtpnabggpdgjbmaaGreatDoorMgBE
import Derived.Test.YtpnabggpdgjbmaaGreatDoorMgAT
import Derived.Deep.DeepCutAuto
namespace Go.Proofs.YtpnabggpdgjbmaaGreatDoor
open Go.RowKit Go.Sort
/-- What a call returns that reads a fraction. -/
def rfN (s : ByteArray) : Int := ((rfO s).getD (0, 0)).1
def rfM (s : ByteArray) : Int := ((rfO s).getD (0, 0)).2
def rfK (s : ByteArray) : Bool := (rfO s).isSome
theorem rf_none {s : ByteArray} (h : rfO s = none) : rfN s = 0 ∧ rfM s = 0 ∧ rfK s = false := by unfold rfN rfM rfK; rw [h]; exact ⟨rfl, rfl, rfl⟩
theorem rf_some {s : ByteArray} {n d : Int} (h : rfO s = some (n, d)) : rfN s = n ∧ rfM s = d ∧ rfK s = true := by unfold rfN rfM rfK; rw [h]; exact ⟨rfl, rfl, rfl⟩
theorem Cut_any (s sep : ByteArray) (w : World) (hs : s.size ≤ 1000000000) (hV : Vars w) :
    Calls Tryz.prog 49 #[.string s, .string sep] w fun e w' => e = .returned (.tuple #[.string (mkL (Lib.cut s.data.toList sep.data.toList).1), .string (mkL (Lib.cut s.data.toList sep.data.toList).2.1), .bool (Lib.cut s.data.toList sep.data.toList).2.2]) ∧ Below w.heap.size w w' := by
  obtain ⟨m, hm⟩ := hV.len
  refine (Tryz.strings_Cut s sep m w (by omega) hm).mono ?_
  rintro e w' ⟨rfl, n, rfl⟩
  exact ⟨rfl, below_drewNS (Below.refl _ _)⟩
theorem cut_sz (l sep : List UInt8) : (Lib.cut l sep).1.length ≤ l.length ∧ (Lib.cut l sep).2.1.length ≤ l.length := by
  unfold Lib.cut
  split
  · simp; omega
  · simp
set_option maxRecDepth 100000 in
set_option maxHeartbeats 4000000 in
theorem iReadFraction_any (s : ByteArray) (w : World) (hs : s.size ≤ 100000000) (hV : Vars w) :
    Calls Tryz.prog 93 #[.string s] w fun e w' => e = .returned (.tuple #[fracV (rfN s) (rfM s), .bool (rfK s)]) ∧ Below w.heap.size w w' := by
  have HVV := Lib.hid (fun W (hb : Below w.heap.size w W) => hV.next hb)
  have HCUT := Lib.hid (fun (W : World) (hb : Below w.heap.size w W) => Cut_any s ⟨#[47]⟩ W (by omega) (HVV.out W hb))
  have hsz := cut_sz s.data.toList [47]
  rw [size_list] at hsz
  have HO0 : Hid ((numK (rfT s) && (numK (rfD s) && decide (frX (numN (rfT s)) (numN (rfD s)) = s ∧ s.size ≠ 0))) = false → rfO s = none) := fun h => by unfold rfO; rw [h]; rfl
  have HO1 : Hid ((numK (rfT s) && (numK (rfD s) && decide (frX (numN (rfT s)) (numN (rfD s)) = s ∧ s.size ≠ 0))) = true → rfO s = some (numN (rfT s), numN (rfD s))) := fun h => by unfold rfO; rw [h]; rfl
  have HRT : Hid (mkL (Lib.cut s.data.toList [47]).1 = rfT s) := rfl
  have HT : Hid (∀ W, Below w.heap.size w W → Calls Tryz.prog 133 #[.string (rfT s)] W fun e w' => e = .returned (.tuple #[.int .i64 (numN (rfT s)), .bool (numK (rfT s))]) ∧ Below W.heap.size W w') := fun W hb => iReadDecimal_any (rfT s) W (by unfold rfT; rw [mkL_size]; omega) (HVV.out W hb)
  have HD : Hid (∀ W, Below w.heap.size w W → Calls Tryz.prog 133 #[.string (rfD s)] W fun e w' => e = .returned (.tuple #[.int .i64 (numN (rfD s)), .bool (numK (rfD s))]) ∧ Below W.heap.size W w') := fun W hb => iReadDecimal_any (rfD s) W (by
    unfold rfD
    split
    · rw [mkL_size]; omega
    · show 1 ≤ 281474976710656; omega) (HVV.out W hb)
  have HFT : Hid (∀ W, Below w.heap.size w W → Calls Tryz.prog 46 #[fracV (numN (rfT s)) (numN (rfD s))] W fun e w' => e = .returned (.string (frX (numN (rfT s)) (numN (rfD s)))) ∧ Below W.heap.size W w') := fun W hb => iFractionText_any _ _ W (HVV.out W hb).tab
  have HRD : Hid (((Lib.cut s.data.toList [47]).2.2 = true → rfD s = mkL (Lib.cut s.data.toList [47]).2.1) ∧ ((Lib.cut s.data.toList [47]).2.2 = false → rfD s = ⟨#[49]⟩)) := ⟨fun h => by unfold rfD; rw [if_pos h], fun h => by unfold rfD; rw [if_neg (by rw [h]; decide)]⟩
  have R0 := Lib.hid (BoxV.new w #[.int .i64 0, .int .i64 0] 26)
  have E0 := Lib.hid (ext1 w (.cells #[.int .i64 0, .int .i64 0] 26))
  have e47 : ({ data := #[47] } : ByteArray).data.toList = [47] := rfl
  rw [e47] at HCUT
  rw [HRT.out] at HCUT
  generalize frX (numN (rfT s)) (numN (rfD s)) = X at *
  generalize numN (rfT s) = n at *
  generalize numN (rfD s) = d at *
  generalize numK (rfT s) = k1 at *
  generalize numK (rfD s) = k2 at *
  generalize rfT s = T at *
  generalize rfD s = D at *
  generalize mkL (Lib.cut s.data.toList [47]).2.1 = B0 at *
  clear hsz HRT e47 hV
  unfold fracV at *
  cases hF : (Lib.cut s.data.toList [47]).2.2
  · rw [hF] at HCUT
    obtain rfl := HRD.out.2 hF
    clear HRD hF
    go_enter Tryz.func93, Tryz.ntmps93
    go_wp2_with fail
    refine (HCUT.out _ E0.out).mono ?_
    rintro e w1 ⟨rfl, hb1⟩
    have R1 := Lib.hid (R0.out.next hb1)
    have E1 := Lib.hid (ext_trans E0.out hb1)
    clear hb1 R0 E0 HCUT
    go_wp2_with fail
    refine (HT.out _ E1.out).mono ?_
    rintro e w2 ⟨rfl, hb2⟩
    have E2 := Lib.hid (ext_trans E1.out hb2)
    have R2 := Lib.hid (R1.out.next hb2)
    clear hb2
    go_wp2_with fail
    refine (HD.out _ E2.out).mono ?_
    rintro e w3 ⟨rfl, hb3⟩
    have E3 := Lib.hid (ext_trans E2.out hb3)
    have R3 := Lib.hid (R2.out.next hb3)
    clear hb3 E1 E2 R1 R2
    go_upto_region 7 with fail
    have BX := Lib.hid (BoxV.new w3 #[.int .i64 n, .int .i64 d] 26)
    have E4 := Lib.hid (ext_alloc E3.out (.cells #[.int .i64 n, .int .i64 d] 26))
    have R4 := Lib.hid (R3.out.alloc (.cells #[.int .i64 n, .int .i64 d] 26))
    generalize w3.alloc (.cells #[.int .i64 n, .int .i64 d] 26) = W4 at *
    generalize w3.heap.size = g at *
    clear E3 R3
    have x0 := BX.out.at 0 _ rfl
    have x1 := BX.out.at 1 _ rfl
    have r0 := R4.out.at 0 _ rfl
    have r1 := R4.out.at 1 _ rfl
    have q0 := R4.out.f 0
    have q1 := R4.out.f 1
    cases k1
    · have HQ := Lib.hid (rf_none (HO0.out (by rfl)))
      clear HO0 HO1
      go_wp2
      refine bodyPost_ret (v := .tuple #[fracV 0 0, .bool false]) (by simp [results, Tryz.results93, go_sem, r0, r1]; done) rfl ?_
      rw [HQ.out.1, HQ.out.2.1, HQ.out.2.2]
      exact ⟨rfl, ext_set (ext_set E4.out (Nat.le_refl _) _) (Nat.le_refl _) _⟩
    · cases k2
      · have HQ := Lib.hid (rf_none (HO0.out (by rfl)))
        clear HO0 HO1
        go_wp2
        refine bodyPost_ret (v := .tuple #[fracV 0 0, .bool false]) (by simp [results, Tryz.results93, go_sem, r0, r1]; done) rfl ?_
        rw [HQ.out.1, HQ.out.2.1, HQ.out.2.2]
        exact ⟨rfl, ext_set (ext_set E4.out (Nat.le_refl _) _) (Nat.le_refl _) _⟩
      · by_cases hs0 : s.size = 0
        · have HQ := Lib.hid (rf_none (HO0.out (by rw [decide_eq_false (fun h => h.2 hs0)]; rfl)))
          have z1 : (s.toList == []) = true := by
            have hl := size_list s
            rw [ByteArray.toList_eq, beq_iff_eq]
            exact List.eq_nil_of_length_eq_zero (by omega)
          clear HO0 HO1 hs0
          go_wp2
          refine bodyPost_ret (v := .tuple #[fracV 0 0, .bool false]) (by simp [results, Tryz.results93, go_sem, r0, r1]; done) rfl ?_
          rw [HQ.out.1, HQ.out.2.1, HQ.out.2.2]
          exact ⟨rfl, ext_set (ext_set E4.out (Nat.le_refl _) _) (Nat.le_refl _) _⟩
        · have z1 : (s.toList == []) = false := by
            have hl := size_list s
            rw [ByteArray.toList_eq, beq_eq_false_iff_ne]
            intro e
            rw [e] at hl
            simp at hl
            omega
          have HX := Lib.hid (HFT.out W4 E4.out)
          by_cases hx : X = s
          · have HQ := Lib.hid (rf_some (HO1.out (by rw [decide_eq_true (And.intro hx hs0)]; rfl)))
            have heq := strEqB hx
            clear HO0 HO1 hs0 hx HFT
            go_wp2_with fail
            refine HX.out.mono ?_
            rintro e w5 ⟨rfl, hb5⟩
            have B5 := Lib.hid (BX.out.next hb5)
            have R5 := Lib.hid (R4.out.next hb5)
            have E5 := Lib.hid (ext_trans E4.out hb5)
            clear x0 x1 r0 r1 q0 q1
            have x0 := B5.out.at 0 _ rfl
            have x1 := B5.out.at 1 _ rfl
            have r0 := R5.out.at 0 _ rfl
            have r1 := R5.out.at 1 _ rfl
            have q0 := R5.out.f 0
            have q1 := R5.out.f 1
            go_wp2
            refine bodyPost_ret (v := .tuple #[fracV n d, .bool true]) (by simp [results, Tryz.results93, go_sem, r0, r1]; done) rfl ?_
            rw [HQ.out.1, HQ.out.2.1, HQ.out.2.2]
            exact ⟨rfl, ext_set (ext_set E5.out (Nat.le_refl _) _) (Nat.le_refl _) _⟩
          · have HQ := Lib.hid (rf_none (HO0.out (by rw [decide_eq_false (fun h => hx h.1)]; rfl)))
            have heq := strNeB hx
            clear HO0 HO1 hs0 hx HFT
            go_wp2_with fail
            refine HX.out.mono ?_
            rintro e w5 ⟨rfl, hb5⟩
            have B5 := Lib.hid (BX.out.next hb5)
            have R5 := Lib.hid (R4.out.next hb5)
            have E5 := Lib.hid (ext_trans E4.out hb5)
            clear x0 x1 r0 r1 q0 q1
            have x0 := B5.out.at 0 _ rfl
            have x1 := B5.out.at 1 _ rfl
            have r0 := R5.out.at 0 _ rfl
            have r1 := R5.out.at 1 _ rfl
            have q0 := R5.out.f 0
            have q1 := R5.out.f 1
            go_wp2
            refine bodyPost_ret (v := .tuple #[fracV 0 0, .bool false]) (by simp [results, Tryz.results93, go_sem, r0, r1]; done) rfl ?_
            rw [HQ.out.1, HQ.out.2.1, HQ.out.2.2]
            exact ⟨rfl, ext_set (ext_set E5.out (Nat.le_refl _) _) (Nat.le_refl _) _⟩
  · rw [hF] at HCUT
    obtain rfl := HRD.out.1 hF
    clear HRD hF
    go_enter Tryz.func93, Tryz.ntmps93
    go_wp2_with fail
    refine (HCUT.out _ E0.out).mono ?_
    rintro e w1 ⟨rfl, hb1⟩
    have R1 := Lib.hid (R0.out.next hb1)
    have E1 := Lib.hid (ext_trans E0.out hb1)
    clear hb1 R0 E0 HCUT
    go_wp2_with fail
    refine (HT.out _ E1.out).mono ?_
    rintro e w2 ⟨rfl, hb2⟩
    have E2 := Lib.hid (ext_trans E1.out hb2)
    have R2 := Lib.hid (R1.out.next hb2)
    clear hb2
    go_wp2_with fail
    refine (HD.out _ E2.out).mono ?_
    rintro e w3 ⟨rfl, hb3⟩
    have E3 := Lib.hid (ext_trans E2.out hb3)
    have R3 := Lib.hid (R2.out.next hb3)
    clear hb3 E1 E2 R1 R2
    go_upto_region 7 with fail
    have BX := Lib.hid (BoxV.new w3 #[.int .i64 n, .int .i64 d] 26)
    have E4 := Lib.hid (ext_alloc E3.out (.cells #[.int .i64 n, .int .i64 d] 26))
    have R4 := Lib.hid (R3.out.alloc (.cells #[.int .i64 n, .int .i64 d] 26))
    generalize w3.alloc (.cells #[.int .i64 n, .int .i64 d] 26) = W4 at *
    generalize w3.heap.size = g at *
    clear E3 R3
    have x0 := BX.out.at 0 _ rfl
    have x1 := BX.out.at 1 _ rfl
    have r0 := R4.out.at 0 _ rfl
    have r1 := R4.out.at 1 _ rfl
    have q0 := R4.out.f 0
    have q1 := R4.out.f 1
    cases k1
    · have HQ := Lib.hid (rf_none (HO0.out (by rfl)))
      clear HO0 HO1
      go_wp2
      refine bodyPost_ret (v := .tuple #[fracV 0 0, .bool false]) (by simp [results, Tryz.results93, go_sem, r0, r1]; done) rfl ?_
      rw [HQ.out.1, HQ.out.2.1, HQ.out.2.2]
      exact ⟨rfl, ext_set (ext_set E4.out (Nat.le_refl _) _) (Nat.le_refl _) _⟩
    · cases k2
      · have HQ := Lib.hid (rf_none (HO0.out (by rfl)))
        clear HO0 HO1
        go_wp2
        refine bodyPost_ret (v := .tuple #[fracV 0 0, .bool false]) (by simp [results, Tryz.results93, go_sem, r0, r1]; done) rfl ?_
        rw [HQ.out.1, HQ.out.2.1, HQ.out.2.2]
        exact ⟨rfl, ext_set (ext_set E4.out (Nat.le_refl _) _) (Nat.le_refl _) _⟩
      · by_cases hs0 : s.size = 0
        · have HQ := Lib.hid (rf_none (HO0.out (by rw [decide_eq_false (fun h => h.2 hs0)]; rfl)))
          have z1 : (s.toList == []) = true := by
            have hl := size_list s
            rw [ByteArray.toList_eq, beq_iff_eq]
            exact List.eq_nil_of_length_eq_zero (by omega)
          clear HO0 HO1 hs0
          go_wp2
          refine bodyPost_ret (v := .tuple #[fracV 0 0, .bool false]) (by simp [results, Tryz.results93, go_sem, r0, r1]; done) rfl ?_
          rw [HQ.out.1, HQ.out.2.1, HQ.out.2.2]
          exact ⟨rfl, ext_set (ext_set E4.out (Nat.le_refl _) _) (Nat.le_refl _) _⟩
        · have z1 : (s.toList == []) = false := by
            have hl := size_list s
            rw [ByteArray.toList_eq, beq_eq_false_iff_ne]
            intro e
            rw [e] at hl
            simp at hl
            omega
          have HX := Lib.hid (HFT.out W4 E4.out)
          by_cases hx : X = s
          · have HQ := Lib.hid (rf_some (HO1.out (by rw [decide_eq_true (And.intro hx hs0)]; rfl)))
            have heq := strEqB hx
            clear HO0 HO1 hs0 hx HFT
            go_wp2_with fail
            refine HX.out.mono ?_
            rintro e w5 ⟨rfl, hb5⟩
            have B5 := Lib.hid (BX.out.next hb5)
            have R5 := Lib.hid (R4.out.next hb5)
            have E5 := Lib.hid (ext_trans E4.out hb5)
            clear x0 x1 r0 r1 q0 q1
            have x0 := B5.out.at 0 _ rfl
            have x1 := B5.out.at 1 _ rfl
            have r0 := R5.out.at 0 _ rfl
            have r1 := R5.out.at 1 _ rfl
            have q0 := R5.out.f 0
            have q1 := R5.out.f 1
            go_wp2
            refine bodyPost_ret (v := .tuple #[fracV n d, .bool true]) (by simp [results, Tryz.results93, go_sem, r0, r1]; done) rfl ?_
            rw [HQ.out.1, HQ.out.2.1, HQ.out.2.2]
            exact ⟨rfl, ext_set (ext_set E5.out (Nat.le_refl _) _) (Nat.le_refl _) _⟩
          · have HQ := Lib.hid (rf_none (HO0.out (by rw [decide_eq_false (fun h => hx h.1)]; rfl)))
            have heq := strNeB hx
            clear HO0 HO1 hs0 hx HFT
            go_wp2_with fail
            refine HX.out.mono ?_
            rintro e w5 ⟨rfl, hb5⟩
            have B5 := Lib.hid (BX.out.next hb5)
            have R5 := Lib.hid (R4.out.next hb5)
            have E5 := Lib.hid (ext_trans E4.out hb5)
            clear x0 x1 r0 r1 q0 q1
            have x0 := B5.out.at 0 _ rfl
            have x1 := B5.out.at 1 _ rfl
            have r0 := R5.out.at 0 _ rfl
            have r1 := R5.out.at 1 _ rfl
            have q0 := R5.out.f 0
            have q1 := R5.out.f 1
            go_wp2
            refine bodyPost_ret (v := .tuple #[fracV 0 0, .bool false]) (by simp [results, Tryz.results93, go_sem, r0, r1]; done) rfl ?_
            rw [HQ.out.1, HQ.out.2.1, HQ.out.2.2]
            exact ⟨rfl, ext_set (ext_set E5.out (Nat.le_refl _) _) (Nat.le_refl _) _⟩
theorem rf_len (s : ByteArray) : (∃ a, spB 47 s = [a]) ∨ (∃ a b, spB 47 s = [a, b]) ∨ ∃ a b c r, spB 47 s = a :: b :: c :: r := by
  obtain ⟨a, r, h⟩ := spB_ne 47 s
  cases r with
  | nil => exact .inl ⟨a, h⟩
  | cons b r =>
    cases r with
    | nil => exact .inr (.inl ⟨a, b, h⟩)
    | cons c r => exact .inr (.inr ⟨a, b, c, r, h⟩)
set_option maxRecDepth 100000 in
set_option maxHeartbeats 4000000 in
theorem sReadFraction_any (s : ByteArray) (w : World) (hs : s.size ≤ 1000000000) :
    Calls Tryz.prog 101 #[.string s] w fun e w' => e = .returned (.tuple #[fracV (rfN s) (rfM s), .bool (rfK s)]) ∧ Below w.heap.size w w' := by
  have HSP := Lib.hid (fun W : World => l01Split_any s 47 47 rfl W (by omega))
  unfold RetStrs at HSP
  have hsz : ∀ x ∈ spB 47 s, x.size ≤ maxLen := fun x hx => by have := spB_sz hx; unfold maxLen; omega
  have hct := spB_count 47 s
  rcases rf_len s with ⟨a, h⟩ | ⟨a, b, h⟩ | ⟨a, b, c, r, h⟩
  · obtain ⟨h1, h2⟩ := rf_one h
    have HA := Lib.hid (fun W : World => l01Number_any a W (hsz a (by rw [h]; simp)))
    have HV := Lib.hid (fun W : World => l02Ok_any (numN a) 1 W)
    rw [h] at HSP
    simp only [List.length_cons, List.length_nil, Nat.zero_add] at HSP
    cases hk : numK a
    · have HQ := Lib.hid (rf_none (h2 (by rw [hk]; rfl)))
      rw [hk] at HA
      generalize numN a = n at *
      clear h1 h2 hk HV hct
      have R0 := Lib.hid (BoxV.new w #[.int .i64 0, .int .i64 0] 26)
      have E0 := Lib.hid (ext1 w (.cells #[.int .i64 0, .int .i64 0] 26))
      unfold fracV at *
      go_enter Tryz.func101, Tryz.ntmps101
      go_wp2_with fail
      refine (HSP.out _).mono ?_
      rintro e w1 ⟨A1, c1, rfl, hw1, hb1⟩
      have R1 := Lib.hid (R0.out.next hb1)
      have E1 := Lib.hid (ext_trans E0.out hb1)
      obtain ⟨g1, o1, rfl, _, hgl, hcc, _⟩ := hw1 (by simp)
      clear hw1 R0 E0 HSP hb1
      have ca := hcc 0 a rfl
      rw [Nat.add_zero] at ca
      go_wp2_with fail
      refine (HA.out _).mono ?_
      rintro e w2 ⟨rfl, hb2⟩
      have E2 := Lib.hid (ext_trans E1.out hb2)
      have R2 := Lib.hid (R1.out.next hb2)
      go_upto_region 4 with fail
      have BX := Lib.hid (BoxV.new w2 #[.int .i64 n, .int .i64 1] 26)
      have E4 := Lib.hid (ext_alloc E2.out (.cells #[.int .i64 n, .int .i64 1] 26))
      have R4 := Lib.hid (R2.out.alloc (.cells #[.int .i64 n, .int .i64 1] 26))
      have hbw := ext_alloc hb2 (.cells #[.int .i64 n, .int .i64 1] 26)
      have HGE : Hid (w.heap.size ≤ w2.heap.size ∧ ¬ w2.heap.size = w.heap.size) := by
        have h1 := R2.out.lt
        unfold Hid
        omega
      generalize w2.alloc (.cells #[.int .i64 n, .int .i64 1] 26) = W4 at *
      generalize w2.heap.size = g at *
      clear E2 R2 E1 R1 hb2 HA
      have R9 := R4
      have E9 := E4
      have x0 := BX.out.at 0 _ rfl
      have x1 := BX.out.at 1 _ rfl
      have r0 := R9.out.at 0 _ rfl
      have r1 := R9.out.at 1 _ rfl
      have q0 := R9.out.f 0
      have q1 := R9.out.f 1
      go_wp2
      refine bodyPost_ret (v := .tuple #[fracV 0 0, .bool false]) (by simp [results, Tryz.results101, go_sem, r0, r1]; done) rfl ?_
      rw [HQ.out.1, HQ.out.2.1, HQ.out.2.2]
      exact ⟨rfl, ext_set (ext_set E9.out (Nat.le_refl _) _) (Nat.le_refl _) _⟩
    · rw [hk] at HA
      cases hv : fracOk (numN a) 1
      · have HQ := Lib.hid (rf_none (h2 (by rw [hv, Bool.and_false])))
        rw [hv] at HV
        generalize numN a = n at *
        clear h1 h2 hk hv hct
        unfold fracV at HV
        have R0 := Lib.hid (BoxV.new w #[.int .i64 0, .int .i64 0] 26)
        have E0 := Lib.hid (ext1 w (.cells #[.int .i64 0, .int .i64 0] 26))
        unfold fracV at *
        go_enter Tryz.func101, Tryz.ntmps101
        go_wp2_with fail
        refine (HSP.out _).mono ?_
        rintro e w1 ⟨A1, c1, rfl, hw1, hb1⟩
        have R1 := Lib.hid (R0.out.next hb1)
        have E1 := Lib.hid (ext_trans E0.out hb1)
        obtain ⟨g1, o1, rfl, _, hgl, hcc, _⟩ := hw1 (by simp)
        clear hw1 R0 E0 HSP hb1
        have ca := hcc 0 a rfl
        rw [Nat.add_zero] at ca
        go_wp2_with fail
        refine (HA.out _).mono ?_
        rintro e w2 ⟨rfl, hb2⟩
        have E2 := Lib.hid (ext_trans E1.out hb2)
        have R2 := Lib.hid (R1.out.next hb2)
        go_upto_region 4 with fail
        have BX := Lib.hid (BoxV.new w2 #[.int .i64 n, .int .i64 1] 26)
        have E4 := Lib.hid (ext_alloc E2.out (.cells #[.int .i64 n, .int .i64 1] 26))
        have R4 := Lib.hid (R2.out.alloc (.cells #[.int .i64 n, .int .i64 1] 26))
        have hbw := ext_alloc hb2 (.cells #[.int .i64 n, .int .i64 1] 26)
        have HGE : Hid (w.heap.size ≤ w2.heap.size ∧ ¬ w2.heap.size = w.heap.size) := by
          have h1 := R2.out.lt
          unfold Hid
          omega
        generalize w2.alloc (.cells #[.int .i64 n, .int .i64 1] 26) = W4 at *
        generalize w2.heap.size = g at *
        clear E2 R2 E1 R1 hb2 HA
        have x0 := BX.out.at 0 _ rfl
        have x1 := BX.out.at 1 _ rfl
        go_wp2_with fail
        refine (HV.out _).mono ?_
        rintro e w5 ⟨rfl, hb5⟩
        have R9 := Lib.hid (R4.out.next hb5)
        have E9 := Lib.hid (ext_trans E4.out hb5)
        have r0 := R9.out.at 0 _ rfl
        have r1 := R9.out.at 1 _ rfl
        have q0 := R9.out.f 0
        have q1 := R9.out.f 1
        go_wp2
        refine bodyPost_ret (v := .tuple #[fracV 0 0, .bool false]) (by simp [results, Tryz.results101, go_sem, r0, r1]; done) rfl ?_
        rw [HQ.out.1, HQ.out.2.1, HQ.out.2.2]
        exact ⟨rfl, ext_set (ext_set E9.out (Nat.le_refl _) _) (Nat.le_refl _) _⟩
      · have HQ := Lib.hid (rf_some (h1 hk hv))
        rw [hv] at HV
        generalize numN a = n at *
        clear h1 h2 hk hv hct
        unfold fracV at HV
        have R0 := Lib.hid (BoxV.new w #[.int .i64 0, .int .i64 0] 26)
        have E0 := Lib.hid (ext1 w (.cells #[.int .i64 0, .int .i64 0] 26))
        unfold fracV at *
        go_enter Tryz.func101, Tryz.ntmps101
        go_wp2_with fail
        refine (HSP.out _).mono ?_
        rintro e w1 ⟨A1, c1, rfl, hw1, hb1⟩
        have R1 := Lib.hid (R0.out.next hb1)
        have E1 := Lib.hid (ext_trans E0.out hb1)
        obtain ⟨g1, o1, rfl, _, hgl, hcc, _⟩ := hw1 (by simp)
        clear hw1 R0 E0 HSP hb1
        have ca := hcc 0 a rfl
        rw [Nat.add_zero] at ca
        go_wp2_with fail
        refine (HA.out _).mono ?_
        rintro e w2 ⟨rfl, hb2⟩
        have E2 := Lib.hid (ext_trans E1.out hb2)
        have R2 := Lib.hid (R1.out.next hb2)
        go_upto_region 4 with fail
        have BX := Lib.hid (BoxV.new w2 #[.int .i64 n, .int .i64 1] 26)
        have E4 := Lib.hid (ext_alloc E2.out (.cells #[.int .i64 n, .int .i64 1] 26))
        have R4 := Lib.hid (R2.out.alloc (.cells #[.int .i64 n, .int .i64 1] 26))
        have hbw := ext_alloc hb2 (.cells #[.int .i64 n, .int .i64 1] 26)
        have HGE : Hid (w.heap.size ≤ w2.heap.size ∧ ¬ w2.heap.size = w.heap.size) := by
          have h1 := R2.out.lt
          unfold Hid
          omega
        generalize w2.alloc (.cells #[.int .i64 n, .int .i64 1] 26) = W4 at *
        generalize w2.heap.size = g at *
        clear E2 R2 E1 R1 hb2 HA
        have x0 := BX.out.at 0 _ rfl
        have x1 := BX.out.at 1 _ rfl
        go_wp2_with fail
        refine (HV.out _).mono ?_
        rintro e w5 ⟨rfl, hb5⟩
        have R9 := Lib.hid (R4.out.next hb5)
        have B9 := Lib.hid (BX.out.next hb5)
        have E9 := Lib.hid (ext_trans E4.out hb5)
        clear x0 x1
        have r0 := R9.out.at 0 _ rfl
        have r1 := R9.out.at 1 _ rfl
        have q0 := R9.out.f 0
        have q1 := R9.out.f 1
        have x0 := B9.out.at 0 _ rfl
        have x1 := B9.out.at 1 _ rfl
        go_wp2
        refine bodyPost_ret (v := .tuple #[fracV n 1, .bool true]) (by simp [results, Tryz.results101, go_sem, r0, r1]; done) rfl ?_
        rw [HQ.out.1, HQ.out.2.1, HQ.out.2.2]
        exact ⟨rfl, ext_set (ext_set E9.out (Nat.le_refl _) _) (Nat.le_refl _) _⟩
  · obtain ⟨h1, h2⟩ := rf_two h
    have HA := Lib.hid (fun W : World => l01Number_any a W (hsz a (by rw [h]; simp)))
    have HB := Lib.hid (fun W : World => l01Number_any b W (hsz b (by rw [h]; simp)))
    have HV := Lib.hid (fun W : World => l02Ok_any (numN a) (numN b) W)
    rw [h] at HSP
    simp only [List.length_cons, List.length_nil, Nat.zero_add] at HSP
    have hway : (numK a = false) ∨ (numK a = true ∧ numK b = false) ∨ (numK a = true ∧ numK b = true ∧ numN b = 1) ∨ (numK a = true ∧ numK b = true ∧ numN b ≠ 1 ∧ fracOk (numN a) (numN b) = false) ∨ (numK a = true ∧ numK b = true ∧ numN b ≠ 1 ∧ fracOk (numN a) (numN b) = true) := by
      cases numK a <;> cases numK b <;> cases fracOk (numN a) (numN b) <;> by_cases g : numN b = 1 <;> simp [g]
    rcases hway with k1 | ⟨k1, k2⟩ | ⟨k1, k2, k3⟩ | ⟨k1, k2, k3, k4⟩ | ⟨k1, k2, k3, k4⟩
    · have HQ := Lib.hid (rf_none (h2 (by rw [k1]; rfl)))
      rw [k1] at HA
      generalize numN a = n at *
      generalize numN b = m at *
      generalize numK b = kb at *
      clear h1 h2 k1 HV hct
      have R0 := Lib.hid (BoxV.new w #[.int .i64 0, .int .i64 0] 26)
      have E0 := Lib.hid (ext1 w (.cells #[.int .i64 0, .int .i64 0] 26))
      unfold fracV at *
      go_enter Tryz.func101, Tryz.ntmps101
      go_wp2_with fail
      refine (HSP.out _).mono ?_
      rintro e w1 ⟨A1, c1, rfl, hw1, hb1⟩
      have R1 := Lib.hid (R0.out.next hb1)
      have E1 := Lib.hid (ext_trans E0.out hb1)
      obtain ⟨g1, o1, rfl, _, hgl, hcc, _⟩ := hw1 (by simp)
      clear hw1 R0 E0 HSP hb1
      have ca := hcc 0 a rfl
      rw [Nat.add_zero] at ca
      have hcb := hcc 1 b rfl
      go_wp2_with fail
      refine (HA.out _).mono ?_
      rintro e w2 ⟨rfl, hb2⟩
      have E2 := Lib.hid (ext_trans E1.out hb2)
      have R2 := Lib.hid (R1.out.next hb2)
      go_upto_region 4 with fail
      have BX := Lib.hid (BoxV.new w2 #[.int .i64 n, .int .i64 1] 26)
      have E4 := Lib.hid (ext_alloc E2.out (.cells #[.int .i64 n, .int .i64 1] 26))
      have R4 := Lib.hid (R2.out.alloc (.cells #[.int .i64 n, .int .i64 1] 26))
      have hbw := ext_alloc hb2 (.cells #[.int .i64 n, .int .i64 1] 26)
      have HGE : Hid (w.heap.size ≤ w2.heap.size ∧ ¬ w2.heap.size = w.heap.size) := by
        have h1 := R2.out.lt
        unfold Hid
        omega
      generalize w2.alloc (.cells #[.int .i64 n, .int .i64 1] 26) = W4 at *
      generalize w2.heap.size = g at *
      clear E2 R2 E1 R1 hb2 HA
      have hcb4 := (hbw.cell (p := ⟨g1, o1 + 1, none⟩) hgl).trans hcb
      have y0 := BX.out.at 0 _ rfl
      go_wp2_with fail
      refine (HB.out _).mono ?_
      rintro e w5 ⟨rfl, hb5⟩
      have B5 := Lib.hid (BX.out.next hb5)
      have R5 := Lib.hid (R4.out.next hb5)
      have E5 := Lib.hid (ext_trans E4.out hb5)
      have B6 := Lib.hid (B5.out.set 1 (.int .i64 m) (by simp))
      have R6 := Lib.hid (R5.out.setFar (j := 1) (.int .i64 m) HGE.out.2)
      have E6 := Lib.hid (ext_set E5.out (p := ⟨g, 1, none⟩) HGE.out.1 (.int .i64 m))
      have y0 := B5.out.at 0 _ rfl
      have y1 := B5.out.at 1 _ rfl
      have u1 := B5.out.f 1
      go_upto_region 8 with fail
      generalize w5.setCell ⟨g, 1, none⟩ (.int .i64 m) = W6 at *
      clear y0 y1 u1 hb5 B5 R5 E5 BX R4 E4 hbw hcb4 hcb hcc
      have B9 := B6
      have R9 := R6
      have E9 := E6
      have x0 := B9.out.at 0 _ rfl
      have x1 := B9.out.at 1 _ rfl
      clear B6 R6 E6
      have r0 := R9.out.at 0 _ rfl
      have r1 := R9.out.at 1 _ rfl
      have q0 := R9.out.f 0
      have q1 := R9.out.f 1
      go_wp2
      refine bodyPost_ret (v := .tuple #[fracV 0 0, .bool false]) (by simp [results, Tryz.results101, go_sem, r0, r1]; done) rfl ?_
      rw [HQ.out.1, HQ.out.2.1, HQ.out.2.2]
      exact ⟨rfl, ext_set (ext_set E9.out (Nat.le_refl _) _) (Nat.le_refl _) _⟩
    · have HQ := Lib.hid (rf_none (h2 (by rw [k1, k2]; rfl)))
      rw [k1] at HA
      rw [k2] at HB
      generalize numN a = n at *
      generalize numN b = m at *
      clear h1 h2 k1 k2 HV hct
      have R0 := Lib.hid (BoxV.new w #[.int .i64 0, .int .i64 0] 26)
      have E0 := Lib.hid (ext1 w (.cells #[.int .i64 0, .int .i64 0] 26))
      unfold fracV at *
      go_enter Tryz.func101, Tryz.ntmps101
      go_wp2_with fail
      refine (HSP.out _).mono ?_
      rintro e w1 ⟨A1, c1, rfl, hw1, hb1⟩
      have R1 := Lib.hid (R0.out.next hb1)
      have E1 := Lib.hid (ext_trans E0.out hb1)
      obtain ⟨g1, o1, rfl, _, hgl, hcc, _⟩ := hw1 (by simp)
      clear hw1 R0 E0 HSP hb1
      have ca := hcc 0 a rfl
      rw [Nat.add_zero] at ca
      have hcb := hcc 1 b rfl
      go_wp2_with fail
      refine (HA.out _).mono ?_
      rintro e w2 ⟨rfl, hb2⟩
      have E2 := Lib.hid (ext_trans E1.out hb2)
      have R2 := Lib.hid (R1.out.next hb2)
      go_upto_region 4 with fail
      have BX := Lib.hid (BoxV.new w2 #[.int .i64 n, .int .i64 1] 26)
      have E4 := Lib.hid (ext_alloc E2.out (.cells #[.int .i64 n, .int .i64 1] 26))
      have R4 := Lib.hid (R2.out.alloc (.cells #[.int .i64 n, .int .i64 1] 26))
      have hbw := ext_alloc hb2 (.cells #[.int .i64 n, .int .i64 1] 26)
      have HGE : Hid (w.heap.size ≤ w2.heap.size ∧ ¬ w2.heap.size = w.heap.size) := by
        have h1 := R2.out.lt
        unfold Hid
        omega
      generalize w2.alloc (.cells #[.int .i64 n, .int .i64 1] 26) = W4 at *
      generalize w2.heap.size = g at *
      clear E2 R2 E1 R1 hb2 HA
      have hcb4 := (hbw.cell (p := ⟨g1, o1 + 1, none⟩) hgl).trans hcb
      have y0 := BX.out.at 0 _ rfl
      go_wp2_with fail
      refine (HB.out _).mono ?_
      rintro e w5 ⟨rfl, hb5⟩
      have B5 := Lib.hid (BX.out.next hb5)
      have R5 := Lib.hid (R4.out.next hb5)
      have E5 := Lib.hid (ext_trans E4.out hb5)
      have B6 := Lib.hid (B5.out.set 1 (.int .i64 m) (by simp))
      have R6 := Lib.hid (R5.out.setFar (j := 1) (.int .i64 m) HGE.out.2)
      have E6 := Lib.hid (ext_set E5.out (p := ⟨g, 1, none⟩) HGE.out.1 (.int .i64 m))
      have y0 := B5.out.at 0 _ rfl
      have y1 := B5.out.at 1 _ rfl
      have u1 := B5.out.f 1
      go_upto_region 8 with fail
      generalize w5.setCell ⟨g, 1, none⟩ (.int .i64 m) = W6 at *
      clear y0 y1 u1 hb5 B5 R5 E5 BX R4 E4 hbw hcb4 hcb hcc
      have B9 := B6
      have R9 := R6
      have E9 := E6
      have x0 := B9.out.at 0 _ rfl
      have x1 := B9.out.at 1 _ rfl
      clear B6 R6 E6
      have r0 := R9.out.at 0 _ rfl
      have r1 := R9.out.at 1 _ rfl
      have q0 := R9.out.f 0
      have q1 := R9.out.f 1
      go_wp2
      refine bodyPost_ret (v := .tuple #[fracV 0 0, .bool false]) (by simp [results, Tryz.results101, go_sem, r0, r1]; done) rfl ?_
      rw [HQ.out.1, HQ.out.2.1, HQ.out.2.2]
      exact ⟨rfl, ext_set (ext_set E9.out (Nat.le_refl _) _) (Nat.le_refl _) _⟩
    · have HQ := Lib.hid (rf_none (h2 (by rw [k1, k2, k3]; rfl)))
      have hm : (numN b != 1) = false := by simpa using k3
      rw [k1] at HA
      rw [k2] at HB
      generalize numN a = n at *
      generalize numN b = m at *
      clear h1 h2 k1 k2 k3 HV hct
      have R0 := Lib.hid (BoxV.new w #[.int .i64 0, .int .i64 0] 26)
      have E0 := Lib.hid (ext1 w (.cells #[.int .i64 0, .int .i64 0] 26))
      unfold fracV at *
      go_enter Tryz.func101, Tryz.ntmps101
      go_wp2_with fail
      refine (HSP.out _).mono ?_
      rintro e w1 ⟨A1, c1, rfl, hw1, hb1⟩
      have R1 := Lib.hid (R0.out.next hb1)
      have E1 := Lib.hid (ext_trans E0.out hb1)
      obtain ⟨g1, o1, rfl, _, hgl, hcc, _⟩ := hw1 (by simp)
      clear hw1 R0 E0 HSP hb1
      have ca := hcc 0 a rfl
      rw [Nat.add_zero] at ca
      have hcb := hcc 1 b rfl
      go_wp2_with fail
      refine (HA.out _).mono ?_
      rintro e w2 ⟨rfl, hb2⟩
      have E2 := Lib.hid (ext_trans E1.out hb2)
      have R2 := Lib.hid (R1.out.next hb2)
      go_upto_region 4 with fail
      have BX := Lib.hid (BoxV.new w2 #[.int .i64 n, .int .i64 1] 26)
      have E4 := Lib.hid (ext_alloc E2.out (.cells #[.int .i64 n, .int .i64 1] 26))
      have R4 := Lib.hid (R2.out.alloc (.cells #[.int .i64 n, .int .i64 1] 26))
      have hbw := ext_alloc hb2 (.cells #[.int .i64 n, .int .i64 1] 26)
      have HGE : Hid (w.heap.size ≤ w2.heap.size ∧ ¬ w2.heap.size = w.heap.size) := by
        have h1 := R2.out.lt
        unfold Hid
        omega
      generalize w2.alloc (.cells #[.int .i64 n, .int .i64 1] 26) = W4 at *
      generalize w2.heap.size = g at *
      clear E2 R2 E1 R1 hb2 HA
      have hcb4 := (hbw.cell (p := ⟨g1, o1 + 1, none⟩) hgl).trans hcb
      have y0 := BX.out.at 0 _ rfl
      go_wp2_with fail
      refine (HB.out _).mono ?_
      rintro e w5 ⟨rfl, hb5⟩
      have B5 := Lib.hid (BX.out.next hb5)
      have R5 := Lib.hid (R4.out.next hb5)
      have E5 := Lib.hid (ext_trans E4.out hb5)
      have B6 := Lib.hid (B5.out.set 1 (.int .i64 m) (by simp))
      have R6 := Lib.hid (R5.out.setFar (j := 1) (.int .i64 m) HGE.out.2)
      have E6 := Lib.hid (ext_set E5.out (p := ⟨g, 1, none⟩) HGE.out.1 (.int .i64 m))
      have y0 := B5.out.at 0 _ rfl
      have y1 := B5.out.at 1 _ rfl
      have u1 := B5.out.f 1
      go_upto_region 8 with fail
      generalize w5.setCell ⟨g, 1, none⟩ (.int .i64 m) = W6 at *
      clear y0 y1 u1 hb5 B5 R5 E5 BX R4 E4 hbw hcb4 hcb hcc
      have B9 := B6
      have R9 := R6
      have E9 := E6
      have x0 := B9.out.at 0 _ rfl
      have x1 := B9.out.at 1 _ rfl
      clear B6 R6 E6
      have r0 := R9.out.at 0 _ rfl
      have r1 := R9.out.at 1 _ rfl
      have q0 := R9.out.f 0
      have q1 := R9.out.f 1
      go_wp2
      refine bodyPost_ret (v := .tuple #[fracV 0 0, .bool false]) (by simp [results, Tryz.results101, go_sem, r0, r1]; done) rfl ?_
      rw [HQ.out.1, HQ.out.2.1, HQ.out.2.2]
      exact ⟨rfl, ext_set (ext_set E9.out (Nat.le_refl _) _) (Nat.le_refl _) _⟩
    · have HQ := Lib.hid (rf_none (h2 (by rw [k4, Bool.and_false, Bool.and_false, Bool.and_false])))
      have hm : (numN b != 1) = true := by simpa using k3
      rw [k1] at HA
      rw [k2] at HB
      rw [k4] at HV
      generalize numN a = n at *
      generalize numN b = m at *
      clear h1 h2 k1 k2 k3 k4 hct
      unfold fracV at HV
      have R0 := Lib.hid (BoxV.new w #[.int .i64 0, .int .i64 0] 26)
      have E0 := Lib.hid (ext1 w (.cells #[.int .i64 0, .int .i64 0] 26))
      unfold fracV at *
      go_enter Tryz.func101, Tryz.ntmps101
      go_wp2_with fail
      refine (HSP.out _).mono ?_
      rintro e w1 ⟨A1, c1, rfl, hw1, hb1⟩
      have R1 := Lib.hid (R0.out.next hb1)
      have E1 := Lib.hid (ext_trans E0.out hb1)
      obtain ⟨g1, o1, rfl, _, hgl, hcc, _⟩ := hw1 (by simp)
      clear hw1 R0 E0 HSP hb1
      have ca := hcc 0 a rfl
      rw [Nat.add_zero] at ca
      have hcb := hcc 1 b rfl
      go_wp2_with fail
      refine (HA.out _).mono ?_
      rintro e w2 ⟨rfl, hb2⟩
      have E2 := Lib.hid (ext_trans E1.out hb2)
      have R2 := Lib.hid (R1.out.next hb2)
      go_upto_region 4 with fail
      have BX := Lib.hid (BoxV.new w2 #[.int .i64 n, .int .i64 1] 26)
      have E4 := Lib.hid (ext_alloc E2.out (.cells #[.int .i64 n, .int .i64 1] 26))
      have R4 := Lib.hid (R2.out.alloc (.cells #[.int .i64 n, .int .i64 1] 26))
      have hbw := ext_alloc hb2 (.cells #[.int .i64 n, .int .i64 1] 26)
      have HGE : Hid (w.heap.size ≤ w2.heap.size ∧ ¬ w2.heap.size = w.heap.size) := by
        have h1 := R2.out.lt
        unfold Hid
        omega
      generalize w2.alloc (.cells #[.int .i64 n, .int .i64 1] 26) = W4 at *
      generalize w2.heap.size = g at *
      clear E2 R2 E1 R1 hb2 HA
      have hcb4 := (hbw.cell (p := ⟨g1, o1 + 1, none⟩) hgl).trans hcb
      have y0 := BX.out.at 0 _ rfl
      go_wp2_with fail
      refine (HB.out _).mono ?_
      rintro e w5 ⟨rfl, hb5⟩
      have B5 := Lib.hid (BX.out.next hb5)
      have R5 := Lib.hid (R4.out.next hb5)
      have E5 := Lib.hid (ext_trans E4.out hb5)
      have B6 := Lib.hid (B5.out.set 1 (.int .i64 m) (by simp))
      have R6 := Lib.hid (R5.out.setFar (j := 1) (.int .i64 m) HGE.out.2)
      have E6 := Lib.hid (ext_set E5.out (p := ⟨g, 1, none⟩) HGE.out.1 (.int .i64 m))
      have y0 := B5.out.at 0 _ rfl
      have y1 := B5.out.at 1 _ rfl
      have u1 := B5.out.f 1
      go_upto_region 8 with fail
      generalize w5.setCell ⟨g, 1, none⟩ (.int .i64 m) = W6 at *
      clear y0 y1 u1 hb5 B5 R5 E5 BX R4 E4 hbw hcb4 hcb hcc
      have B9 := B6
      have R9 := R6
      have E9 := E6
      have x0 := B9.out.at 0 _ rfl
      have x1 := B9.out.at 1 _ rfl
      clear B6 R6 E6
      have R6 := R9
      have E6 := E9
      clear R9 E9
      go_wp2_with fail
      refine (HV.out _).mono ?_
      rintro e w7 ⟨rfl, hb7⟩
      have R9 := Lib.hid (R6.out.next hb7)
      have E9 := Lib.hid (ext_trans E6.out hb7)
      have r0 := R9.out.at 0 _ rfl
      have r1 := R9.out.at 1 _ rfl
      have q0 := R9.out.f 0
      have q1 := R9.out.f 1
      go_wp2
      refine bodyPost_ret (v := .tuple #[fracV 0 0, .bool false]) (by simp [results, Tryz.results101, go_sem, r0, r1]; done) rfl ?_
      rw [HQ.out.1, HQ.out.2.1, HQ.out.2.2]
      exact ⟨rfl, ext_set (ext_set E9.out (Nat.le_refl _) _) (Nat.le_refl _) _⟩
    · have HQ := Lib.hid (rf_some (h1 k1 k2 k3 k4))
      have hm : (numN b != 1) = true := by simpa using k3
      rw [k1] at HA
      rw [k2] at HB
      rw [k4] at HV
      generalize numN a = n at *
      generalize numN b = m at *
      clear h1 h2 k1 k2 k3 k4 hct
      unfold fracV at HV
      have R0 := Lib.hid (BoxV.new w #[.int .i64 0, .int .i64 0] 26)
      have E0 := Lib.hid (ext1 w (.cells #[.int .i64 0, .int .i64 0] 26))
      unfold fracV at *
      go_enter Tryz.func101, Tryz.ntmps101
      go_wp2_with fail
      refine (HSP.out _).mono ?_
      rintro e w1 ⟨A1, c1, rfl, hw1, hb1⟩
      have R1 := Lib.hid (R0.out.next hb1)
      have E1 := Lib.hid (ext_trans E0.out hb1)
      obtain ⟨g1, o1, rfl, _, hgl, hcc, _⟩ := hw1 (by simp)
      clear hw1 R0 E0 HSP hb1
      have ca := hcc 0 a rfl
      rw [Nat.add_zero] at ca
      have hcb := hcc 1 b rfl
      go_wp2_with fail
      refine (HA.out _).mono ?_
      rintro e w2 ⟨rfl, hb2⟩
      have E2 := Lib.hid (ext_trans E1.out hb2)
      have R2 := Lib.hid (R1.out.next hb2)
      go_upto_region 4 with fail
      have BX := Lib.hid (BoxV.new w2 #[.int .i64 n, .int .i64 1] 26)
      have E4 := Lib.hid (ext_alloc E2.out (.cells #[.int .i64 n, .int .i64 1] 26))
      have R4 := Lib.hid (R2.out.alloc (.cells #[.int .i64 n, .int .i64 1] 26))
      have hbw := ext_alloc hb2 (.cells #[.int .i64 n, .int .i64 1] 26)
      have HGE : Hid (w.heap.size ≤ w2.heap.size ∧ ¬ w2.heap.size = w.heap.size) := by
        have h1 := R2.out.lt
        unfold Hid
        omega
      generalize w2.alloc (.cells #[.int .i64 n, .int .i64 1] 26) = W4 at *
      generalize w2.heap.size = g at *
      clear E2 R2 E1 R1 hb2 HA
      have hcb4 := (hbw.cell (p := ⟨g1, o1 + 1, none⟩) hgl).trans hcb
      have y0 := BX.out.at 0 _ rfl
      go_wp2_with fail
      refine (HB.out _).mono ?_
      rintro e w5 ⟨rfl, hb5⟩
      have B5 := Lib.hid (BX.out.next hb5)
      have R5 := Lib.hid (R4.out.next hb5)
      have E5 := Lib.hid (ext_trans E4.out hb5)
      have B6 := Lib.hid (B5.out.set 1 (.int .i64 m) (by simp))
      have R6 := Lib.hid (R5.out.setFar (j := 1) (.int .i64 m) HGE.out.2)
      have E6 := Lib.hid (ext_set E5.out (p := ⟨g, 1, none⟩) HGE.out.1 (.int .i64 m))
      have y0 := B5.out.at 0 _ rfl
      have y1 := B5.out.at 1 _ rfl
      have u1 := B5.out.f 1
      go_upto_region 8 with fail
      generalize w5.setCell ⟨g, 1, none⟩ (.int .i64 m) = W6 at *
      clear y0 y1 u1 hb5 B5 R5 E5 BX R4 E4 hbw hcb4 hcb hcc
      have B9 := B6
      have R9 := R6
      have E9 := E6
      have x0 := B9.out.at 0 _ rfl
      have x1 := B9.out.at 1 _ rfl
      clear B6 R6 E6
      have R6 := R9
      have E6 := E9
      have B6 := B9
      clear R9 E9 B9
      go_wp2_with fail
      refine (HV.out _).mono ?_
      rintro e w7 ⟨rfl, hb7⟩
      have R9 := Lib.hid (R6.out.next hb7)
      have E9 := Lib.hid (ext_trans E6.out hb7)
      have B9 := Lib.hid (B6.out.next hb7)
      clear x0 x1
      have r0 := R9.out.at 0 _ rfl
      have r1 := R9.out.at 1 _ rfl
      have q0 := R9.out.f 0
      have q1 := R9.out.f 1
      have x0 := B9.out.at 0 _ rfl
      have x1 := B9.out.at 1 _ rfl
      go_wp2
      refine bodyPost_ret (v := .tuple #[fracV n m, .bool true]) (by simp [results, Tryz.results101, go_sem, r0, r1]; done) rfl ?_
      rw [HQ.out.1, HQ.out.2.1, HQ.out.2.2]
      exact ⟨rfl, ext_set (ext_set E9.out (Nat.le_refl _) _) (Nat.le_refl _) _⟩
  · have HQ := Lib.hid (rf_none (rf_more h))
    have HA := Lib.hid (fun W : World => l01Number_any a W (hsz a (by rw [h]; simp)))
    rw [h] at HSP hct
    obtain ⟨L, hL⟩ : ∃ L, (a :: b :: c :: r).length = L := ⟨_, rfl⟩
    have hL3 : 3 ≤ L := by rw [← hL]; simp
    rw [hL] at HSP hct
    have l2 : ((L : Int) == 2) = false := by rw [beq_eq_false_iff_ne]; omega
    have l3 : (2 : Int) < (L : Int) := by omega
    have l4 : (0 : Int) < (L : Int) := by omega
    have l5 : 0 < L := by omega
    clear hL
    cases hk : numK a
    all_goals
      rw [hk] at HA
      generalize numN a = n at *
      clear hk
      have R0 := Lib.hid (BoxV.new w #[.int .i64 0, .int .i64 0] 26)
      have E0 := Lib.hid (ext1 w (.cells #[.int .i64 0, .int .i64 0] 26))
      unfold fracV at *
      go_enter Tryz.func101, Tryz.ntmps101
      go_wp2_with fail
      refine (HSP.out _).mono ?_
      rintro e w1 ⟨A1, c1, rfl, hw1, hb1⟩
      have R1 := Lib.hid (R0.out.next hb1)
      have E1 := Lib.hid (ext_trans E0.out hb1)
      obtain ⟨g1, o1, rfl, _, hgl, hcc, _⟩ := hw1 (by simp)
      clear hw1 R0 E0 HSP hb1
      have ca := hcc 0 a rfl
      rw [Nat.add_zero] at ca
      go_wp2_with fail
      refine (HA.out _).mono ?_
      rintro e w2 ⟨rfl, hb2⟩
      have E2 := Lib.hid (ext_trans E1.out hb2)
      have R2 := Lib.hid (R1.out.next hb2)
      go_upto_region 4 with fail
      have BX := Lib.hid (BoxV.new w2 #[.int .i64 n, .int .i64 1] 26)
      have E4 := Lib.hid (ext_alloc E2.out (.cells #[.int .i64 n, .int .i64 1] 26))
      have R4 := Lib.hid (R2.out.alloc (.cells #[.int .i64 n, .int .i64 1] 26))
      have hbw := ext_alloc hb2 (.cells #[.int .i64 n, .int .i64 1] 26)
      have HGE : Hid (w.heap.size ≤ w2.heap.size ∧ ¬ w2.heap.size = w.heap.size) := by
        have h1 := R2.out.lt
        unfold Hid
        omega
      generalize w2.alloc (.cells #[.int .i64 n, .int .i64 1] 26) = W4 at *
      generalize w2.heap.size = g at *
      clear E2 R2 E1 R1 hb2 HA
      have R9 := R4
      have E9 := E4
      have x0 := BX.out.at 0 _ rfl
      have x1 := BX.out.at 1 _ rfl
      have r0 := R9.out.at 0 _ rfl
      have r1 := R9.out.at 1 _ rfl
      have q0 := R9.out.f 0
      have q1 := R9.out.f 1
      go_wp2
      refine bodyPost_ret (v := .tuple #[fracV 0 0, .bool false]) (by simp [results, Tryz.results101, go_sem, r0, r1]; done) rfl ?_
      rw [HQ.out.1, HQ.out.2.1, HQ.out.2.2]
      exact ⟨rfl, ext_set (ext_set E9.out (Nat.le_refl _) _) (Nat.le_refl _) _⟩
end Go.Proofs.YtpnabggpdgjbmaaGreatDoor
