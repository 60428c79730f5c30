/- Parts of the proof, merged: RsW RtW. No condition but those that each theorem names. -/
import Derived.Test.YtpnabggpdgjbmaaGreatDoorMgBF
import Derived.Test.YtpnabggpdgjbmaaGreatDoorMgAT
import Derived.Test.YtpnabggpdgjbmaaGreatDoorMgAU
namespace Go.Proofs.YtpnabggpdgjbmaaGreatDoor
open Go.RowKit Go.Sort
/-- What a call returns that reads a surd. -/
def rsN (s : ByteArray) : Int := ((rsO s).getD (0, 0, 0)).1
def rsM (s : ByteArray) : Int := ((rsO s).getD (0, 0, 0)).2.1
def rsL (s : ByteArray) : Int := ((rsO s).getD (0, 0, 0)).2.2
def rsK (s : ByteArray) : Bool := (rsO s).isSome
theorem rs_none {s : ByteArray} (h : rsO s = none) : rsN s = 0 ∧ rsM s = 0 ∧ rsL s = 0 ∧ rsK s = false := by unfold rsN rsM rsL rsK; rw [h]; exact ⟨rfl, rfl, rfl, rfl⟩
theorem rs_some {s : ByteArray} {p d q : Int} (h : rsO s = some (p, d, q)) : rsN s = p ∧ rsM s = d ∧ rsL s = q ∧ rsK s = true := by unfold rsN rsM rsL rsK; rw [h]; exact ⟨rfl, rfl, rfl, rfl⟩
theorem iSurdText_all (p d q : Int) (w : World) (hT : Tab10 w) :
    Calls Tryz.prog 48 #[surdV p d q] w fun e w' => e = .returned (.string (sdX p d q)) ∧ Below w.heap.size w w' := by
  cases h : surdB p d q
  · have e : sdX p d q = ⟨#[]⟩ := by unfold sdX; rw [h]; rfl
    have HV := Lib.hid (fun W : World => ValidSurd_any p d q W)
    rw [h] at HV
    have B0 := Lib.hid (BoxV.new w #[.int .i64 p, .int .i64 d, .int .i64 q] 29)
    have E0 := Lib.hid (ext1 w (.cells #[.int .i64 p, .int .i64 d, .int .i64 q] 29))
    have y0 := B0.out.at 0 _ rfl
    have y1 := B0.out.at 1 _ rfl
    have y2 := B0.out.at 2 _ rfl
    rw [e]
    clear h e
    unfold surdV at *
    go_enter Tryz.func48, Tryz.ntmps48
    go_wp2_with fail
    generalize w.alloc (.cells #[.int .i64 p, .int .i64 d, .int .i64 q] 29) = W0 at *
    refine (HV.out _).mono ?_
    rintro e w1 ⟨rfl, hb1⟩
    have E1 := Lib.hid (ext_trans E0.out hb1)
    go_wp2
    go_ret
    exact ⟨rfl, E1.out⟩
  · have e : sdX p d q = sdT p d q := by unfold sdX; rw [if_pos h]
    rw [e]
    exact iSurdText_any p d q w hT h
set_option maxRecDepth 100000 in
set_option maxHeartbeats 4000000 in
theorem iReadSurd_any (s : ByteArray) (w : World) (hs : s.size ≤ 100000000) (hV : Vars w) :
    Calls Tryz.prog 95 #[.string s] w fun e w' => e = .returned (.tuple #[surdV (rsN s) (rsM s) (rsL s), .bool (rsK s)]) ∧ Below w.heap.size w w' := by
  have HVV := Lib.hid (fun W (hb : Below w.heap.size w W) => hV.next hb)
  have z0 : (mkL (rsI s)).size ≤ s.size := by
    rw [mkL_size, ← size_list]
    unfold rsI
    split
    · rw [List.length_drop]; omega
    · exact Nat.le_refl _
  have z1 := cut_sz (rsI s) [41, 47]
  have z2 := cut_sz (rsT s).1 [43, 114]
  rw [mkL_size] at z0
  have HP0 : Hid (∀ W, Calls Tryz.prog 134 #[.string s, .string ⟨#[40]⟩] W fun e w' => e = .returned (.tuple #[.string (mkL (rsI s)), .bool ([40].isPrefixOf s.data.toList)]) ∧ W = w') := fun W => by
    refine (Tryz.strings_CutPrefix s ⟨#[40]⟩ W).mono ?_
    rintro e w' ⟨rfl, rfl⟩
    exact ⟨rfl, rfl⟩
  have HC1 : Hid (∀ W, Below w.heap.size w W → Calls Tryz.prog 49 #[.string (mkL (rsI s)), .string ⟨#[41, 47]⟩] W fun e w' => e = .returned (.tuple #[.string (mkL (rsT s).1), .string (rsQ s), .bool (rsT s).2.2]) ∧ Below W.heap.size W w') := fun W hb => by
    have h := Cut_any (mkL (rsI s)) ⟨#[41, 47]⟩ W (by rw [mkL_size]; omega) (HVV.out W hb)
    rw [mkL_data] at h
    exact h
  have HC2 : Hid (∀ W, Below w.heap.size w W → Calls Tryz.prog 49 #[.string (mkL (rsT s).1), .string ⟨#[43, 114]⟩] W fun e w' => e = .returned (.tuple #[.string (rsP s), .string (rsD s), .bool (rsR s).2.2]) ∧ Below W.heap.size W w') := fun W hb => by
    have h := Cut_any (mkL (rsT s).1) ⟨#[43, 114]⟩ W (by rw [mkL_size]; unfold rsT; omega) (HVV.out W hb)
    rw [mkL_data] at h
    exact h
  have hzP : (rsP s).size ≤ 281474976710656 := by unfold rsP rsR; rw [mkL_size]; have h : (rsT s).1.length ≤ (rsI s).length := z1.1; omega
  have hzD : (rsD s).size ≤ 281474976710656 := by unfold rsD rsR; rw [mkL_size]; have h : (rsT s).1.length ≤ (rsI s).length := z1.1; omega
  have hzQ : (rsQ s).size ≤ 281474976710656 := by unfold rsQ rsT; rw [mkL_size]; omega
  have HP : Hid (∀ W, Below w.heap.size w W → Calls Tryz.prog 133 #[.string (rsP s)] W fun e w' => e = .returned (.tuple #[.int .i64 (numN (rsP s)), .bool (numK (rsP s))]) ∧ Below W.heap.size W w') := fun W hb => iReadDecimal_any (rsP s) W hzP (HVV.out W hb)
  have HD : Hid (∀ W, Below w.heap.size w W → Calls Tryz.prog 133 #[.string (rsD s)] W fun e w' => e = .returned (.tuple #[.int .i64 (numN (rsD s)), .bool (numK (rsD s))]) ∧ Below W.heap.size W w') := fun W hb => iReadDecimal_any (rsD s) W hzD (HVV.out W hb)
  have HQQ : Hid (∀ W, Below w.heap.size w W → Calls Tryz.prog 133 #[.string (rsQ s)] W fun e w' => e = .returned (.tuple #[.int .i64 (numN (rsQ s)), .bool (numK (rsQ s))]) ∧ Below W.heap.size W w') := fun W hb => iReadDecimal_any (rsQ s) W hzQ (HVV.out W hb)
  have HST : Hid (∀ W, Below w.heap.size w W → Calls Tryz.prog 48 #[surdV (numN (rsP s)) (numN (rsD s)) (numN (rsQ s))] W fun e w' => e = .returned (.string (sdX (numN (rsP s)) (numN (rsD s)) (numN (rsQ s)))) ∧ Below W.heap.size W w') := fun W hb => iSurdText_all _ _ _ W (HVV.out W hb).tab
  have HO0 : Hid (([40].isPrefixOf s.data.toList && ((rsT s).2.2 && ((rsR s).2.2 && (numK (rsP s) && (numK (rsD s) && (numK (rsQ s) && decide (sdX (numN (rsP s)) (numN (rsD s)) (numN (rsQ s)) = s))))))) = false → rsO s = none) := fun h => by unfold rsO rsOk; rw [h]; rfl
  have HO1 : Hid (([40].isPrefixOf s.data.toList && ((rsT s).2.2 && ((rsR s).2.2 && (numK (rsP s) && (numK (rsD s) && (numK (rsQ s) && decide (sdX (numN (rsP s)) (numN (rsD s)) (numN (rsQ s)) = s))))))) = true → rsO s = some (numN (rsP s), numN (rsD s), numN (rsQ s))) := fun h => by unfold rsO rsOk; rw [h]; rfl
  have R0 := Lib.hid (BoxV.new w #[.int .i64 0, .int .i64 0, .int .i64 0] 29)
  have E0 := Lib.hid (ext1 w (.cells #[.int .i64 0, .int .i64 0, .int .i64 0] 29))
  generalize sdX (numN (rsP s)) (numN (rsD s)) (numN (rsQ s)) = X at *
  generalize numN (rsP s) = p at *
  generalize numN (rsD s) = d at *
  generalize numN (rsQ s) = q at *
  generalize numK (rsP s) = k1 at *
  generalize numK (rsD s) = k2 at *
  generalize numK (rsQ s) = k3 at *
  generalize [40].isPrefixOf s.data.toList = b0 at *
  generalize (rsT s).2.2 = b1 at *
  generalize (rsR s).2.2 = b2 at *
  generalize rsP s = PP at *
  generalize rsD s = DD at *
  generalize rsQ s = QQ at *
  generalize mkL (rsT s).1 = TT at *
  generalize mkL (rsI s) = II at *
  clear z0 z1 z2 hzP hzD hzQ hV HVV
  unfold surdV at *
  go_enter Tryz.func95, Tryz.ntmps95
  go_wp2_with fail
  refine (HP0.out _).mono ?_
  rintro e w1 ⟨rfl, rfl⟩
  go_wp2_with fail
  refine (HC1.out _ E0.out).mono ?_
  rintro e w1 ⟨rfl, hb1⟩
  have E1 := Lib.hid (ext_trans E0.out hb1)
  have R1 := Lib.hid (R0.out.next hb1)
  go_wp2_with fail
  refine (HC2.out _ E1.out).mono ?_
  rintro e w2 ⟨rfl, hb2⟩
  have E2 := Lib.hid (ext_trans E1.out hb2)
  have R2 := Lib.hid (R1.out.next hb2)
  go_wp2_with fail
  refine (HP.out _ E2.out).mono ?_
  rintro e w3 ⟨rfl, hb3⟩
  have E3 := Lib.hid (ext_trans E2.out hb3)
  have R3 := Lib.hid (R2.out.next hb3)
  go_wp2_with fail
  refine (HD.out _ E3.out).mono ?_
  rintro e w4 ⟨rfl, hb4⟩
  have E4 := Lib.hid (ext_trans E3.out hb4)
  have R4 := Lib.hid (R3.out.next hb4)
  go_wp2_with fail
  refine (HQQ.out _ E4.out).mono ?_
  rintro e w5 ⟨rfl, hb5⟩
  have E5 := Lib.hid (ext_trans E4.out hb5)
  have R5 := Lib.hid (R4.out.next hb5)
  clear hb1 hb2 hb3 hb4 hb5 E0 E1 E2 E3 E4 R0 R1 R2 R3 R4 HP0 HC1 HC2 HP HD HQQ
  go_upto_region 8 with fail
  have B9 := Lib.hid (BoxV.new w5 #[.int .i64 p, .int .i64 d, .int .i64 q] 29)
  have E9 := Lib.hid (ext_alloc E5.out (.cells #[.int .i64 p, .int .i64 d, .int .i64 q] 29))
  have R9 := Lib.hid (R5.out.alloc (.cells #[.int .i64 p, .int .i64 d, .int .i64 q] 29))
  generalize w5.alloc (.cells #[.int .i64 p, .int .i64 d, .int .i64 q] 29) = W9 at *
  generalize w5.heap.size = g at *
  clear E5 R5
  cases b0
  · have HQ := Lib.hid (rs_none (HO0.out (by rfl)))
    clear HO0 HO1
    have r0 := R9.out.at 0 _ rfl
    have r1 := R9.out.at 1 _ rfl
    have r2 := R9.out.at 2 _ rfl
    have q0 := R9.out.f 0
    have q1 := R9.out.f 1
    have q2 := R9.out.f 2
    have x0 := B9.out.at 0 _ rfl
    have x1 := B9.out.at 1 _ rfl
    have x2 := B9.out.at 2 _ rfl
    go_wp2
    refine bodyPost_ret (v := .tuple #[surdV 0 0 0, .bool false]) (by simp [results, Tryz.results95, go_sem, r0, r1, r2]; done) rfl ?_
    rw [HQ.out.1, HQ.out.2.1, HQ.out.2.2.1, HQ.out.2.2.2]
    exact ⟨rfl, ext_set (ext_set (ext_set E9.out (Nat.le_refl _) _) (Nat.le_refl _) _) (Nat.le_refl _) _⟩
  cases b1
  · have HQ := Lib.hid (rs_none (HO0.out (by rfl)))
    clear HO0 HO1
    have r0 := R9.out.at 0 _ rfl
    have r1 := R9.out.at 1 _ rfl
    have r2 := R9.out.at 2 _ rfl
    have q0 := R9.out.f 0
    have q1 := R9.out.f 1
    have q2 := R9.out.f 2
    have x0 := B9.out.at 0 _ rfl
    have x1 := B9.out.at 1 _ rfl
    have x2 := B9.out.at 2 _ rfl
    go_wp2
    refine bodyPost_ret (v := .tuple #[surdV 0 0 0, .bool false]) (by simp [results, Tryz.results95, go_sem, r0, r1, r2]; done) rfl ?_
    rw [HQ.out.1, HQ.out.2.1, HQ.out.2.2.1, HQ.out.2.2.2]
    exact ⟨rfl, ext_set (ext_set (ext_set E9.out (Nat.le_refl _) _) (Nat.le_refl _) _) (Nat.le_refl _) _⟩
  cases b2
  · have HQ := Lib.hid (rs_none (HO0.out (by rfl)))
    clear HO0 HO1
    have r0 := R9.out.at 0 _ rfl
    have r1 := R9.out.at 1 _ rfl
    have r2 := R9.out.at 2 _ rfl
    have q0 := R9.out.f 0
    have q1 := R9.out.f 1
    have q2 := R9.out.f 2
    have x0 := B9.out.at 0 _ rfl
    have x1 := B9.out.at 1 _ rfl
    have x2 := B9.out.at 2 _ rfl
    go_wp2
    refine bodyPost_ret (v := .tuple #[surdV 0 0 0, .bool false]) (by simp [results, Tryz.results95, go_sem, r0, r1, r2]; done) rfl ?_
    rw [HQ.out.1, HQ.out.2.1, HQ.out.2.2.1, HQ.out.2.2.2]
    exact ⟨rfl, ext_set (ext_set (ext_set E9.out (Nat.le_refl _) _) (Nat.le_refl _) _) (Nat.le_refl _) _⟩
  cases k1
  · have HQ := Lib.hid (rs_none (HO0.out (by rfl)))
    clear HO0 HO1
    have r0 := R9.out.at 0 _ rfl
    have r1 := R9.out.at 1 _ rfl
    have r2 := R9.out.at 2 _ rfl
    have q0 := R9.out.f 0
    have q1 := R9.out.f 1
    have q2 := R9.out.f 2
    have x0 := B9.out.at 0 _ rfl
    have x1 := B9.out.at 1 _ rfl
    have x2 := B9.out.at 2 _ rfl
    go_wp2
    refine bodyPost_ret (v := .tuple #[surdV 0 0 0, .bool false]) (by simp [results, Tryz.results95, go_sem, r0, r1, r2]; done) rfl ?_
    rw [HQ.out.1, HQ.out.2.1, HQ.out.2.2.1, HQ.out.2.2.2]
    exact ⟨rfl, ext_set (ext_set (ext_set E9.out (Nat.le_refl _) _) (Nat.le_refl _) _) (Nat.le_refl _) _⟩
  cases k2
  · have HQ := Lib.hid (rs_none (HO0.out (by rfl)))
    clear HO0 HO1
    have r0 := R9.out.at 0 _ rfl
    have r1 := R9.out.at 1 _ rfl
    have r2 := R9.out.at 2 _ rfl
    have q0 := R9.out.f 0
    have q1 := R9.out.f 1
    have q2 := R9.out.f 2
    have x0 := B9.out.at 0 _ rfl
    have x1 := B9.out.at 1 _ rfl
    have x2 := B9.out.at 2 _ rfl
    go_wp2
    refine bodyPost_ret (v := .tuple #[surdV 0 0 0, .bool false]) (by simp [results, Tryz.results95, go_sem, r0, r1, r2]; done) rfl ?_
    rw [HQ.out.1, HQ.out.2.1, HQ.out.2.2.1, HQ.out.2.2.2]
    exact ⟨rfl, ext_set (ext_set (ext_set E9.out (Nat.le_refl _) _) (Nat.le_refl _) _) (Nat.le_refl _) _⟩
  cases k3
  · have HQ := Lib.hid (rs_none (HO0.out (by rfl)))
    clear HO0 HO1
    have r0 := R9.out.at 0 _ rfl
    have r1 := R9.out.at 1 _ rfl
    have r2 := R9.out.at 2 _ rfl
    have q0 := R9.out.f 0
    have q1 := R9.out.f 1
    have q2 := R9.out.f 2
    have x0 := B9.out.at 0 _ rfl
    have x1 := B9.out.at 1 _ rfl
    have x2 := B9.out.at 2 _ rfl
    go_wp2
    refine bodyPost_ret (v := .tuple #[surdV 0 0 0, .bool false]) (by simp [results, Tryz.results95, go_sem, r0, r1, r2]; done) rfl ?_
    rw [HQ.out.1, HQ.out.2.1, HQ.out.2.2.1, HQ.out.2.2.2]
    exact ⟨rfl, ext_set (ext_set (ext_set E9.out (Nat.le_refl _) _) (Nat.le_refl _) _) (Nat.le_refl _) _⟩
  have HX := Lib.hid (HST.out W9 E9.out)
  have x0 := B9.out.at 0 _ rfl
  have x1 := B9.out.at 1 _ rfl
  have x2 := B9.out.at 2 _ rfl
  by_cases hx : X = s
  · have HQ := Lib.hid (rs_some (HO1.out (by rw [decide_eq_true hx]; rfl)))
    have heq := strEqB hx
    clear HO0 HO1 hx HST
    go_wp2_with fail
    refine HX.out.mono ?_
    rintro e w6 ⟨rfl, hb6⟩
    have B6 := Lib.hid (B9.out.next hb6)
    have R6 := Lib.hid (R9.out.next hb6)
    have E6 := Lib.hid (ext_trans E9.out hb6)
    clear x0 x1 x2 B9 R9 E9 HX
    have r0 := R6.out.at 0 _ rfl
    have r1 := R6.out.at 1 _ rfl
    have r2 := R6.out.at 2 _ rfl
    have q0 := R6.out.f 0
    have q1 := R6.out.f 1
    have q2 := R6.out.f 2
    have x0 := B6.out.at 0 _ rfl
    have x1 := B6.out.at 1 _ rfl
    have x2 := B6.out.at 2 _ rfl
    go_wp2
    refine bodyPost_ret (v := .tuple #[surdV p d q, .bool true]) (by simp [results, Tryz.results95, go_sem, r0, r1, r2]; done) rfl ?_
    rw [HQ.out.1, HQ.out.2.1, HQ.out.2.2.1, HQ.out.2.2.2]
    exact ⟨rfl, ext_set (ext_set (ext_set E6.out (Nat.le_refl _) _) (Nat.le_refl _) _) (Nat.le_refl _) _⟩
  · have HQ := Lib.hid (rs_none (HO0.out (by rw [decide_eq_false hx]; rfl)))
    have heq := strNeB hx
    clear HO0 HO1 hx HST
    go_wp2_with fail
    refine HX.out.mono ?_
    rintro e w6 ⟨rfl, hb6⟩
    have B6 := Lib.hid (B9.out.next hb6)
    have R6 := Lib.hid (R9.out.next hb6)
    have E6 := Lib.hid (ext_trans E9.out hb6)
    clear x0 x1 x2 B9 R9 E9 HX
    have B9 := B6
    have R9 := R6
    have E9 := E6
    clear B6 R6 E6
    have r0 := R9.out.at 0 _ rfl
    have r1 := R9.out.at 1 _ rfl
    have r2 := R9.out.at 2 _ rfl
    have q0 := R9.out.f 0
    have q1 := R9.out.f 1
    have q2 := R9.out.f 2
    have x0 := B9.out.at 0 _ rfl
    have x1 := B9.out.at 1 _ rfl
    have x2 := B9.out.at 2 _ rfl
    go_wp2
    refine bodyPost_ret (v := .tuple #[surdV 0 0 0, .bool false]) (by simp [results, Tryz.results95, go_sem, r0, r1, r2]; done) rfl ?_
    rw [HQ.out.1, HQ.out.2.1, HQ.out.2.2.1, HQ.out.2.2.2]
    exact ⟨rfl, ext_set (ext_set (ext_set E9.out (Nat.le_refl _) _) (Nat.le_refl _) _) (Nat.le_refl _) _⟩
end Go.Proofs.YtpnabggpdgjbmaaGreatDoor
namespace Go.Proofs.YtpnabggpdgjbmaaGreatDoor
open Go.RowKit Go.Sort
/-- What a call returns that reads terms. -/
def RetTm (w : World) (R : Option (List Int)) (e : Ending) (w' : World) : Prop :=
  ∃ B c, e = .returned (.tuple #[.slice B (R.getD []).length c, .bool R.isSome]) ∧ WrT w' w.heap.size B c (R.getD []) ∧ Below w.heap.size w w'
theorem RetTm.none_ {w w' : World} {R : Option (List Int)} (hR : R = none) (hb : Below w.heap.size w w') : RetTm w R (.returned (.tuple #[.slice none 0 0, .bool false])) w' := by
  subst hR
  exact ⟨none, 0, rfl, ⟨fun h => absurd h (by simp), by simp, by unfold maxLen; omega⟩, hb⟩
theorem iTermsText_all (A : Option Addr) (c : Nat) (xs : List Int) (w : World) (hx : RdC w w.heap.size A c xs) (hl : xs.length ≤ 1000000000) (hT : Tab10 w) :
    Calls Tryz.prog 47 #[.slice A xs.length c] w fun e w' => e = .returned (.string (tmX xs)) ∧ Below w.heap.size w w' := by
  cases h : termsB xs
  · have e : tmX xs = ⟨#[]⟩ := by unfold tmX; rw [h]; rfl
    have HV := Lib.hid (ValidTerms_any A c xs w hx (by unfold maxLen; omega))
    rw [h] at HV
    rw [e]
    clear h e hx
    go_enter Tryz.func47, Tryz.ntmps47
    go_wp2_with fail
    refine HV.out.mono ?_
    rintro e w1 ⟨rfl, rfl⟩
    go_wp2
    go_ret
    exact ⟨rfl, Below.refl _ _⟩
  · have e : tmX xs = tmT xs := by unfold tmX; rw [if_pos h]
    obtain ⟨h1, h2, h3⟩ := termsBBd h
    rw [e]
    exact iTermsText_any A c xs w hx h1 h2 h3 h hT
theorem splitB_szs (sep : ByteArray) : ∀ (k : Nat) (s : ByteArray), ∀ x ∈ Lib.splitB sep 0 k s, x.size ≤ s.size
  | 0, s, x, h => by simp [Lib.splitB] at h; subst h; exact Nat.le_refl _
  | k + 1, s, x, h => by
    unfold Lib.splitB at h
    split at h
    · simp at h; subst h; exact Nat.le_refl _
    · rcases List.mem_cons.1 h with rfl | h
      · rw [ByteArray.size_extract]; omega
      · have := splitB_szs sep k _ x h
        rw [ByteArray.size_extract] at this
        omega
theorem replaceK_le (old new : List UInt8) : ∀ (k : Nat) (s : List UInt8), (Lib.replaceK old new k s).length ≤ s.length + k * new.length
  | 0, s => by simp [Lib.replaceK]
  | k + 1, s => by
    unfold Lib.replaceK
    split
    · omega
    · have := replaceK_le old new k (s.drop ((Lib.index s old).toNat + old.length))
      rw [List.length_append, List.length_append, List.length_take, Nat.add_mul, Nat.one_mul]
      rw [List.length_drop] at this
      omega
theorem rtR_sz (s : ByteArray) : (rtR s).size ≤ (rtJ s).length + 2 := by
  unfold rtR
  rw [mkL_size]
  unfold Lib.replace
  split
  · omega
  · have h := replaceK_le [59, 32] [44, 32] (Lib.replaceNum (rtJ s) [59, 32] 1) (rtJ s)
    have h2 : Lib.replaceNum (rtJ s) [59, 32] 1 ≤ 1 := by
      unfold Lib.replaceNum
      split
      · omega
      · decide
    have h3 : Lib.replaceNum (rtJ s) [59, 32] 1 * ([44, 32] : List UInt8).length ≤ 2 := by
      show _ * 2 ≤ 2
      omega
    omega
theorem rtW_any (s : ByteArray) (w : World) (hs : (rtR s).size ≤ 1000000000) (hV : Vars w) :
    Calls Tryz.prog 137 #[.string (rtR s), .string ⟨#[44, 32]⟩] w fun e w' => e = .returned (.slice (some ⟨w.heap.size, 0, none⟩) (rtW s).length (rtW s).length) ∧ Rd Value.string w' w'.heap.size (some ⟨w.heap.size, 0, none⟩) (rtW s) ∧ Below w.heap.size w w' := by
  obtain ⟨m, hm⟩ := hV.len
  have h2 : 1 ≤ (⟨#[44, 32]⟩ : ByteArray).size := by show 1 ≤ 2; omega
  have hlen : (rtW s).length = Lib.countB (rtR s) ⟨#[44, 32]⟩ + 1 := Lib.splitB_all _ h2 0 _ (rtR s) rfl
  refine (Tryz.strings_Split (rtR s) ⟨#[44, 32]⟩ m w (by omega) hm h2).mono ?_
  rintro e w' ⟨rfl, rfl⟩
  exact ⟨by rw [hlen], (Wr.lit w (by rfl)).rd, ext1 _ _⟩
theorem rtR_size (s : ByteArray) : (rtJ s).length ≤ s.size ∧ (rtA s).length ≤ s.size := by
  have h1 : (rtA s).length ≤ s.size := by
    rw [← size_list]
    unfold rtA Lib.trimPrefix
    split
    · rw [List.length_drop]; omega
    · exact Nat.le_refl _
  refine ⟨?_, h1⟩
  unfold rtJ Lib.trimSuffix
  split
  · rw [List.length_take]; omega
  · exact h1
set_option maxRecDepth 100000 in
set_option maxHeartbeats 4000000 in
theorem iReadTerms_any (s : ByteArray) (w : World) (hs : s.size ≤ 100000000) (hV : Vars w) :
    Calls Tryz.prog 94 #[.string s] w (RetTm w (rtO s)) := by
  have HVV := Lib.hid (fun W (hb : Below w.heap.size w W) => hV.next hb)
  obtain ⟨zJ, zI⟩ := rtR_size s
  have hcj := Lib.countB_le ⟨#[59, 32]⟩ (show 1 ≤ (⟨#[59, 32]⟩ : ByteArray).size from by show 1 ≤ 2; omega) (mkL (rtJ s)).size (mkL (rtJ s)) (Nat.le_refl _)
  rw [mkL_size] at hcj
  have HP0 : Hid (∀ W, Calls Tryz.prog 134 #[.string s, .string ⟨#[91]⟩] W fun e w' => e = .returned (.tuple #[.string (mkL (rtA s)), .bool (Lib.hasPrefix s.data.toList [91])]) ∧ W = w') := fun W => by
    refine (Tryz.strings_CutPrefix s ⟨#[91]⟩ W).mono ?_
    rintro e w' ⟨rfl, rfl⟩
    exact ⟨rfl, rfl⟩
  have HP1 : Hid (∀ W, Calls Tryz.prog 135 #[.string (mkL (rtA s)), .string ⟨#[93]⟩] W fun e w' => e = .returned (.tuple #[.string (mkL (rtJ s)), .bool (Lib.hasSuffix (rtA s) [93])]) ∧ W = w') := fun W => by
    have h := Tryz.strings_CutSuffix (mkL (rtA s)) ⟨#[93]⟩ W (by rw [mkL_size]; omega)
    rw [mkL_data] at h
    refine h.mono ?_
    rintro e w' ⟨rfl, rfl⟩
    exact ⟨rfl, rfl⟩
  have HRP : Hid (∀ W, Below w.heap.size w W → Calls Tryz.prog 138 #[.string (mkL (rtJ s)), .string ⟨#[59, 32]⟩, .string ⟨#[44, 32]⟩, .int .i64 1] W fun e w' => e = .returned (.string (rtR s)) ∧ Below W.heap.size W w') := fun W hb => by
    obtain ⟨m, hm⟩ := (HVV.out W hb).len
    have h := Tryz.strings_Replace (mkL (rtJ s)) ⟨#[59, 32]⟩ ⟨#[44, 32]⟩ 1 m W (by rw [mkL_size]; omega) hm (show 1 ≤ (⟨#[59, 32]⟩ : ByteArray).size from by show 1 ≤ 2; omega) (by
      show (mkL (rtJ s)).size + _ * 2 ≤ _
      rw [mkL_size]
      omega)
    rw [mkL_data] at h
    refine h.mono ?_
    rintro e w' ⟨rfl, hb⟩
    exact ⟨rfl, hb⟩
  have hzR := rtR_sz s
  have HSPL : Hid (∀ W, Below w.heap.size w W → Calls Tryz.prog 137 #[.string (rtR s), .string ⟨#[44, 32]⟩] W fun e w' => e = .returned (.slice (some ⟨W.heap.size, 0, none⟩) (rtW s).length (rtW s).length) ∧ Rd Value.string w' w'.heap.size (some ⟨W.heap.size, 0, none⟩) (rtW s) ∧ Below W.heap.size W w') := fun W hb => rtW_any s W (by omega) (HVV.out W hb)
  have hcnt : (rtW s).length ≤ 1000000000 := by
    have h2 : 1 ≤ (⟨#[44, 32]⟩ : ByteArray).size := by show 1 ≤ 2; omega
    have hlen : (rtW s).length = Lib.countB (rtR s) ⟨#[44, 32]⟩ + 1 := Lib.splitB_all _ h2 0 _ (rtR s) rfl
    have := Lib.countB_le ⟨#[44, 32]⟩ h2 (rtR s).size (rtR s) (Nat.le_refl _)
    omega
  have HRD : Hid (∀ W A c, Below w.heap.size w W → Rd Value.string W W.heap.size A (rtW s) → Calls Tryz.prog 136 #[.slice A (rtW s).length c] W (RetNumC W (numsB (rtW s)))) := fun W A c hb h => readDecimals_cap A c (rtW s) W h hcnt (fun x hx => by have := splitB_szs _ _ _ x hx; omega) (HVV.out W hb)
  have HTT : Hid (∀ W A c xs, Below w.heap.size w W → RdC W W.heap.size A c xs → xs.length ≤ 1000000000 → Calls Tryz.prog 47 #[.slice A xs.length c] W fun e w' => e = .returned (.string (tmX xs)) ∧ Below W.heap.size W w') := fun W A c xs hb h hl => iTermsText_all A c xs W h hl (HVV.out W hb).tab
  have HNL : Hid (∀ ns, numsB (rtW s) = some ns → ns.length ≤ 1000000000) := fun ns h => by have := nums_len h; omega
  have HO0 : Hid (rtC s = false → rtO s = none) := fun h => by unfold rtO; rw [if_neg (by rw [h]; decide)]
  have HO1 : Hid (numsB (rtW s) = none → rtO s = none) := fun h => by unfold rtO; rw [h]; split <;> rfl
  have HO2 : Hid (∀ ns, rtC s = true → numsB (rtW s) = some ns → (tmX ns = s → rtO s = some ns) ∧ (tmX ns ≠ s → rtO s = none)) := fun ns hc h => by
    unfold rtO
    rw [if_pos hc, h]
    exact ⟨fun e => by simp [e], fun e => by simp [e]⟩
  have HCC : Hid (rtC s = (Lib.hasPrefix s.data.toList [91] && Lib.hasSuffix (rtA s) [93])) := rfl
  generalize rtO s = R at *
  generalize rtC s = cc at *
  generalize numsB (rtW s) = NO at *
  generalize Lib.hasPrefix s.data.toList [91] = b0 at *
  generalize Lib.hasSuffix (rtA s) [93] = b1 at *
  generalize rtW s = WS at *
  generalize rtR s = RR at *
  generalize mkL (rtJ s) = JJ at *
  generalize mkL (rtA s) = II at *
  obtain ⟨L, hL⟩ : ∃ L, WS.length = L := ⟨_, rfl⟩
  rw [hL] at HSPL HRD
  clear zJ zI hcj hzR hV HVV hcnt hL
  unfold RetNumC at HRD
  have hway : b0 = false ∨ (b0 = true ∧ b1 = false) ∨ (b0 = true ∧ b1 = true) := by cases b0 <;> cases b1 <;> simp
  rcases hway with rfl | ⟨rfl, rfl⟩ | ⟨rfl, rfl⟩
  · have HQ : Hid (R = none) := HO0.out (by rw [HCC.out]; rfl)
    clear HO0 HO1 HO2 HCC HRD HSPL HRP HTT
    go_enter Tryz.func94, Tryz.ntmps94
    go_wp2_with fail
    refine (HP0.out _).mono ?_
    rintro e w1 ⟨rfl, rfl⟩
    go_wp2_with fail
    refine (HP1.out _).mono ?_
    rintro e w1 ⟨rfl, rfl⟩
    go_wp2
    go_ret2
    exact RetTm.none_ HQ.out (Below.refl _ _)
  · have HQ : Hid (R = none) := HO0.out (by rw [HCC.out]; rfl)
    clear HO0 HO1 HO2 HCC HRD HSPL HRP HTT
    go_enter Tryz.func94, Tryz.ntmps94
    go_wp2_with fail
    refine (HP0.out _).mono ?_
    rintro e w1 ⟨rfl, rfl⟩
    go_wp2_with fail
    refine (HP1.out _).mono ?_
    rintro e w1 ⟨rfl, rfl⟩
    go_wp2
    go_ret2
    exact RetTm.none_ HQ.out (Below.refl _ _)
  · have HCT : Hid (cc = true) := by rw [HCC.out]; rfl
    go_enter Tryz.func94, Tryz.ntmps94
    go_wp2_with fail
    refine (HP0.out _).mono ?_
    rintro e w1 ⟨rfl, rfl⟩
    go_wp2_with fail
    refine (HP1.out _).mono ?_
    rintro e w1 ⟨rfl, rfl⟩
    go_wp2_with fail
    refine (HRP.out _ (Below.refl _ _)).mono ?_
    rintro e w1 ⟨rfl, hb1⟩
    have E1 := Lib.hid hb1
    go_wp2_with fail
    refine (HSPL.out _ E1.out).mono ?_
    rintro e w2 ⟨rfl, hr2, hb2⟩
    have E2 := Lib.hid (ext_trans E1.out hb2)
    go_wp2_with fail
    refine (HRD.out _ _ _ E2.out hr2).mono ?_
    rintro e w3 ⟨B, c, rfl, hw3, hb3, hc1, hc2⟩
    have E3 := Lib.hid (ext_trans E2.out hb3)
    cases NO with
    | none =>
      have HQ := Lib.hid (HO1.out rfl)
      simp only [Option.isSome_none, Option.getD_none, List.length_nil]
      clear HO0 HO1 HO2 HCC HRD HSPL HRP HTT HNL hw3
      go_wp2
      go_ret2
      exact RetTm.none_ HQ.out E3.out
    | some ns =>
      have hns := HNL.out ns rfl
      have hcc1 : ns.length ≤ c := hc1
      have HWN : Hid (Wr (Value.int .i64) w3 w2.heap.size B ns) := hw3
      have HX := Lib.hid (HTT.out w3 B c ns E3.out ⟨HWN.out.rd, hcc1, by unfold maxLen; omega⟩ hns)
      have hz2 : w.heap.size ≤ w2.heap.size := E2.out.size
      simp only [Option.isSome_some, Option.getD_some]
      by_cases hx : tmX ns = s
      · have HQ := Lib.hid ((HO2.out ns HCT.out rfl).1 hx)
        have heq := strEqB hx
        generalize tmX ns = X at *
        clear HO0 HO1 HO2 HCC HRD HSPL HRP HTT HNL hx hw3 hc1
        go_wp2_with fail
        refine HX.out.mono ?_
        rintro e w4 ⟨rfl, hb4⟩
        have E4 := Lib.hid (ext_trans E3.out hb4)
        have HW4 := Lib.hid (HWN.out.below hb4)
        go_wp2
        go_ret2
        rw [HQ.out]
        exact ⟨B, c, rfl, ⟨HW4.out.more hz2, hcc1, by unfold maxLen; omega⟩, E4.out⟩
      · have HQ := Lib.hid ((HO2.out ns HCT.out rfl).2 hx)
        have heq := strNeB hx
        generalize tmX ns = X at *
        clear HO0 HO1 HO2 HCC HRD HSPL HRP HTT HNL hx hw3 hc1
        go_wp2_with fail
        refine HX.out.mono ?_
        rintro e w4 ⟨rfl, hb4⟩
        have E4 := Lib.hid (ext_trans E3.out hb4)
        go_wp2
        go_ret2
        exact RetTm.none_ HQ.out E4.out
end Go.Proofs.YtpnabggpdgjbmaaGreatDoor
