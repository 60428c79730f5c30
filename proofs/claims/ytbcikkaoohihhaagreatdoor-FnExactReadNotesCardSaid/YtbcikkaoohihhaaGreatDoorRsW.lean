/- ReadSurd: the program's walk. No condition but those that each theorem names. -/
import Derived.Test.YtbcikkaoohihhaaGreatDoorRfW
namespace Go.Proofs.YtbcikkaoohihhaaGreatDoor
open Go.RowKit Go.Sort

/-- What a call returns that reads a surd. -/
def rsN (s : ByteArray) : Int := ((rsO s).getD (0, 0, 0)).1
def rsM (s : ByteArray) : Int := ((rsO s).getD (0, 0, 0)).2.1
def rsL (s : ByteArray) : Int := ((rsO s).getD (0, 0, 0)).2.2
def rsK (s : ByteArray) : Bool := (rsO s).isSome
theorem rs_none {s : ByteArray} (h : rsO s = none) : rsN s = 0 ∧ rsM s = 0 ∧ rsL s = 0 ∧ rsK s = false := by unfold rsN rsM rsL rsK; rw [h]; exact ⟨rfl, rfl, rfl, rfl⟩
theorem rs_some {s : ByteArray} {p d q : Int} (h : rsO s = some (p, d, q)) : rsN s = p ∧ rsM s = d ∧ rsL s = q ∧ rsK s = true := by unfold rsN rsM rsL rsK; rw [h]; exact ⟨rfl, rfl, rfl, rfl⟩
theorem iSurdText_all (p d q : Int) (w : World) (hT : Tab10 w) :
    Calls Tryz.prog 60 #[surdV p d q] w fun e w' => e = .returned (.string (sdX p d q)) ∧ Below w.heap.size w w' := by
  cases h : surdB p d q
  · have e : sdX p d q = ⟨#[]⟩ := by unfold sdX; rw [h]; rfl
    have HV := Lib.hid (fun W : World => ValidSurd_any p d q W)
    rw [h] at HV
    have B0 := Lib.hid (BoxV.new w #[.int .i64 p, .int .i64 d, .int .i64 q] 34)
    have E0 := Lib.hid (ext1 w (.cells #[.int .i64 p, .int .i64 d, .int .i64 q] 34))
    have y0 := B0.out.at 0 _ rfl
    have y1 := B0.out.at 1 _ rfl
    have y2 := B0.out.at 2 _ rfl
    rw [e]
    clear h e
    unfold surdV at *
    go_enter Tryz.func60, Tryz.ntmps60
    go_wp2_with fail
    generalize w.alloc (.cells #[.int .i64 p, .int .i64 d, .int .i64 q] 34) = W0 at *
    refine (HV.out _).mono ?_
    rintro e w1 ⟨rfl, hb1⟩
    have E1 := Lib.hid (ext_trans E0.out hb1)
    go_wp2
    go_ret
    exact ⟨rfl, E1.out⟩
  · have e : sdX p d q = sdT p d q := by unfold sdX; rw [if_pos h]
    rw [e]
    exact iSurdText_any p d q w hT h
set_option maxRecDepth 100000 in
set_option maxHeartbeats 4000000 in
theorem iReadSurd_any (s : ByteArray) (w : World) (hs : s.size ≤ 100000000) (hV : Vars w) :
    Calls Tryz.prog 85 #[.string s] w fun e w' => e = .returned (.tuple #[surdV (rsN s) (rsM s) (rsL s), .bool (rsK s)]) ∧ Below w.heap.size w w' := by
  have HVV := Lib.hid (fun W (hb : Below w.heap.size w W) => hV.next hb)
  have z0 : (mkL (rsI s)).size ≤ s.size := by
    rw [mkL_size, ← size_list]
    unfold rsI
    split
    · rw [List.length_drop]; omega
    · exact Nat.le_refl _
  have z1 := cut_sz (rsI s) [41, 47]
  have z2 := cut_sz (rsT s).1 [43, 114]
  rw [mkL_size] at z0
  have HP0 : Hid (∀ W, Calls Tryz.prog 126 #[.string s, .string ⟨#[40]⟩] W fun e w' => e = .returned (.tuple #[.string (mkL (rsI s)), .bool ([40].isPrefixOf s.data.toList)]) ∧ W = w') := fun W => by
    refine (Tryz.strings_CutPrefix s ⟨#[40]⟩ W).mono ?_
    rintro e w' ⟨rfl, rfl⟩
    exact ⟨rfl, rfl⟩
  have HC1 : Hid (∀ W, Below w.heap.size w W → Calls Tryz.prog 37 #[.string (mkL (rsI s)), .string ⟨#[41, 47]⟩] W fun e w' => e = .returned (.tuple #[.string (mkL (rsT s).1), .string (rsQ s), .bool (rsT s).2.2]) ∧ Below W.heap.size W w') := fun W hb => by
    have h := Cut_any (mkL (rsI s)) ⟨#[41, 47]⟩ W (by rw [mkL_size]; omega) (HVV.out W hb)
    rw [mkL_data] at h
    exact h
  have HC2 : Hid (∀ W, Below w.heap.size w W → Calls Tryz.prog 37 #[.string (mkL (rsT s).1), .string ⟨#[43, 114]⟩] W fun e w' => e = .returned (.tuple #[.string (rsP s), .string (rsD s), .bool (rsR s).2.2]) ∧ Below W.heap.size W w') := fun W hb => by
    have h := Cut_any (mkL (rsT s).1) ⟨#[43, 114]⟩ W (by rw [mkL_size]; unfold rsT; omega) (HVV.out W hb)
    rw [mkL_data] at h
    exact h
  have hzP : (rsP s).size ≤ 281474976710656 := by unfold rsP rsR; rw [mkL_size]; have h : (rsT s).1.length ≤ (rsI s).length := z1.1; omega
  have hzD : (rsD s).size ≤ 281474976710656 := by unfold rsD rsR; rw [mkL_size]; have h : (rsT s).1.length ≤ (rsI s).length := z1.1; omega
  have hzQ : (rsQ s).size ≤ 281474976710656 := by unfold rsQ rsT; rw [mkL_size]; omega
  have HP : Hid (∀ W, Below w.heap.size w W → Calls Tryz.prog 125 #[.string (rsP s)] W fun e w' => e = .returned (.tuple #[.int .i64 (numN (rsP s)), .bool (numK (rsP s))]) ∧ Below W.heap.size W w') := fun W hb => iReadDecimal_any (rsP s) W hzP (HVV.out W hb)
  have HD : Hid (∀ W, Below w.heap.size w W → Calls Tryz.prog 125 #[.string (rsD s)] W fun e w' => e = .returned (.tuple #[.int .i64 (numN (rsD s)), .bool (numK (rsD s))]) ∧ Below W.heap.size W w') := fun W hb => iReadDecimal_any (rsD s) W hzD (HVV.out W hb)
  have HQQ : Hid (∀ W, Below w.heap.size w W → Calls Tryz.prog 125 #[.string (rsQ s)] W fun e w' => e = .returned (.tuple #[.int .i64 (numN (rsQ s)), .bool (numK (rsQ s))]) ∧ Below W.heap.size W w') := fun W hb => iReadDecimal_any (rsQ s) W hzQ (HVV.out W hb)
  have HST : Hid (∀ W, Below w.heap.size w W → Calls Tryz.prog 60 #[surdV (numN (rsP s)) (numN (rsD s)) (numN (rsQ s))] W fun e w' => e = .returned (.string (sdX (numN (rsP s)) (numN (rsD s)) (numN (rsQ s)))) ∧ Below W.heap.size W w') := fun W hb => iSurdText_all _ _ _ W (HVV.out W hb).tab
  have HO0 : Hid (([40].isPrefixOf s.data.toList && ((rsT s).2.2 && ((rsR s).2.2 && (numK (rsP s) && (numK (rsD s) && (numK (rsQ s) && decide (sdX (numN (rsP s)) (numN (rsD s)) (numN (rsQ s)) = s))))))) = false → rsO s = none) := fun h => by unfold rsO rsOk; rw [h]; rfl
  have HO1 : Hid (([40].isPrefixOf s.data.toList && ((rsT s).2.2 && ((rsR s).2.2 && (numK (rsP s) && (numK (rsD s) && (numK (rsQ s) && decide (sdX (numN (rsP s)) (numN (rsD s)) (numN (rsQ s)) = s))))))) = true → rsO s = some (numN (rsP s), numN (rsD s), numN (rsQ s))) := fun h => by unfold rsO rsOk; rw [h]; rfl
  have R0 := Lib.hid (BoxV.new w #[.int .i64 0, .int .i64 0, .int .i64 0] 34)
  have E0 := Lib.hid (ext1 w (.cells #[.int .i64 0, .int .i64 0, .int .i64 0] 34))
  generalize sdX (numN (rsP s)) (numN (rsD s)) (numN (rsQ s)) = X at *
  generalize numN (rsP s) = p at *
  generalize numN (rsD s) = d at *
  generalize numN (rsQ s) = q at *
  generalize numK (rsP s) = k1 at *
  generalize numK (rsD s) = k2 at *
  generalize numK (rsQ s) = k3 at *
  generalize [40].isPrefixOf s.data.toList = b0 at *
  generalize (rsT s).2.2 = b1 at *
  generalize (rsR s).2.2 = b2 at *
  generalize rsP s = PP at *
  generalize rsD s = DD at *
  generalize rsQ s = QQ at *
  generalize mkL (rsT s).1 = TT at *
  generalize mkL (rsI s) = II at *
  clear z0 z1 z2 hzP hzD hzQ hV HVV
  unfold surdV at *
  go_enter Tryz.func85, Tryz.ntmps85
  go_wp2_with fail
  refine (HP0.out _).mono ?_
  rintro e w1 ⟨rfl, rfl⟩
  go_wp2_with fail
  refine (HC1.out _ E0.out).mono ?_
  rintro e w1 ⟨rfl, hb1⟩
  have E1 := Lib.hid (ext_trans E0.out hb1)
  have R1 := Lib.hid (R0.out.next hb1)
  go_wp2_with fail
  refine (HC2.out _ E1.out).mono ?_
  rintro e w2 ⟨rfl, hb2⟩
  have E2 := Lib.hid (ext_trans E1.out hb2)
  have R2 := Lib.hid (R1.out.next hb2)
  go_wp2_with fail
  refine (HP.out _ E2.out).mono ?_
  rintro e w3 ⟨rfl, hb3⟩
  have E3 := Lib.hid (ext_trans E2.out hb3)
  have R3 := Lib.hid (R2.out.next hb3)
  go_wp2_with fail
  refine (HD.out _ E3.out).mono ?_
  rintro e w4 ⟨rfl, hb4⟩
  have E4 := Lib.hid (ext_trans E3.out hb4)
  have R4 := Lib.hid (R3.out.next hb4)
  go_wp2_with fail
  refine (HQQ.out _ E4.out).mono ?_
  rintro e w5 ⟨rfl, hb5⟩
  have E5 := Lib.hid (ext_trans E4.out hb5)
  have R5 := Lib.hid (R4.out.next hb5)
  clear hb1 hb2 hb3 hb4 hb5 E0 E1 E2 E3 E4 R0 R1 R2 R3 R4 HP0 HC1 HC2 HP HD HQQ
  go_upto_region 8 with fail
  have B9 := Lib.hid (BoxV.new w5 #[.int .i64 p, .int .i64 d, .int .i64 q] 34)
  have E9 := Lib.hid (ext_alloc E5.out (.cells #[.int .i64 p, .int .i64 d, .int .i64 q] 34))
  have R9 := Lib.hid (R5.out.alloc (.cells #[.int .i64 p, .int .i64 d, .int .i64 q] 34))
  generalize w5.alloc (.cells #[.int .i64 p, .int .i64 d, .int .i64 q] 34) = W9 at *
  generalize w5.heap.size = g at *
  clear E5 R5
  cases b0
  · have HQ := Lib.hid (rs_none (HO0.out (by rfl)))
    clear HO0 HO1
    have r0 := R9.out.at 0 _ rfl
    have r1 := R9.out.at 1 _ rfl
    have r2 := R9.out.at 2 _ rfl
    have q0 := R9.out.f 0
    have q1 := R9.out.f 1
    have q2 := R9.out.f 2
    have x0 := B9.out.at 0 _ rfl
    have x1 := B9.out.at 1 _ rfl
    have x2 := B9.out.at 2 _ rfl
    go_wp2
    refine bodyPost_ret (v := .tuple #[surdV 0 0 0, .bool false]) (by simp [results, Tryz.results85, go_sem, r0, r1, r2]; done) rfl ?_
    rw [HQ.out.1, HQ.out.2.1, HQ.out.2.2.1, HQ.out.2.2.2]
    exact ⟨rfl, ext_set (ext_set (ext_set E9.out (Nat.le_refl _) _) (Nat.le_refl _) _) (Nat.le_refl _) _⟩
  cases b1
  · have HQ := Lib.hid (rs_none (HO0.out (by rfl)))
    clear HO0 HO1
    have r0 := R9.out.at 0 _ rfl
    have r1 := R9.out.at 1 _ rfl
    have r2 := R9.out.at 2 _ rfl
    have q0 := R9.out.f 0
    have q1 := R9.out.f 1
    have q2 := R9.out.f 2
    have x0 := B9.out.at 0 _ rfl
    have x1 := B9.out.at 1 _ rfl
    have x2 := B9.out.at 2 _ rfl
    go_wp2
    refine bodyPost_ret (v := .tuple #[surdV 0 0 0, .bool false]) (by simp [results, Tryz.results85, go_sem, r0, r1, r2]; done) rfl ?_
    rw [HQ.out.1, HQ.out.2.1, HQ.out.2.2.1, HQ.out.2.2.2]
    exact ⟨rfl, ext_set (ext_set (ext_set E9.out (Nat.le_refl _) _) (Nat.le_refl _) _) (Nat.le_refl _) _⟩
  cases b2
  · have HQ := Lib.hid (rs_none (HO0.out (by rfl)))
    clear HO0 HO1
    have r0 := R9.out.at 0 _ rfl
    have r1 := R9.out.at 1 _ rfl
    have r2 := R9.out.at 2 _ rfl
    have q0 := R9.out.f 0
    have q1 := R9.out.f 1
    have q2 := R9.out.f 2
    have x0 := B9.out.at 0 _ rfl
    have x1 := B9.out.at 1 _ rfl
    have x2 := B9.out.at 2 _ rfl
    go_wp2
    refine bodyPost_ret (v := .tuple #[surdV 0 0 0, .bool false]) (by simp [results, Tryz.results85, go_sem, r0, r1, r2]; done) rfl ?_
    rw [HQ.out.1, HQ.out.2.1, HQ.out.2.2.1, HQ.out.2.2.2]
    exact ⟨rfl, ext_set (ext_set (ext_set E9.out (Nat.le_refl _) _) (Nat.le_refl _) _) (Nat.le_refl _) _⟩
  cases k1
  · have HQ := Lib.hid (rs_none (HO0.out (by rfl)))
    clear HO0 HO1
    have r0 := R9.out.at 0 _ rfl
    have r1 := R9.out.at 1 _ rfl
    have r2 := R9.out.at 2 _ rfl
    have q0 := R9.out.f 0
    have q1 := R9.out.f 1
    have q2 := R9.out.f 2
    have x0 := B9.out.at 0 _ rfl
    have x1 := B9.out.at 1 _ rfl
    have x2 := B9.out.at 2 _ rfl
    go_wp2
    refine bodyPost_ret (v := .tuple #[surdV 0 0 0, .bool false]) (by simp [results, Tryz.results85, go_sem, r0, r1, r2]; done) rfl ?_
    rw [HQ.out.1, HQ.out.2.1, HQ.out.2.2.1, HQ.out.2.2.2]
    exact ⟨rfl, ext_set (ext_set (ext_set E9.out (Nat.le_refl _) _) (Nat.le_refl _) _) (Nat.le_refl _) _⟩
  cases k2
  · have HQ := Lib.hid (rs_none (HO0.out (by rfl)))
    clear HO0 HO1
    have r0 := R9.out.at 0 _ rfl
    have r1 := R9.out.at 1 _ rfl
    have r2 := R9.out.at 2 _ rfl
    have q0 := R9.out.f 0
    have q1 := R9.out.f 1
    have q2 := R9.out.f 2
    have x0 := B9.out.at 0 _ rfl
    have x1 := B9.out.at 1 _ rfl
    have x2 := B9.out.at 2 _ rfl
    go_wp2
    refine bodyPost_ret (v := .tuple #[surdV 0 0 0, .bool false]) (by simp [results, Tryz.results85, go_sem, r0, r1, r2]; done) rfl ?_
    rw [HQ.out.1, HQ.out.2.1, HQ.out.2.2.1, HQ.out.2.2.2]
    exact ⟨rfl, ext_set (ext_set (ext_set E9.out (Nat.le_refl _) _) (Nat.le_refl _) _) (Nat.le_refl _) _⟩
  cases k3
  · have HQ := Lib.hid (rs_none (HO0.out (by rfl)))
    clear HO0 HO1
    have r0 := R9.out.at 0 _ rfl
    have r1 := R9.out.at 1 _ rfl
    have r2 := R9.out.at 2 _ rfl
    have q0 := R9.out.f 0
    have q1 := R9.out.f 1
    have q2 := R9.out.f 2
    have x0 := B9.out.at 0 _ rfl
    have x1 := B9.out.at 1 _ rfl
    have x2 := B9.out.at 2 _ rfl
    go_wp2
    refine bodyPost_ret (v := .tuple #[surdV 0 0 0, .bool false]) (by simp [results, Tryz.results85, go_sem, r0, r1, r2]; done) rfl ?_
    rw [HQ.out.1, HQ.out.2.1, HQ.out.2.2.1, HQ.out.2.2.2]
    exact ⟨rfl, ext_set (ext_set (ext_set E9.out (Nat.le_refl _) _) (Nat.le_refl _) _) (Nat.le_refl _) _⟩
  have HX := Lib.hid (HST.out W9 E9.out)
  have x0 := B9.out.at 0 _ rfl
  have x1 := B9.out.at 1 _ rfl
  have x2 := B9.out.at 2 _ rfl
  by_cases hx : X = s
  · have HQ := Lib.hid (rs_some (HO1.out (by rw [decide_eq_true hx]; rfl)))
    have heq := strEqB hx
    clear HO0 HO1 hx HST
    go_wp2_with fail
    refine HX.out.mono ?_
    rintro e w6 ⟨rfl, hb6⟩
    have B6 := Lib.hid (B9.out.next hb6)
    have R6 := Lib.hid (R9.out.next hb6)
    have E6 := Lib.hid (ext_trans E9.out hb6)
    clear x0 x1 x2 B9 R9 E9 HX
    have r0 := R6.out.at 0 _ rfl
    have r1 := R6.out.at 1 _ rfl
    have r2 := R6.out.at 2 _ rfl
    have q0 := R6.out.f 0
    have q1 := R6.out.f 1
    have q2 := R6.out.f 2
    have x0 := B6.out.at 0 _ rfl
    have x1 := B6.out.at 1 _ rfl
    have x2 := B6.out.at 2 _ rfl
    go_wp2
    refine bodyPost_ret (v := .tuple #[surdV p d q, .bool true]) (by simp [results, Tryz.results85, go_sem, r0, r1, r2]; done) rfl ?_
    rw [HQ.out.1, HQ.out.2.1, HQ.out.2.2.1, HQ.out.2.2.2]
    exact ⟨rfl, ext_set (ext_set (ext_set E6.out (Nat.le_refl _) _) (Nat.le_refl _) _) (Nat.le_refl _) _⟩
  · have HQ := Lib.hid (rs_none (HO0.out (by rw [decide_eq_false hx]; rfl)))
    have heq := strNeB hx
    clear HO0 HO1 hx HST
    go_wp2_with fail
    refine HX.out.mono ?_
    rintro e w6 ⟨rfl, hb6⟩
    have B6 := Lib.hid (B9.out.next hb6)
    have R6 := Lib.hid (R9.out.next hb6)
    have E6 := Lib.hid (ext_trans E9.out hb6)
    clear x0 x1 x2 B9 R9 E9 HX
    have B9 := B6
    have R9 := R6
    have E9 := E6
    clear B6 R6 E6
    have r0 := R9.out.at 0 _ rfl
    have r1 := R9.out.at 1 _ rfl
    have r2 := R9.out.at 2 _ rfl
    have q0 := R9.out.f 0
    have q1 := R9.out.f 1
    have q2 := R9.out.f 2
    have x0 := B9.out.at 0 _ rfl
    have x1 := B9.out.at 1 _ rfl
    have x2 := B9.out.at 2 _ rfl
    go_wp2
    refine bodyPost_ret (v := .tuple #[surdV 0 0 0, .bool false]) (by simp [results, Tryz.results85, go_sem, r0, r1, r2]; done) rfl ?_
    rw [HQ.out.1, HQ.out.2.1, HQ.out.2.2.1, HQ.out.2.2.2]
    exact ⟨rfl, ext_set (ext_set (ext_set E9.out (Nat.le_refl _) _) (Nat.le_refl _) _) (Nat.le_refl _) _⟩
end Go.Proofs.YtbcikkaoohihhaaGreatDoor
