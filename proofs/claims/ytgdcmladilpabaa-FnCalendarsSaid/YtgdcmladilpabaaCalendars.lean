/- Law: days have their numbers and come back from them, and a cycle has as many leap years as its rule tells. No condition. -/
import Derived.Test.YtgdcmladilpabaaBytesW
import Derived.Test.YtgdcmladilpabaaCalDrawdW
import Derived.Test.YtgdcmladilpabaaCalDrawnW
import Derived.Test.YtgdcmladilpabaaF6W
import Derived.Test.YtgdcmladilpabaaCalP
namespace Go.Proofs.Ytgdcmladilpabaa.fnCalendars
open Go.ChangeShapes Go.WideShapes Go.ChangeAt Go.RowKit Go.Sort
open Go.ChangeMaps (open_string shut_string)

theorem RB.next {h : Nat} {l c s : Int} {W W' : World} (r : RB h l c s W) (hb : Below W.heap.size W W') : RB h l c s W' :=
  ⟨(hb.cell (p := ⟨h, 0, none⟩) r.2.2.2.2).trans r.1, (hb.cell (p := ⟨h, 1, none⟩) r.2.2.2.2).trans r.2.1, (hb.cell (p := ⟨h, 2, none⟩) r.2.2.2.2).trans r.2.2.1, fun j => (hb.frozen (p := ⟨h, j, none⟩) r.2.2.2.2).trans (r.2.2.2.1 j), Nat.lt_of_lt_of_le r.2.2.2.2 hb.size⟩
theorem rd_next {α : Type} {enc : α → Value} {W W' : World} {A : Option Addr} {xs : List α} (h : Rd enc W W.heap.size A xs) (hb : Below W.heap.size W W') : Rd enc W' W'.heap.size A xs := (h.below hb).more hb.size
/-- The program's days of a number are the reference's, and they have that number. -/
theorem dates (l c s n : Int) : ∃ y d k : Int, Hid (∀ W, Calls Try.prog 19 #[ruleV l c s, .int .i64 n] W fun e w' => e = .returned (.tuple #[.int .i64 y, .int .i64 d, .int .i64 k]) ∧ Below W.heap.size W w') ∧
    Hid (∀ W, Calls Try.prog 20 #[ruleV l c s, .int .i64 n] W fun e w' => e = .returned (.tuple #[.int .i64 y, .int .i64 d, .int .i64 k]) ∧ Below W.heap.size W w') ∧ Hid (k = 0 → dayC l c s y d = 0 ∧ dayA l c s y d = n) := by
  by_cases h0 : dateC l c s n = 0
  · obtain ⟨h1, h2, y, y1, y2, y3, y4⟩ := date_zero h0
    exact ⟨y, n - startV l c s y, 0, fun W => iDateOf_good l c s n y W h1 h2 y1 y2 y3 y4, fun W => sDateOf_good l c s n y W h1 h2 y1 y2 y3 y4, fun _ => date_back h1 y1 y2 y3 y4⟩
  · exact ⟨0, 0, dateC l c s n, fun W => iDateOf_bad l c s n W h0, fun W => sDateOf_bad l c s n W h0, fun h => absurd h h0⟩
theorem back {l c s y d : Int} (h : dayC l c s y d = 0) (W : World) : Calls Try.prog 19 #[ruleV l c s, .int .i64 (dayA l c s y d)] W fun e w' => e = .returned (.tuple #[.int .i64 y, .int .i64 d, .int .i64 0]) ∧ Below W.heap.size W w' := by
  obtain ⟨h1, y1, y2, y3, y4, y5, y6⟩ := number_back h
  have := iDateOf_good l c s (dayA l c s y d) y W h1 y6 y1 y2 y3 y4
  rwa [y5] at this
theorem leaps (l c s : Int) : ∃ (xs : List Int) (k : Int), Hid (∀ W, Calls Try.prog 22 #[ruleV l c s] W (RetInts W xs k)) ∧ Hid (∀ W, Calls Try.prog 23 #[ruleV l c s] W (RetInts W xs k)) ∧ xs.length ≤ 1000000 ∧ Hid (k = 0 → (xs.length : Int) = l) := by
  refine ⟨_, _, iLeapYears_any l c s, sLeapYears_any l c s, ?_, ?_⟩
  · split
    · rename_i h
      have := ruleOk_true.1 h
      have := leapsTo_length l c s c.toNat
      omega
    · simp
  · intro h
    split at h
    · rename_i h1
      rw [if_pos h1]
      exact leapsTo_cycle h1
    · cases h
theorem f6same (A B : Option Addr) (c d : Nat) (xs : List Int) (w : World) (hx : Rd (Value.int .i64) w w.heap.size A xs) (hy : Rd (Value.int .i64) w w.heap.size B xs) (hm : xs.length ≤ 1000000) :
    Calls Try.prog 29 #[.slice A xs.length c, .slice B xs.length d] w fun e w' => e = .returned (.bool true) ∧ Below w.heap.size w w' := by
  have h := f6ints_any A B c d xs xs w hx hy (by unfold maxLen; omega) (by unfold maxLen; omega)
  simpa using h

theorem isLeaps (l c s y : Int) : ∃ (b : Bool) (v k : Int), Hid (∀ W, Calls Try.prog 25 #[ruleV l c s, .int .i64 y] W fun e w' => e = .returned (.tuple #[.bool b, .int .i64 k]) ∧ Below W.heap.size W w') ∧
    Hid (∀ W, Calls Try.prog 26 #[ruleV l c s, .int .i64 y] W fun e w' => e = .returned (.tuple #[.bool b, .int .i64 k]) ∧ Below W.heap.size W w') ∧
    Hid (∀ W, Calls Try.prog 27 #[ruleV l c s, .int .i64 y] W fun e w' => e = .returned (.tuple #[.int .i64 v, .int .i64 k]) ∧ Below W.heap.size W w') ∧
    Hid (∀ W, Calls Try.prog 28 #[ruleV l c s, .int .i64 y] W fun e w' => e = .returned (.tuple #[.int .i64 v, .int .i64 k]) ∧ Below W.heap.size W w') :=
  ⟨_, _, _, iIsLeap_any l c s y, sIsLeap_any l c s y, iLeapsBefore_any l c s y, sLeapsBefore_any l c s y⟩
theorem rules (l c s : Int) : ∃ b : Bool, Hid (∀ W, Calls Try.prog 30 #[ruleV l c s] W fun e w' => e = .returned (.bool b) ∧ Below W.heap.size W w') ∧
    Hid (∀ W, Calls Try.prog 31 #[ruleV l c s] W fun e w' => e = .returned (.bool b) ∧ Below W.heap.size W w') := ⟨_, ValidRule_any l c s, sValidRule_any l c s⟩

set_option maxRecDepth 100000 in
set_option maxHeartbeats 4000000 in
theorem walkG (A : Option Addr) (n c : Nat) (w : World) (h : Bytes w A n) (hn : n ≤ 4096) :
    Calls Try.prog 3 #[.slice A n c] w fun e w' => e = .returned (.bool true) ∧ Below w.heap.size w w' := by
  have By := Lib.hid h
  have HE := Lib.hid (Below.refl w.heap.size w)
  have hf : ¬ 4096 < (n : Int) := by omega
  have hf6 : Hid (∀ W, Calls Try.prog 14 #[.slice A n c] W fun e w' => e = .returned (.bool false) ∧ W = w') := fun W => by
    have h := f6big_any A n c W
    rwa [decide_eq_false hf] at h
  clear h
  go_enter Try.func3, Try.ntmps3
  go_wp2_with fail
  refine (hf6.out _).mono ?_
  rintro e w' ⟨rfl, rfl⟩
  go_wp2_with fail
  refine (drawDayNumber_any A n c _ By.out).mono ?_
  rintro e w1 ⟨l1, c1, s1, y1, d1, rfl, hb⟩
  have HE := Lib.hid (ext_trans HE.out hb)
  have By := Lib.hid (By.out.next hb)
  have R1 := Lib.hid (RB.new w1 l1 c1 s1 25)
  have hb := ext1 w1 (.cells #[.int .i64 l1, .int .i64 c1, .int .i64 s1] 25)
  have HE := Lib.hid (ext_trans HE.out hb)
  have By := Lib.hid (By.out.next hb)
  clear hb
  go_wp2_with fail
  generalize w1.alloc (.cells #[.int .i64 l1, .int .i64 c1, .int .i64 s1] 25) = W1 at *
  refine (iDayNumber_any l1 c1 s1 y1 d1 _).mono ?_
  rintro e w2 ⟨rfl, hb⟩
  have HE := Lib.hid (ext_trans HE.out hb)
  have By := Lib.hid (By.out.next hb)
  have R1 := Lib.hid (RB.next R1.out hb)
  clear hb
  obtain ⟨r0, r1, r2, _, _⟩ := R1.out
  go_wp2_with fail
  refine (sDayNumber_any l1 c1 s1 y1 d1 _).mono ?_
  rintro e w3 ⟨rfl, hb⟩
  have HE := Lib.hid (ext_trans HE.out hb)
  have By := Lib.hid (By.out.next hb)
  have R1 := Lib.hid (RB.next R1.out hb)
  clear hb
  clear r0 r1 r2
  go_wp2_with fail
  refine (drawDateOf_any A n c _ By.out).mono ?_
  rintro e w4 ⟨l2, c2, s2, n2, rfl, hb⟩
  have HE := Lib.hid (ext_trans HE.out hb)
  have By := Lib.hid (By.out.next hb)
  have R1 := Lib.hid (RB.next R1.out hb)
  obtain ⟨y2, d2, k2, HDI, HDS, HDK⟩ := dates l2 c2 s2 n2
  have R2 := Lib.hid (RB.new w4 l2 c2 s2 25)
  have hb := ext1 w4 (.cells #[.int .i64 l2, .int .i64 c2, .int .i64 s2] 25)
  have HE := Lib.hid (ext_trans HE.out hb)
  have By := Lib.hid (By.out.next hb)
  have R1 := Lib.hid (RB.next R1.out hb)
  clear hb
  go_wp2_with fail
  generalize w4.alloc (.cells #[.int .i64 l2, .int .i64 c2, .int .i64 s2] 25) = W4 at *
  refine (HDI.out _).mono ?_
  rintro e w5 ⟨rfl, hb⟩
  have HE := Lib.hid (ext_trans HE.out hb)
  have By := Lib.hid (By.out.next hb)
  have R1 := Lib.hid (RB.next R1.out hb)
  have R2 := Lib.hid (RB.next R2.out hb)
  clear hb
  obtain ⟨r0, r1, r2, _, _⟩ := R2.out
  go_wp2_with fail
  refine (HDS.out _).mono ?_
  rintro e w6 ⟨rfl, hb⟩
  have HE := Lib.hid (ext_trans HE.out hb)
  have By := Lib.hid (By.out.next hb)
  have R1 := Lib.hid (RB.next R1.out hb)
  have R2 := Lib.hid (RB.next R2.out hb)
  clear hb
  clear r0 r1 r2
  go_wp2_with fail
  refine (drawLeapYears_any A n c _ By.out).mono ?_
  rintro e w7 ⟨l3, c3, s3, rfl, hb⟩
  have HE := Lib.hid (ext_trans HE.out hb)
  have By := Lib.hid (By.out.next hb)
  have R1 := Lib.hid (RB.next R1.out hb)
  have R2 := Lib.hid (RB.next R2.out hb)
  obtain ⟨xs, k3, HLI, HLS, hxl, HLK⟩ := leaps l3 c3 s3
  have R3 := Lib.hid (RB.new w7 l3 c3 s3 25)
  have hb := ext1 w7 (.cells #[.int .i64 l3, .int .i64 c3, .int .i64 s3] 25)
  have HE := Lib.hid (ext_trans HE.out hb)
  have By := Lib.hid (By.out.next hb)
  have R1 := Lib.hid (RB.next R1.out hb)
  have R2 := Lib.hid (RB.next R2.out hb)
  clear hb
  go_wp2_with fail
  generalize w7.alloc (.cells #[.int .i64 l3, .int .i64 c3, .int .i64 s3] 25) = W7 at *
  refine (HLI.out _).mono ?_
  rintro e w8 ⟨A1, b1, rfl, hw1, hb⟩
  have HE := Lib.hid (ext_trans HE.out hb)
  have By := Lib.hid (By.out.next hb)
  have R1 := Lib.hid (RB.next R1.out hb)
  have R2 := Lib.hid (RB.next R2.out hb)
  have R3 := Lib.hid (RB.next R3.out hb)
  have D1 := Lib.hid hw1.rd
  clear hb hw1
  obtain ⟨r0, r1, r2, _, _⟩ := R3.out
  go_wp2_with fail
  refine (HLS.out _).mono ?_
  rintro e w9 ⟨A2, b2, rfl, hw1, hb⟩
  have HE := Lib.hid (ext_trans HE.out hb)
  have By := Lib.hid (By.out.next hb)
  have R1 := Lib.hid (RB.next R1.out hb)
  have R2 := Lib.hid (RB.next R2.out hb)
  have R3 := Lib.hid (RB.next R3.out hb)
  have D1 := Lib.hid (rd_next D1.out hb)
  have D2 := Lib.hid hw1.rd
  clear hb hw1
  clear r0 r1 r2
  go_wp2_with fail
  refine (drawIsLeap_any A n c _ By.out).mono ?_
  rintro e w10 ⟨l4, c4, s4, y4, rfl, hb⟩
  have HE := Lib.hid (ext_trans HE.out hb)
  have By := Lib.hid (By.out.next hb)
  have R1 := Lib.hid (RB.next R1.out hb)
  have R2 := Lib.hid (RB.next R2.out hb)
  have R3 := Lib.hid (RB.next R3.out hb)
  have D1 := Lib.hid (rd_next D1.out hb)
  have D2 := Lib.hid (rd_next D2.out hb)
  obtain ⟨bl, vl, kl, HI1, HI2, HI3, HI4⟩ := isLeaps l4 c4 s4 y4
  have R4 := Lib.hid (RB.new w10 l4 c4 s4 25)
  have hb := ext1 w10 (.cells #[.int .i64 l4, .int .i64 c4, .int .i64 s4] 25)
  have HE := Lib.hid (ext_trans HE.out hb)
  have By := Lib.hid (By.out.next hb)
  have R1 := Lib.hid (RB.next R1.out hb)
  have R2 := Lib.hid (RB.next R2.out hb)
  have R3 := Lib.hid (RB.next R3.out hb)
  have D1 := Lib.hid (rd_next D1.out hb)
  have D2 := Lib.hid (rd_next D2.out hb)
  clear hb
  go_wp2_with fail
  generalize w10.alloc (.cells #[.int .i64 l4, .int .i64 c4, .int .i64 s4] 25) = W10 at *
  refine (HI1.out _).mono ?_
  rintro e wa ⟨rfl, hb⟩
  have HE := Lib.hid (ext_trans HE.out hb)
  have By := Lib.hid (By.out.next hb)
  have R1 := Lib.hid (RB.next R1.out hb)
  have R2 := Lib.hid (RB.next R2.out hb)
  have R3 := Lib.hid (RB.next R3.out hb)
  have R4 := Lib.hid (RB.next R4.out hb)
  have D1 := Lib.hid (rd_next D1.out hb)
  have D2 := Lib.hid (rd_next D2.out hb)
  clear hb
  obtain ⟨r0, r1, r2, _, _⟩ := R4.out
  go_wp2_with fail
  clear r0 r1 r2
  refine (HI2.out _).mono ?_
  rintro e wa ⟨rfl, hb⟩
  have HE := Lib.hid (ext_trans HE.out hb)
  have By := Lib.hid (By.out.next hb)
  have R1 := Lib.hid (RB.next R1.out hb)
  have R2 := Lib.hid (RB.next R2.out hb)
  have R3 := Lib.hid (RB.next R3.out hb)
  have R4 := Lib.hid (RB.next R4.out hb)
  have D1 := Lib.hid (rd_next D1.out hb)
  have D2 := Lib.hid (rd_next D2.out hb)
  clear hb
  obtain ⟨r0, r1, r2, _, _⟩ := R4.out
  go_wp2_with fail
  clear r0 r1 r2
  refine (HI3.out _).mono ?_
  rintro e wa ⟨rfl, hb⟩
  have HE := Lib.hid (ext_trans HE.out hb)
  have By := Lib.hid (By.out.next hb)
  have R1 := Lib.hid (RB.next R1.out hb)
  have R2 := Lib.hid (RB.next R2.out hb)
  have R3 := Lib.hid (RB.next R3.out hb)
  have R4 := Lib.hid (RB.next R4.out hb)
  have D1 := Lib.hid (rd_next D1.out hb)
  have D2 := Lib.hid (rd_next D2.out hb)
  clear hb
  obtain ⟨r0, r1, r2, _, _⟩ := R4.out
  go_wp2_with fail
  clear r0 r1 r2
  refine (HI4.out _).mono ?_
  rintro e wa ⟨rfl, hb⟩
  have HE := Lib.hid (ext_trans HE.out hb)
  have By := Lib.hid (By.out.next hb)
  have R1 := Lib.hid (RB.next R1.out hb)
  have R2 := Lib.hid (RB.next R2.out hb)
  have R3 := Lib.hid (RB.next R3.out hb)
  have R4 := Lib.hid (RB.next R4.out hb)
  have D1 := Lib.hid (rd_next D1.out hb)
  have D2 := Lib.hid (rd_next D2.out hb)
  clear hb
  obtain ⟨r0, r1, r2, _, _⟩ := R4.out
  go_wp2_with fail
  clear r0 r1 r2
  obtain ⟨bv, HV1, HV2⟩ := rules l1 c1 s1
  clear R4
  obtain ⟨q0, q1, q2, _, _⟩ := R1.out
  have k0 : ∀ d os, (grow (redrawn wa d) os).cell? ⟨w1.heap.size, 0, none⟩ = some (.int .i64 l1) := cell_regrown q0
  have k1 : ∀ d os, (grow (redrawn wa d) os).cell? ⟨w1.heap.size, 1, none⟩ = some (.int .i64 c1) := cell_regrown q1
  have k2' : ∀ d os, (grow (redrawn wa d) os).cell? ⟨w1.heap.size, 2, none⟩ = some (.int .i64 s1) := cell_regrown q2
  clear q0 q1 q2
  refine wp_region_quiet_below (by kernel_rfl) (by kernel_rfl) ?_
  repeat (first | go_big_quiet_step ((first | (with_reducible exact Calls.regrown_of (f6same _ _ _ _ xs _ (rd_next D1.out (below_regrown _ _ _)) (rd_next D2.out (below_regrown _ _ _)) hxl)) | (with_reducible exact Calls.regrown_of (HV1.out _)) | (with_reducible exact Calls.regrown_of (HV2.out _)))) | quiet_step ((first | (with_reducible exact Calls.regrown_of (f6same _ _ _ _ xs _ (rd_next D1.out (below_regrown _ _ _)) (rd_next D2.out (below_regrown _ _ _)) hxl)) | (with_reducible exact Calls.regrown_of (HV1.out _)) | (with_reducible exact Calls.regrown_of (HV2.out _)))))
  refine wpQuiet_nil ?_
  intro _ hw'
  obtain ⟨⟨dq, oq⟩, hw''⟩ := hw'
  subst hw''
  obtain ⟨wb, hWb⟩ : ∃ Wq, Wq = grow (redrawn wa dq) oq := ⟨_, rfl⟩
  have hbb : Below wa.heap.size wa wb := by rw [hWb]; exact below_regrown _ _ _
  rw [← hWb]
  clear hWb
  obtain ⟨hcb, hfb⟩ := bcell hbb
  have hyb := hbb.size
  have HE := Lib.hid (ext_trans HE.out hbb)
  have R1 := Lib.hid (RB.next R1.out hbb)
  have R2 := Lib.hid (RB.next R2.out hbb)
  have R3 := Lib.hid (RB.next R3.out hbb)
  clear k0 k1 k2' hbb hcb hfb hyb D1 D2 By HV1 HV2 HI1 HI2 HI3 HI4 HLI HLS HDI HDS
  obtain ⟨q0, q1, q2, _, _⟩ := R3.out
  have hlen : k3 = 0 → ((xs.length : Int) != l3) = false := fun h => by rw [HLK.out h]; simp
  have hn2 : k2 = 0 → ∀ W, Calls Try.prog 16 #[ruleV l2 c2 s2, .int .i64 y2, .int .i64 d2] W fun e w' => e = .returned (.tuple #[.int .i64 n2, .int .i64 0]) ∧ Below W.heap.size W w' := fun h W => by
    obtain ⟨h1, h2⟩ := HDK.out h
    have := iDayNumber_any l2 c2 s2 y2 d2 W
    rwa [h1, h2] at this
  have hba := back (l := l1) (c := c1) (s := s1) (y := y1) (d := d1)
  generalize dayC l1 c1 s1 y1 d1 = k1 at *
  generalize dayA l1 c1 s1 y1 d1 = n1 at *
  have HL := Lib.hid hlen
  have HN := Lib.hid hn2
  have HB := Lib.hid hba
  clear hlen hn2 hba HDK HLK
  by_cases e3 : k3 = 0
  · have hl3 := HL.out e3
    have e3' : (k3 == 0) = true := by simpa using e3
    have E3 := Lib.hid e3
    clear e3
    by_cases e2 : k2 = 0
    · have HNN := Lib.hid (HN.out e2)
      have e2' : (k2 == 0) = true := by simpa using e2
      have E2 := Lib.hid e2
      clear e2
      obtain ⟨r0, r1, r2, _, _⟩ := R2.out
      go_wp2_with fail
      refine (HNN.out _).mono ?_
      rintro e wd ⟨rfl, hb⟩
      have HE := Lib.hid (ext_trans HE.out hb)
      have R1 := Lib.hid (RB.next R1.out hb)
      clear hb r0 r1 r2
      by_cases e1 : k1 = 0
      · have HBB := Lib.hid (HB.out e1)
        have e1' : (k1 == 0) = true := by simpa using e1
        have e1'' : (k1 != 0) = false := by simpa using e1
        have E1 := Lib.hid e1
        clear e1
        obtain ⟨r0, r1, r2, _, _⟩ := R1.out
        go_wp2_with fail
        refine (HBB.out _).mono ?_
        rintro e we ⟨rfl, hb⟩
        have HE := Lib.hid (ext_trans HE.out hb)
        clear hb r0 r1 r2
        go_wp2
        all_goals
          go_ret
          exact ⟨by simp, HE.out⟩
      · have e1' : (k1 == 0) = false := by simpa using e1
        have e1'' : (k1 != 0) = true := by simpa using e1
        clear e1
        go_wp2
        go_ret
        exact ⟨rfl, HE.out⟩
    · have e2' : (k2 == 0) = false := by simpa using e2
      clear e2
      by_cases e1 : k1 = 0
      · have HBB := Lib.hid (HB.out e1)
        have e1' : (k1 == 0) = true := by simpa using e1
        have e1'' : (k1 != 0) = false := by simpa using e1
        have E1 := Lib.hid e1
        clear e1
        obtain ⟨r0, r1, r2, _, _⟩ := R1.out
        go_wp2_with fail
        refine (HBB.out _).mono ?_
        rintro e we ⟨rfl, hb⟩
        have HE := Lib.hid (ext_trans HE.out hb)
        clear hb r0 r1 r2
        go_wp2
        all_goals
          go_ret
          exact ⟨by simp, HE.out⟩
      · have e1' : (k1 == 0) = false := by simpa using e1
        have e1'' : (k1 != 0) = true := by simpa using e1
        clear e1
        go_wp2
        go_ret
        exact ⟨rfl, HE.out⟩
  · have e3' : (k3 == 0) = false := by simpa using e3
    clear e3
    by_cases e2 : k2 = 0
    · have HNN := Lib.hid (HN.out e2)
      have e2' : (k2 == 0) = true := by simpa using e2
      have E2 := Lib.hid e2
      clear e2
      obtain ⟨r0, r1, r2, _, _⟩ := R2.out
      go_wp2_with fail
      refine (HNN.out _).mono ?_
      rintro e wd ⟨rfl, hb⟩
      have HE := Lib.hid (ext_trans HE.out hb)
      have R1 := Lib.hid (RB.next R1.out hb)
      clear hb r0 r1 r2
      by_cases e1 : k1 = 0
      · have HBB := Lib.hid (HB.out e1)
        have e1' : (k1 == 0) = true := by simpa using e1
        have e1'' : (k1 != 0) = false := by simpa using e1
        have E1 := Lib.hid e1
        clear e1
        obtain ⟨r0, r1, r2, _, _⟩ := R1.out
        go_wp2_with fail
        refine (HBB.out _).mono ?_
        rintro e we ⟨rfl, hb⟩
        have HE := Lib.hid (ext_trans HE.out hb)
        clear hb r0 r1 r2
        go_wp2
        all_goals
          go_ret
          exact ⟨by simp, HE.out⟩
      · have e1' : (k1 == 0) = false := by simpa using e1
        have e1'' : (k1 != 0) = true := by simpa using e1
        clear e1
        go_wp2
        go_ret
        exact ⟨rfl, HE.out⟩
    · have e2' : (k2 == 0) = false := by simpa using e2
      clear e2
      by_cases e1 : k1 = 0
      · have HBB := Lib.hid (HB.out e1)
        have e1' : (k1 == 0) = true := by simpa using e1
        have e1'' : (k1 != 0) = false := by simpa using e1
        have E1 := Lib.hid e1
        clear e1
        obtain ⟨r0, r1, r2, _, _⟩ := R1.out
        go_wp2_with fail
        refine (HBB.out _).mono ?_
        rintro e we ⟨rfl, hb⟩
        have HE := Lib.hid (ext_trans HE.out hb)
        clear hb r0 r1 r2
        go_wp2
        all_goals
          go_ret
          exact ⟨by simp, HE.out⟩
      · have e1' : (k1 == 0) = false := by simpa using e1
        have e1'' : (k1 != 0) = true := by simpa using e1
        clear e1
        go_wp2
        go_ret
        exact ⟨rfl, HE.out⟩

set_option maxRecDepth 100000 in
theorem walk (A : Option Addr) (l c : Nat) (z : List Int) (w : World) (hx : IsRow .u8 w A l c z) :
    Calls Try.prog 3 #[.slice A l c] w fun e w' => e = .returned (.bool true) ∧ Below w.heap.size w w' := by
  by_cases h : l ≤ 4096
  · exact walkG A l c w (hx.bytes (by omega)) h
  · have hf : 4096 < (l : Int) := by omega
    have hf6 : Hid (∀ W, Calls Try.prog 14 #[.slice A l c] W fun e w' => e = .returned (.bool true) ∧ W = w') := fun W => by
      have h := f6big_any A l c W
      rwa [decide_eq_true hf] at h
    clear hx hf h
    go_enter Try.func3, Try.ntmps3
    go_wp2_with fail
    refine (hf6.out _).mono ?_
    rintro e w' ⟨rfl, rfl⟩
    go_wp2
    go_ret
    exact ⟨rfl, Below.refl _ _⟩

theorem own : ownKnob Try.prog.godebug = none := by kernel_rfl
theorem laidOut : laidOutB Try.prog = true := by kernel_rfl
set_option linter.unusedVariables false in
set_option maxRecDepth 100000 in
theorem lifted (os : Os) (started : os.Started) (H : Type) (enc : TypeId × Value → H) :
    ReturnsInHanded {} Try.checked os 3 .any (Rows.fnCalendarsSpec.pre6 enc Try.prog Try.f3 Rows.fnCalendarsRow.domain false) (Rows.fnCalendarsSpec.post enc Try.prog Try.f3 false true false false) := by
  refine returnsInHanded_of_change (C := Try.checked) own started (by kernel_rfl) Try.func3
    (ChangeSpec.witness6 (enc := enc) (C := Try.checked) false ⟨#[], #[.slice none 0 0], []⟩ 8 (by kernel_rfl) (by kernel_rfl) (by kernel_rfl) (by kernel_rfl)) ?_
  intro W base args ds gs before hval0 hW hcnd _
  have hval : ∀ (j : Nat) t v, Try.f3.params[j]? = some t → args[j]? = some v → Value.okWide Try.prog W .any base t v := hval0
  have hW' := hW
  obtain ⟨p, q, hA0, hV, rfl, hfz, hnd⟩ := hW
  have hA : DataW.TrodAll enc Try.prog W 0 (fun _ => true) true Try.f3.params.toList args.toList ds p := hA0
  rw [Try.params3] at hA hval
  obtain ⟨v0, vs0, d0, ds0, p0, q0, hargs, rfl, rfl, h0, r0⟩ := trodAll_cons hA
  obtain ⟨rfl, rfl, rfl⟩ := trodAll_nil r0
  obtain rfl : args = #[v0] := by cases args; simp_all
  obtain ⟨rfl, rfl⟩ := trodVars_none hV
  have k0 := h0
  have lt0 : ∀ x ∈ p0, x.block < W.heap.size := by obtain ⟨m, hm⟩ := k0; exact DataW.trod_lt m _ _ _ hm
  obtain ⟨A0, l0, c0, rfl⟩ := okWide_slice Try.underlying22 (hval 0 22 v0 rfl rfl)
  obtain ⟨z0, w0⟩ : ∃ zs, IsRow .u8 W A0 l0 c0 zs := isRow_arg Try.underlying22 Try.underlying5 (by kernel_rfl) h0
  clear hA0 hval0
  refine (walk A0 l0 c0 z0 W w0).mono fun e W' ⟨he, bel⟩ => ?_
  subst he
  exact ⟨_, rfl, _, _, _, [], _, [], hW', trodAll_mk1 (shut_bool Try.underlying4 _), (trodAll_cons_mk (Below.trod laidOut (by kernel_rfl) (of_decide_eq_true (by kernel_rfl)) k0 bel lt0) trodAll_mk0), rfl, bel.frame _, fun h => by cases h⟩

theorem over : Rows.fnCalendarsRow.holds Try.pinned (OpenSpec.ofChange Rows.fnCalendarsSpec) :=
  OpenClaim.holds_of_wide 3 Try.f3 rfl rfl rfl rfl rfl rfl rfl ⟨rfl, rfl, rfl, rfl, rfl⟩ rfl rfl rfl rfl rfl (by kernel_rfl) Try.func3 (by kernel_rfl)
    (of_decide_eq_true (by kernel_rfl)) (by unfold Func.isWrapper; first | (rw [if_pos (by decide +kernel)]; kernel_rfl) | (rw [if_neg (by decide +kernel)]; exact ⟨rfl, rfl⟩))
    (fun os started H enc _ => lifted os started H enc)

theorem proved : Rows.FnCalendarsSaid := over
#print axioms proved
end Go.Proofs.Ytgdcmladilpabaa.fnCalendars
