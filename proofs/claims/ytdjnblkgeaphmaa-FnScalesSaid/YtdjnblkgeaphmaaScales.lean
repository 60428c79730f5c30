/- Law: notes have ascending heights, at most three steps are different, and the comma is at least 1 and less than 2. No condition. -/
import Derived.Test.YtdjnblkgeaphmaaBytesW
import Derived.Test.YtdjnblkgeaphmaaDrawScW
import Derived.Test.YtdjnblkgeaphmaaF6W
import Derived.Test.YtdjnblkgeaphmaaScalesP
import Derived.Deep.DeepCutAuto
namespace Go.Proofs.Ytdjnblkgeaphmaa.fnScales
open Go.ChangeShapes Go.WideShapes Go.ChangeAt Go.RowKit Go.Sort
open Go.ChangeMaps (open_string shut_string)

theorem rd_next {α : Type} {enc : α → Value} {W W' : World} {A : Option Addr} {xs : List α} (h : Rd enc W W.heap.size A xs) (hb : Below W.heap.size W W') : Rd enc W' W'.heap.size A xs := (h.below hb).more hb.size
theorem f6same (A B : Option Addr) (c d : Nat) (xs : List Int) (w : World) (hx : Rd (Value.int .i64) w w.heap.size A xs) (hy : Rd (Value.int .i64) w w.heap.size B xs) (hm : xs.length ≤ 1000000) :
    Calls Try.prog 67 #[.slice A xs.length c, .slice B xs.length d] w fun e w' => e = .returned (.bool true) ∧ Below w.heap.size w w' := by
  have h := f6ints_any A B c d xs xs w hx hy (by unfold maxLen; omega) (by unfold maxLen; omega)
  simpa using h
theorem notes (n : Int) : ∃ (xs : List Int) (k : Int), Hid (∀ W, Calls Try.prog 47 #[.int .i64 n] W (RetInts W xs k)) ∧ Hid (∀ W, Calls Try.prog 48 #[.int .i64 n] W (RetInts W xs k)) ∧ xs.length ≤ 1000000 :=
  ⟨_, _, iScaleNotes_any n, sScaleNotes_any n, scX_len n⟩
theorem terms (n : Int) : ∃ (xs : List Int) (k : Int), Hid (∀ W, Calls Try.prog 65 #[.int .i64 n] W (RetInts W xs k)) ∧ Hid (∀ W, Calls Try.prog 66 #[.int .i64 n] W (RetInts W xs k)) ∧ xs.length ≤ 1000000 :=
  ⟨_, _, iOctaveTerms_any n, sOctaveTerms_any n, by
    unfold octXs
    split
    · rw [List.length_take]; simp [octL]; omega
    · simp⟩
theorem sizes (n : Int) : ∃ a k : Int, Hid (∀ W, Calls Try.prog 50 #[.int .i64 n] W fun e w' => e = .returned (.tuple #[.int .i64 a, .int .i64 k]) ∧ Below W.heap.size W w') ∧
    Hid (∀ W, Calls Try.prog 51 #[.int .i64 n] W fun e w' => e = .returned (.tuple #[.int .i64 a, .int .i64 k]) ∧ Below W.heap.size W w') ∧ Hid (k = 0 → 1 ≤ a ∧ a ≤ 3) :=
  ⟨_, _, iStepSizes_any n, sStepSizes_any n, fun h => stN_bd h⟩
theorem commas (n : Int) : ∃ p q k : Int, Hid (∀ W, Calls Try.prog 53 #[.int .i64 n] W fun e w' => e = .returned (.tuple #[fracV p q, .int .i64 k]) ∧ Below W.heap.size W w') ∧
    Hid (∀ W, Calls Try.prog 54 #[.int .i64 n] W fun e w' => e = .returned (.tuple #[fracV p q, .int .i64 k]) ∧ Below W.heap.size W w') ∧ Hid (k = 0 → 1 ≤ q ∧ q ≤ 4611686018427387903 ∧ q ≤ p ∧ p < 2 * q) :=
  ⟨_, _, _, iCommaOf_any n, sCommaOf_any n, fun h => comm_bd h⟩
theorem octs (n : Int) : ∃ a k : Int, Hid (∀ W, Calls Try.prog 56 #[.int .i64 n] W fun e w' => e = .returned (.tuple #[.int .i64 a, .int .i64 k]) ∧ W = w') ∧
    Hid (∀ W, Calls Try.prog 57 #[.int .i64 n] W fun e w' => e = .returned (.tuple #[.int .i64 a, .int .i64 k]) ∧ W = w') :=
  ⟨_, _, iFifthOctaves_any n, sFifthOctaves_any n⟩
theorem fifths (n : Int) : ∃ a k : Int, Hid (∀ W, Calls Try.prog 59 #[.int .i64 n] W fun e w' => e = .returned (.tuple #[.int .i64 a, .int .i64 k]) ∧ W = w') ∧
    Hid (∀ W, Calls Try.prog 60 #[.int .i64 n] W fun e w' => e = .returned (.tuple #[.int .i64 a, .int .i64 k]) ∧ W = w') ∧ Hid (k = 0 → 0 ≤ a ∧ a ≤ n) :=
  ⟨_, _, iFifthSteps_any n, sFifthSteps_any n, fun h => stepsA_bd h⟩
theorem ratios (s n d : Int) : ∃ a k : Int, Hid (∀ W, Calls Try.prog 62 #[.int .i64 s, fracV n d] W fun e w' => e = .returned (.tuple #[.int .i64 a, .int .i64 k]) ∧ Below W.heap.size W w') ∧
    Hid (∀ W, Calls Try.prog 63 #[.int .i64 s, fracV n d] W fun e w' => e = .returned (.tuple #[.int .i64 a, .int .i64 k]) ∧ Below W.heap.size W w') ∧ Hid (k = 0 → 0 ≤ a ∧ a ≤ s) :=
  ⟨_, _, iRatioSteps_any s n d, sRatioSteps_any s n d, fun h => ratA_bd h⟩
set_option maxRecDepth 100000 in
set_option maxHeartbeats 8000000 in
theorem walkG (A : Option Addr) (n c : Nat) (w : World) (h : Bytes w A n) (hn : n ≤ 4096) :
    Calls Try.prog 8 #[.slice A n c] w fun e w' => e = .returned (.bool true) ∧ Below w.heap.size w w' := by
  have By := Lib.hid h
  have HE := Lib.hid (Below.refl w.heap.size w)
  have hf : ¬ 4096 < (n : Int) := by omega
  have hf6 : Hid (∀ W, Calls Try.prog 28 #[.slice A n c] W fun e w' => e = .returned (.bool false) ∧ W = w') := fun W => by
    have h := f6big_any A n c W
    rwa [decide_eq_false hf] at h
  have q1 := Try.eqGuardType25
  have q2 := Try.stoodInHeld25
  clear h hn hf
  go_enter Try.func8, Try.ntmps8
  go_wp2_with fail
  refine (hf6.out _).mono ?_
  rintro e w' ⟨rfl, rfl⟩
  go_wp2_with fail
  refine (drawScaleNotes_any A n c _ By.out).mono ?_
  rintro e w1 ⟨d1, rfl, hb⟩
  have HE := Lib.hid (ext_trans HE.out hb)
  have By := Lib.hid (By.out.next hb)
  obtain ⟨xs, k1, HN1, HN2, hxl⟩ := notes d1
  clear hb
  go_wp2_with fail
  refine (HN1.out _).mono ?_
  rintro e w2 ⟨A1, c1, rfl, hw1, hb⟩
  have HE := Lib.hid (ext_trans HE.out hb)
  have By := Lib.hid (By.out.next hb)
  have DX := Lib.hid hw1.rd
  clear hb hw1
  go_wp2_with fail
  refine (HN2.out _).mono ?_
  rintro e w3 ⟨A2, c2, rfl, hw1, hb⟩
  have HE := Lib.hid (ext_trans HE.out hb)
  have By := Lib.hid (By.out.next hb)
  have DX := Lib.hid (rd_next DX.out hb)
  have DY := Lib.hid hw1.rd
  clear hb hw1
  go_wp2_with fail
  refine (drawStepSizes_any A n c _ By.out).mono ?_
  rintro e w4 ⟨d2, rfl, hb⟩
  have HE := Lib.hid (ext_trans HE.out hb)
  have By := Lib.hid (By.out.next hb)
  have DX := Lib.hid (rd_next DX.out hb)
  have DY := Lib.hid (rd_next DY.out hb)
  obtain ⟨a2, k2, HS1, HS2, HSK⟩ := sizes d2
  clear hb
  go_wp2_with fail
  refine (HS1.out _).mono ?_
  rintro e w5 ⟨rfl, hb⟩
  have HE := Lib.hid (ext_trans HE.out hb)
  have By := Lib.hid (By.out.next hb)
  have DX := Lib.hid (rd_next DX.out hb)
  have DY := Lib.hid (rd_next DY.out hb)
  clear hb
  go_wp2_with fail
  refine (HS2.out _).mono ?_
  rintro e w6 ⟨rfl, hb⟩
  have HE := Lib.hid (ext_trans HE.out hb)
  have By := Lib.hid (By.out.next hb)
  have DX := Lib.hid (rd_next DX.out hb)
  have DY := Lib.hid (rd_next DY.out hb)
  clear hb
  go_wp2_with fail
  refine (drawCommaOf_any A n c _ By.out).mono ?_
  rintro e w7 ⟨d3, rfl, hb⟩
  have HE := Lib.hid (ext_trans HE.out hb)
  have By := Lib.hid (By.out.next hb)
  have DX := Lib.hid (rd_next DX.out hb)
  have DY := Lib.hid (rd_next DY.out hb)
  obtain ⟨p3, r3, k3, HC1, HC2, HCK⟩ := commas d3
  clear hb
  go_wp2_with fail
  refine (HC1.out _).mono ?_
  rintro e w8 ⟨rfl, hb⟩
  have HE := Lib.hid (ext_trans HE.out hb)
  have By := Lib.hid (By.out.next hb)
  have DX := Lib.hid (rd_next DX.out hb)
  have DY := Lib.hid (rd_next DY.out hb)
  have C1 := Lib.hid (B2.new w8 p3 r3 25)
  have hb := ext1 w8 (.cells #[.int .i64 p3, .int .i64 r3] 25)
  have HE := Lib.hid (ext_trans HE.out hb)
  have By := Lib.hid (By.out.next hb)
  have DX := Lib.hid (rd_next DX.out hb)
  have DY := Lib.hid (rd_next DY.out hb)
  clear hb
  go_wp2_with fail
  generalize w8.alloc (.cells #[.int .i64 p3, .int .i64 r3] 25) = W8 at *
  refine (HC2.out _).mono ?_
  rintro e w9 ⟨rfl, hb⟩
  have HE := Lib.hid (ext_trans HE.out hb)
  have By := Lib.hid (By.out.next hb)
  have DX := Lib.hid (rd_next DX.out hb)
  have DY := Lib.hid (rd_next DY.out hb)
  have C1 := Lib.hid (B2.next C1.out hb)
  have C2 := Lib.hid (B2.new w9 p3 r3 25)
  have hb := ext1 w9 (.cells #[.int .i64 p3, .int .i64 r3] 25)
  have HE := Lib.hid (ext_trans HE.out hb)
  have By := Lib.hid (By.out.next hb)
  have DX := Lib.hid (rd_next DX.out hb)
  have DY := Lib.hid (rd_next DY.out hb)
  have C1 := Lib.hid (B2.next C1.out hb)
  clear hb
  go_wp2_with fail
  generalize w9.alloc (.cells #[.int .i64 p3, .int .i64 r3] 25) = W9 at *
  refine (drawFifthOctaves_any A n c _ By.out).mono ?_
  rintro e w10 ⟨d4, rfl, hb⟩
  have HE := Lib.hid (ext_trans HE.out hb)
  have By := Lib.hid (By.out.next hb)
  have DX := Lib.hid (rd_next DX.out hb)
  have DY := Lib.hid (rd_next DY.out hb)
  have C1 := Lib.hid (B2.next C1.out hb)
  have C2 := Lib.hid (B2.next C2.out hb)
  obtain ⟨a4, k4, HO1, HO2⟩ := octs d4
  clear hb
  go_wp2_with fail
  refine (HO1.out _).mono ?_
  rintro e w' ⟨rfl, rfl⟩
  go_wp2_with fail
  refine (HO2.out _).mono ?_
  rintro e w' ⟨rfl, rfl⟩
  go_wp2_with fail
  refine (drawFifthSteps_any A n c _ By.out).mono ?_
  rintro e w11 ⟨d5, rfl, hb⟩
  have HE := Lib.hid (ext_trans HE.out hb)
  have By := Lib.hid (By.out.next hb)
  have DX := Lib.hid (rd_next DX.out hb)
  have DY := Lib.hid (rd_next DY.out hb)
  have C1 := Lib.hid (B2.next C1.out hb)
  have C2 := Lib.hid (B2.next C2.out hb)
  obtain ⟨a5, k5, HF1, HF2, HFK⟩ := fifths d5
  clear hb
  go_wp2_with fail
  refine (HF1.out _).mono ?_
  rintro e w' ⟨rfl, rfl⟩
  go_wp2_with fail
  refine (HF2.out _).mono ?_
  rintro e w' ⟨rfl, rfl⟩
  go_wp2_with fail
  refine (drawRatioSteps_any A n c _ By.out).mono ?_
  rintro e w12 ⟨d6, p6, r6, rfl, hb⟩
  have HE := Lib.hid (ext_trans HE.out hb)
  have By := Lib.hid (By.out.next hb)
  have DX := Lib.hid (rd_next DX.out hb)
  have DY := Lib.hid (rd_next DY.out hb)
  have C1 := Lib.hid (B2.next C1.out hb)
  have C2 := Lib.hid (B2.next C2.out hb)
  obtain ⟨a6, k6, HR1, HR2, HRK⟩ := ratios d6 p6 r6
  have R := Lib.hid (B2.new w12 p6 r6 25)
  have hb := ext1 w12 (.cells #[.int .i64 p6, .int .i64 r6] 25)
  have HE := Lib.hid (ext_trans HE.out hb)
  have By := Lib.hid (By.out.next hb)
  have DX := Lib.hid (rd_next DX.out hb)
  have DY := Lib.hid (rd_next DY.out hb)
  have C1 := Lib.hid (B2.next C1.out hb)
  have C2 := Lib.hid (B2.next C2.out hb)
  clear hb
  go_wp2_with fail
  generalize w12.alloc (.cells #[.int .i64 p6, .int .i64 r6] 25) = W12 at *
  refine (HR1.out _).mono ?_
  rintro e w13 ⟨rfl, hb⟩
  have HE := Lib.hid (ext_trans HE.out hb)
  have By := Lib.hid (By.out.next hb)
  have DX := Lib.hid (rd_next DX.out hb)
  have DY := Lib.hid (rd_next DY.out hb)
  have C1 := Lib.hid (B2.next C1.out hb)
  have C2 := Lib.hid (B2.next C2.out hb)
  have R := Lib.hid (B2.next R.out hb)
  obtain ⟨g0, g1, _, _⟩ := R.out
  clear hb
  go_wp2_with fail
  refine (HR2.out _).mono ?_
  rintro e w14 ⟨rfl, hb⟩
  have HE := Lib.hid (ext_trans HE.out hb)
  have By := Lib.hid (By.out.next hb)
  have DX := Lib.hid (rd_next DX.out hb)
  have DY := Lib.hid (rd_next DY.out hb)
  have C1 := Lib.hid (B2.next C1.out hb)
  have C2 := Lib.hid (B2.next C2.out hb)
  clear hb g0 g1 R
  go_wp2_with fail
  refine (drawOctaveTerms_any A n c _ By.out).mono ?_
  rintro e w15 ⟨d7, rfl, hb⟩
  have HE := Lib.hid (ext_trans HE.out hb)
  have By := Lib.hid (By.out.next hb)
  have DX := Lib.hid (rd_next DX.out hb)
  have DY := Lib.hid (rd_next DY.out hb)
  have C1 := Lib.hid (B2.next C1.out hb)
  have C2 := Lib.hid (B2.next C2.out hb)
  obtain ⟨zs, k7, HT1, HT2, hzl⟩ := terms d7
  clear hb
  go_wp2_with fail
  refine (HT1.out _).mono ?_
  rintro e w16 ⟨A3, c3, rfl, hw1, hb⟩
  have HE := Lib.hid (ext_trans HE.out hb)
  have By := Lib.hid (By.out.next hb)
  have DX := Lib.hid (rd_next DX.out hb)
  have DY := Lib.hid (rd_next DY.out hb)
  have C1 := Lib.hid (B2.next C1.out hb)
  have C2 := Lib.hid (B2.next C2.out hb)
  have DZ := Lib.hid hw1.rd
  clear hb hw1
  go_wp2_with fail
  refine (HT2.out _).mono ?_
  rintro e w17 ⟨A4, c4, rfl, hw1, hb⟩
  have HE := Lib.hid (ext_trans HE.out hb)
  have By := Lib.hid (By.out.next hb)
  have DX := Lib.hid (rd_next DX.out hb)
  have DY := Lib.hid (rd_next DY.out hb)
  have C1 := Lib.hid (B2.next C1.out hb)
  have C2 := Lib.hid (B2.next C2.out hb)
  have DZ := Lib.hid (rd_next DZ.out hb)
  have DW := Lib.hid hw1.rd
  clear hb hw1 By HN1 HN2 HS1 HS2 HC1 HC2 HO1 HO2 HF1 HF2 HR1 HR2 HT1 HT2 hf6
  go_wp2_with fail
  refine (f6same _ _ _ _ xs _ DX.out DY.out hxl).mono ?_
  rintro e w18 ⟨rfl, hb⟩
  have HE := Lib.hid (ext_trans HE.out hb)
  have C1 := Lib.hid (B2.next C1.out hb)
  have C2 := Lib.hid (B2.next C2.out hb)
  have DZ := Lib.hid (rd_next DZ.out hb)
  have DW := Lib.hid (rd_next DW.out hb)
  clear hb DX DY
  obtain ⟨m0, m1, _, _⟩ := C1.out
  obtain ⟨n0, n1, _, _⟩ := C2.out
  go_wp2_with fail
  refine (f6same _ _ _ _ zs _ DZ.out DW.out hzl).mono ?_
  rintro e w19 ⟨rfl, hb⟩
  have HE := Lib.hid (ext_trans HE.out hb)
  clear m0 m1 n0 n1
  have C1 := Lib.hid (B2.next C1.out hb)
  have C2 := Lib.hid (B2.next C2.out hb)
  obtain ⟨m0, m1, _, _⟩ := C1.out
  clear hb DZ DW C1 C2 q1 q2
  have t2 : (k2 == 0) = true ∧ 1 ≤ a2 ∧ a2 ≤ 3 ∨ (k2 == 0) = false := by
    by_cases h : k2 = 0
    · exact .inl ⟨by simpa using h, HSK.out h⟩
    · exact .inr (by simpa using h)
  have t6 : (k6 == 0) = true ∧ 0 ≤ a6 ∧ a6 ≤ d6 ∨ (k6 == 0) = false := by
    by_cases h : k6 = 0
    · exact .inl ⟨by simpa using h, HRK.out h⟩
    · exact .inr (by simpa using h)
  have t5 : (k5 == 0) = true ∧ 0 ≤ a5 ∧ a5 ≤ d5 ∨ (k5 == 0) = false := by
    by_cases h : k5 = 0
    · exact .inl ⟨by simpa using h, HFK.out h⟩
    · exact .inr (by simpa using h)
  have t3 : (k3 != 0) = false ∧ 1 ≤ r3 ∧ r3 ≤ 4611686018427387903 ∧ r3 ≤ p3 ∧ p3 < 2 * r3 ∨ (k3 != 0) = true := by
    by_cases h : k3 = 0
    · exact .inl ⟨by simpa using h, HCK.out h⟩
    · exact .inr (by simpa using h)
  clear HSK HRK HFK HCK
  go_upto_region 26 with fail
  go_cut [235] (fun v wx => v = .bool false ∧ w19 = wx)
  case first =>
    rcases t2 with ⟨y1, y2, y3⟩ | y1 <;> rcases t6 with ⟨z1, z2, z3⟩ | z1 <;> rcases t5 with ⟨v1, v2, v3⟩ | v1
    all_goals
      go_wp2_with fail
      go_meet
      exact ⟨by first | rfl | (refine val_bool ?_; simp; omega), rfl⟩
  case rest =>
    obtain ⟨rfl, rfl⟩ := hcut
    clear t2 t6 t5
    rcases t3 with ⟨u1, u2, u3, u4, u5⟩ | u1
    · go_wp2
      go_ret
      exact ⟨rfl, HE.out⟩
    · go_wp2
      go_ret
      exact ⟨rfl, HE.out⟩
set_option maxRecDepth 100000 in
theorem walk (A : Option Addr) (l c : Nat) (z : List Int) (w : World) (hx : IsRow .u8 w A l c z) :
    Calls Try.prog 8 #[.slice A l c] w fun e w' => e = .returned (.bool true) ∧ Below w.heap.size w w' := by
  by_cases h : l ≤ 4096
  · exact walkG A l c w (hx.bytes (by omega)) h
  · have hf : 4096 < (l : Int) := by omega
    have hf6 : Hid (∀ W, Calls Try.prog 28 #[.slice A l c] W fun e w' => e = .returned (.bool true) ∧ W = w') := fun W => by
      have h := f6big_any A l c W
      rwa [decide_eq_true hf] at h
    clear hx hf h
    go_enter Try.func8, Try.ntmps8
    go_wp2_with fail
    refine (hf6.out _).mono ?_
    rintro e w' ⟨rfl, rfl⟩
    go_wp2
    go_ret
    exact ⟨rfl, Below.refl _ _⟩

theorem own : ownKnob Try.prog.godebug = none := by kernel_rfl
theorem laidOut : laidOutB Try.prog = true := by kernel_rfl
set_option linter.unusedVariables false in
set_option maxRecDepth 100000 in
theorem lifted (os : Os) (started : os.Started) (H : Type) (enc : TypeId × Value → H) :
    ReturnsInHanded {} Try.checked os 8 .any (Rows.fnScalesSpec.pre6 enc Try.prog Try.f8 Rows.fnScalesRow.domain false) (Rows.fnScalesSpec.post enc Try.prog Try.f8 false true false false) := by
  refine returnsInHanded_of_change (C := Try.checked) own started (by kernel_rfl) Try.func8
    (ChangeSpec.witness6 (enc := enc) (C := Try.checked) false ⟨#[], #[.slice none 0 0], []⟩ 8 (by kernel_rfl) (by kernel_rfl) (by kernel_rfl) (by kernel_rfl)) ?_
  intro W base args ds gs before hval0 hW hcnd _
  have hval : ∀ (j : Nat) t v, Try.f8.params[j]? = some t → args[j]? = some v → Value.okWide Try.prog W .any base t v := hval0
  have hW' := hW
  obtain ⟨p, q, hA0, hV, rfl, hfz, hnd⟩ := hW
  have hA : DataW.TrodAll enc Try.prog W 0 (fun _ => true) true Try.f8.params.toList args.toList ds p := hA0
  rw [Try.params8] at hA hval
  obtain ⟨v0, vs0, d0, ds0, p0, q0, hargs, rfl, rfl, h0, r0⟩ := trodAll_cons hA
  obtain ⟨rfl, rfl, rfl⟩ := trodAll_nil r0
  obtain rfl : args = #[v0] := by cases args; simp_all
  obtain ⟨rfl, rfl⟩ := trodVars_none hV
  have k0 := h0
  have lt0 : ∀ x ∈ p0, x.block < W.heap.size := by obtain ⟨m, hm⟩ := k0; exact DataW.trod_lt m _ _ _ hm
  obtain ⟨A0, l0, c0, rfl⟩ := okWide_slice Try.underlying52 (hval 0 52 v0 rfl rfl)
  obtain ⟨z0, w0⟩ : ∃ zs, IsRow .u8 W A0 l0 c0 zs := isRow_arg Try.underlying52 Try.underlying5 (by kernel_rfl) h0
  clear hA0 hval0
  refine (walk A0 l0 c0 z0 W w0).mono fun e W' ⟨he, bel⟩ => ?_
  subst he
  exact ⟨_, rfl, _, _, _, [], _, [], hW', trodAll_mk1 (shut_bool Try.underlying4 _), (trodAll_cons_mk (Below.trod laidOut (by kernel_rfl) (of_decide_eq_true (by kernel_rfl)) k0 bel lt0) trodAll_mk0), rfl, bel.frame _, fun h => by cases h⟩

theorem jPlace : (Rows.fnScalesRow.inPlace == Try.prog.inPlace 8) = true := by kernel_rfl
theorem jFollow : (Rows.fnScalesRow.unfollowed == Try.prog.unfollowed 8) = true := by kernel_rfl
theorem jRecurse : (Rows.fnScalesRow.recurses == Try.prog.recurses 8) = true := by kernel_rfl
theorem jNamed : (Rows.fnScalesRow.named == Try.prog.varsNamed 8) = true := by kernel_rfl
theorem joined : joinedFacts Try.prog 8 Try.f8 Rows.fnScalesSpec Rows.fnScalesRow = true :=
  joined_of (by kernel_rfl) (by kernel_rfl) (by kernel_rfl) (by kernel_rfl) (by kernel_rfl) jPlace jFollow jRecurse jNamed (by kernel_rfl) (by kernel_rfl) (by kernel_rfl) (by kernel_rfl) (by kernel_rfl) (by kernel_rfl) (by kernel_rfl) (by kernel_rfl) (by kernel_rfl) rfl rfl rfl rfl rfl rfl (by kernel_rfl) (by kernel_rfl) (by kernel_rfl)
theorem over : Rows.fnScalesRow.holds Try.pinned (OpenSpec.ofChange Rows.fnScalesSpec) :=
  OpenClaim.holds_of_wide 8 Try.f8 rfl rfl rfl rfl rfl rfl rfl ⟨rfl, rfl, rfl, rfl, rfl⟩ rfl rfl rfl rfl rfl (by kernel_rfl) Try.func8 joined
    (of_decide_eq_true (by kernel_rfl)) (by unfold Func.isWrapper; first | (rw [if_pos (by decide +kernel)]; kernel_rfl) | (rw [if_neg (by decide +kernel)]; exact ⟨rfl, rfl⟩))
    (fun os started H enc _ => lifted os started H enc)

theorem proved : Rows.FnScalesSaid := over
#print axioms proved
end Go.Proofs.Ytdjnblkgeaphmaa.fnScales
