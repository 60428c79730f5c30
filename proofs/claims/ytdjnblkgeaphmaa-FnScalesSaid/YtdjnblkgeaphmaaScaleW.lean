/- ScaleNotes: both walks. No condition but those that each theorem names. -/
import Derived.Test.YtdjnblkgeaphmaaScaleP
import Derived.Test.YtdjnblkgeaphmaaOwnW
import Derived.Test.YtdjnblkgeaphmaaErrW
import Derived.Shelf.SlSortCmp.QuietGrown
namespace Go.Proofs.Ytdjnblkgeaphmaa
open Go.RowKit Go.Sort

@[reducible] def noteV (a : Nat) : Value := .agg #[.int .i64 (a : Int), .int .i64 ((a : Int) + (octv a : Int))]
theorem pw2_bd' {k : Nat} (h : k ≤ 61) : 0 ≤ pw 2 k ∧ pw 2 k ≤ 9223372036854775807 := by
  have := List.all_eq_true.1 (show (List.range 62).all (fun k => decide (0 ≤ pw 2 k ∧ pw 2 k ≤ 9223372036854775807)) = true by decide +kernel) k (List.mem_range.2 (by omega))
  exact of_decide_eq_true this

/-- w' is w with new blocks, and with some draws more. -/
def Up (w w' : World) : Prop := Below w.heap.size w w' ∧ w.drawn ≤ w'.drawn
theorem Up.trans {w1 w2 w3 : World} (h1 : Up w1 w2) (h2 : Up w2 w3) : Up w1 w3 := ⟨ext_trans h1.1 h2.1, Nat.le_trans h1.2 h2.2⟩
theorem Up.alloc {w w' : World} (h : Up w w') (o : Obj) : Up w (w'.alloc o) := ⟨ext_alloc h.1 o, h.2⟩
theorem Up.refl (w : World) : Up w w := ⟨Below.refl _ _, Nat.le_refl _⟩
theorem Up.quiet (w : World) (n : Nat) (os : Array Obj) : Up w (grow (w.drewN n) os) := ⟨by have := below_regrown w (w.drawn + n) os; exact this, by simp [grow, World.drewN]⟩
theorem Up.grown {w w' : World} (h : Up w w') : ∃ q os, w' = grow (w.drewN q) os := by
  obtain ⟨p, hp⟩ := regrown_of_below h.1
  have hd : w'.drawn = p.d := by rw [hp]; rfl
  refine ⟨p.d - w.drawn, p.os, ?_⟩
  rw [hp]
  have := h.2
  unfold redrawn World.drewN
  rw [show w.drawn + (p.d - w.drawn) = p.d by omega]

theorem noteOf_any (f : Nat) (w : World) (hf : f ≤ 39) :
    Calls Try.prog 135 #[.int .i64 (f : Int)] w fun e w' => e = .returned (noteV f) ∧ Up w w' := by
  have ho := octv_le hf
  go_enter Try.func135, Try.ntmps135
  go_wp2_with (go_at_call 138; refine (oct_any f _ hf).mono ?_; rintro e w' ⟨rfl, rfl⟩)
  refine bodyPost_ret (v := noteV f) (by simp [results, Try.results135, go_sem]; done) rfl ⟨rfl, ?_, Nat.le_refl _⟩
  repeat (first | exact Below.refl _ _ | refine ext_alloc ?_ _ | refine ext_set ?_ ?_ _)
  all_goals simp
set_option maxHeartbeats 1000000 in
theorem compareNotes_ge (a b : Nat) (w : World) (hb : b ≤ a) (ha : a ≤ 39) :
    Calls Try.prog 184 #[noteV a, noteV b] w fun e w' => e = .returned (.int .i64 (cmpA a b)) ∧ Up w w' := by
  have o1 := octv_le ha
  have o2 := octv_le (f := b) (by omega)
  have HP : Hid (∀ W (z : Int), z = (a : Int) - b → Calls Try.prog 137 #[.int .i64 3, .int .i64 z] W fun e w' => e = .returned (.int .i64 (pw 3 (a - b))) ∧ W = w') := fun W z hz => by
    obtain rfl : z = ((a - b : Nat) : Int) := by omega
    exact powerOf_any 3 (a - b) W (by omega) (fun k hk => pw3_bd (by omega))
  have HT : Hid (∀ W (z : Int), z = max ((a : Int) + octv a - (b + octv b)) 0 → Calls Try.prog 137 #[.int .i64 2, .int .i64 z] W fun e w' => e = .returned (.int .i64 (pw 2 (a + octv a - (b + octv b)))) ∧ W = w') := fun W z hz => by
    obtain rfl : z = ((a + octv a - (b + octv b) : Nat) : Int) := by omega
    exact powerOf_any 2 _ W (by omega) (fun k hk => pw2_bd' (by omega))
  have HR : Hid (cmp3 (pw 3 (a - b)) (pw 2 (a + octv a - (b + octv b))) = cmpA a b) := rfl
  have hge : (b : Int) ≤ a := by omega
  unfold noteV
  generalize pw 3 (a - b) = X at *
  generalize pw 2 (a + octv a - (b + octv b)) = Y at *
  generalize octv a = oa at *
  generalize octv b = ob at *
  go_enter Try.func184, Try.ntmps184
  go_wp2
  generalize hV : (w.alloc _).alloc _ = V
  have hb0 : Up w V := by rw [← hV]; exact ((Up.refl w).alloc _).alloc _
  have k1 : ∀ d os, (grow (V.drewN d) os).cell? ⟨w.heap.size, 0, none⟩ = _ := cell_grown (by rw [← hV]; simp only [World.size_alloc]; omega) (by rw [← hV, cell_two_fst]; rfl)
  have k2 : ∀ d os, (grow (V.drewN d) os).cell? ⟨w.heap.size, 1, none⟩ = _ := cell_grown (by rw [← hV]; simp only [World.size_alloc]; omega) (by rw [← hV, cell_two_fst]; rfl)
  have k3 : ∀ d os, (grow (V.drewN d) os).cell? ⟨w.heap.size + 1, 0, none⟩ = _ := cell_grown (by rw [← hV]; simp only [World.size_alloc]; omega) (by rw [← hV, cell_two_snd]; rfl)
  have k4 : ∀ d os, (grow (V.drewN d) os).cell? ⟨w.heap.size + 1, 1, none⟩ = _ := cell_grown (by rw [← hV]; simp only [World.size_alloc]; omega) (by rw [← hV, cell_two_snd]; rfl)
  clear hV
  have hmo : Try.prog.follows Departure.mixedOrders = true := by kernel_rfl
  go_quiet_grown (fail)
  have hb2 := hb0.trans (Up.quiet V nq osq)
  go_wp2_with (first | (go_at_call 137; (with_reducible refine (HP.out _ _ (by omega)).mono ?_); rintro e w' ⟨rfl, rfl⟩) | (go_at_call 137; (with_reducible refine (HT.out _ _ (by omega)).mono ?_); rintro e w' ⟨rfl, rfl⟩) | (go_at_call 196; refine (compare_any _ _ _).mono ?_; rintro e w' ⟨rfl, rfl⟩))
  all_goals go_ret
  all_goals exact ⟨ret_int HR.out, hb2⟩
set_option maxHeartbeats 1000000 in
theorem compareNotes_any (a b : Nat) (w : World) (ha : a ≤ 39) (hb : b ≤ 39) :
    Calls Try.prog 184 #[noteV a, noteV b] w fun e w' => e = .returned (.int .i64 (cmpN a b)) ∧ Up w w' := by
  by_cases hab : b ≤ a
  · rw [cmpN, if_pos hab]
    exact compareNotes_ge a b w hab ha
  · have o1 := octv_le ha
    have o2 := octv_le hb
    have HC := Lib.hid (compareNotes_ge b a · (by omega) hb)
    have HR : Hid (-cmpA b a = cmpN a b) := by unfold Hid; rw [cmpN, if_neg hab]
    have hbd : -1 ≤ cmpA b a ∧ cmpA b a ≤ 1 := by unfold cmpA; split <;> (try split) <;> omega
    obtain ⟨b1, b2⟩ := hbd
    generalize cmpA b a = X at *
    unfold noteV at *
    generalize octv a = oa at *
    generalize octv b = ob at *
    go_enter Try.func184, Try.ntmps184
    go_wp2
    generalize hV : (w.alloc _).alloc _ = V
    have hb0 : Up w V := by rw [← hV]; exact ((Up.refl w).alloc _).alloc _
    have k1 : ∀ d os, (grow (V.drewN d) os).cell? ⟨w.heap.size, 0, none⟩ = _ := cell_grown (by rw [← hV]; simp only [World.size_alloc]; omega) (by rw [← hV, cell_two_fst]; rfl)
    have k2 : ∀ d os, (grow (V.drewN d) os).cell? ⟨w.heap.size, 1, none⟩ = _ := cell_grown (by rw [← hV]; simp only [World.size_alloc]; omega) (by rw [← hV, cell_two_fst]; rfl)
    have k3 : ∀ d os, (grow (V.drewN d) os).cell? ⟨w.heap.size + 1, 0, none⟩ = _ := cell_grown (by rw [← hV]; simp only [World.size_alloc]; omega) (by rw [← hV, cell_two_snd]; rfl)
    have k4 : ∀ d os, (grow (V.drewN d) os).cell? ⟨w.heap.size + 1, 1, none⟩ = _ := cell_grown (by rw [← hV]; simp only [World.size_alloc]; omega) (by rw [← hV, cell_two_snd]; rfl)
    clear hV
    have hmo : Try.prog.follows Departure.mixedOrders = true := by kernel_rfl
    go_quiet_grown (fail)
    have hb2 := hb0.trans (Up.quiet V nq osq)
    go_wp2_with (go_at_call 184; refine (HC.out _).mono ?_; rintro e w3 ⟨rfl, hb3⟩)
    go_ret
    exact ⟨ret_int HR.out, hb2.trans hb3⟩
theorem scaleCmp_any (a b : Nat) (w : World) (ha : a ≤ 39) (hb : b ≤ 39) :
    Calls Try.prog 183 #[.int .i64 (a : Int), .int .i64 (b : Int)] w fun e w' => e = .returned (.int .i64 (cmpN a b)) ∧ Up w w' := by
  have HA := Lib.hid (noteOf_any a · ha)
  have HB := Lib.hid (noteOf_any b · hb)
  have HC := Lib.hid (compareNotes_any a b · ha hb)
  generalize cmpN a b = X at *
  generalize noteV a = p at *
  generalize noteV b = q at *
  go_enter Try.func183, Try.ntmps183
  go_wp2_with fail
  refine (HA.out _).mono ?_
  rintro e w1 ⟨rfl, h1⟩
  go_wp2_with fail
  refine (HB.out _).mono ?_
  rintro e w2 ⟨rfl, h2⟩
  go_wp2_with fail
  refine (HC.out _).mono ?_
  rintro e w3 ⟨rfl, h3⟩
  go_wp2
  go_ret
  exact ⟨rfl, h1.trans (h2.trans h3)⟩
set_option maxRecDepth 100000 in
set_option maxHeartbeats 1000000 in
theorem l25Height_any (a b : Nat) (w : World) (ha : a ≤ 39) (hb : b ≤ 39) :
    Calls Try.prog 185 #[.int .i64 (a : Int), .int .i64 (b : Int)] w fun e w' => e = .returned (.bool (hB a b)) ∧ w = w' := by
  have o1 := octv_le ha
  have o2 := octv_le hb
  have HP1 := Lib.hid (l25Power_any a · ha)
  have HP2 := Lib.hid (l25Power_any b · hb)
  have HO1 := Lib.hid (l25Octaves_any a · ha)
  have HO2 := Lib.hid (l25Octaves_any b · hb)
  obtain ⟨x1, x2⟩ := pw3_bd ha
  obtain ⟨y1, y2⟩ := pw3_bd hb
  obtain ⟨R, hR⟩ : ∃ R, hB a b = R := ⟨_, rfl⟩
  rw [hR]
  unfold hB at hR
  generalize pw 3 a = X at *
  generalize pw 3 b = Y at *
  generalize octv a = oa at *
  generalize octv b = ob at *
  by_cases hlt : a + oa < b + ob
  · rw [if_pos hlt] at hR
    have HR := Lib.hid hR
    clear hR
    have hlt' : (a : Int) + oa < b + ob := by omega
    go_enter Try.func185, Try.ntmps185
    go_wp2_with (first | (go_at_call 139; (with_reducible refine (HP1.out _).mono ?_); rintro e w' ⟨rfl, rfl⟩) | (go_at_call 139; (with_reducible refine (HP2.out _).mono ?_); rintro e w' ⟨rfl, rfl⟩) | (go_at_call 140; (with_reducible refine (HO1.out _).mono ?_); rintro e w' ⟨rfl, rfl⟩) | (go_at_call 140; (with_reducible refine (HO2.out _).mono ?_); rintro e w' ⟨rfl, rfl⟩))
    go_loop [5, 7] (fun x i => ∃ (m : Nat) (Z : Int), m ≤ b + ob ∧ i = .int .i64 ((b : Int) + ob - m) ∧ x = .int .i64 Z ∧ 0 ≤ Z ∧ Z ≤ 9223372036854775807 ∧ Hid (hUp Z Y m = R)) (fun _ i => ((b : Int) + ob - intOf i).toNat)
    case atStart => exact ⟨b + ob - (a + oa), X, by omega, val_int (by omega), rfl, x1, x2, HR.out⟩
    case round =>
      obtain ⟨m, Z, hm, rfl, rfl, z1, z2, HZ⟩ := hrel
      cases m with
      | zero =>
        have hR := HZ.out
        unfold hUp at hR
        go_wp2_with fail
        go_loop [6, 8] (fun y j => y = .int .i64 Y ∧ j = .int .i64 ((b : Int) + ob)) (fun _ _ => 0)
        case atStart => exact ⟨rfl, rfl⟩
        case round =>
          obtain ⟨rfl, rfl⟩ := hrel
          go_wp2
          go_ret
          first | exact ⟨ret_bool hR, rfl⟩ | exact ⟨rfl, rfl⟩
      | succ m =>
        have hR := HZ.out
        unfold hUp at hR
        have hi : (b : Int) + ob - ((m + 1 : Nat) : Int) < b + ob := by omega
        by_cases hx : Y / 2 < Z
        · rw [if_pos hx] at hR
          go_wp2
          go_ret
          first | exact ⟨ret_bool hR, rfl⟩ | exact ⟨rfl, rfl⟩
        · rw [if_neg hx] at hR
          have hz : 0 ≤ Z * 2 ∧ Z * 2 ≤ 9223372036854775807 := by omega
          obtain ⟨z3, z4⟩ := hz
          have HZ := Lib.hid hR
          clear hR
          go_wp2
          go_round
          case rel => exact ⟨m, Z * 2, by omega, val_int (by omega), rfl, z3, z4, HZ.out⟩
          case measure => simp [intOf]; omega
  · rw [if_neg hlt] at hR
    have HR := Lib.hid hR
    clear hR
    have hlt' : (b : Int) + ob ≤ a + oa := by omega
    go_enter Try.func185, Try.ntmps185
    go_wp2_with (first | (go_at_call 139; (with_reducible refine (HP1.out _).mono ?_); rintro e w' ⟨rfl, rfl⟩) | (go_at_call 139; (with_reducible refine (HP2.out _).mono ?_); rintro e w' ⟨rfl, rfl⟩) | (go_at_call 140; (with_reducible refine (HO1.out _).mono ?_); rintro e w' ⟨rfl, rfl⟩) | (go_at_call 140; (with_reducible refine (HO2.out _).mono ?_); rintro e w' ⟨rfl, rfl⟩))
    go_loop [5, 7] (fun x i => x = .int .i64 X ∧ i = .int .i64 ((a : Int) + oa)) (fun _ _ => 0)
    case atStart => exact ⟨rfl, rfl⟩
    case round =>
      obtain ⟨rfl, rfl⟩ := hrel
      go_wp2_with fail
      go_loop [6, 8] (fun y j => ∃ (m : Nat) (Z : Int), m ≤ a + oa ∧ j = .int .i64 ((a : Int) + oa - m) ∧ y = .int .i64 Z ∧ 0 ≤ Z ∧ Z ≤ 9223372036854775807 ∧ Hid (hDn X Z m = R)) (fun _ j => ((a : Int) + oa - intOf j).toNat)
      case atStart => exact ⟨a + oa - (b + ob), Y, by omega, val_int (by omega), rfl, y1, y2, HR.out⟩
      case round =>
        obtain ⟨m, Z, hm, rfl, rfl, z1, z2, HZ⟩ := hrel
        cases m with
        | zero =>
          have hR := HZ.out
          unfold hDn at hR
          go_wp2
          go_ret
          first | exact ⟨ret_bool hR, rfl⟩ | exact ⟨rfl, rfl⟩
        | succ m =>
          have hR := HZ.out
          unfold hDn at hR
          have hi : (a : Int) + oa - ((m + 1 : Nat) : Int) < a + oa := by omega
          clear hlt hlt' HR y1 y2 HP1 HP2 HO1 HO2
          by_cases hx : X / 2 < Z
          · rw [if_pos hx] at hR
            have HR2 := Lib.hid hR
            clear HZ hR
            go_wp2
            go_ret
            exact ⟨ret_bool HR2.out, rfl⟩
          · rw [if_neg hx] at hR
            have hz : 0 ≤ Z * 2 ∧ Z * 2 ≤ 9223372036854775807 := by omega
            obtain ⟨z3, z4⟩ := hz
            have HZ := Lib.hid hR
            clear hR
            go_wp2
            go_round
            case rel => exact ⟨m, Z * 2, by omega, val_int (by omega), rfl, z3, z4, HZ.out⟩
            case measure => simp [intOf]; omega
end Go.Proofs.Ytdjnblkgeaphmaa
