/- Names, and terms that are valid: the walks. No condition but those that each theorem names. -/
import Derived.Test.YtpnabggpdgjbmaaGreatDoorMgAB
namespace Go.Proofs.YtpnabggpdgjbmaaGreatDoor
open Go.RowKit Go.Sort
/-- A slice of integers with its capacity. -/
def RdC (w : World) (B : Nat) (T : Option Addr) (c : Nat) (xs : List Int) : Prop := Rd (Value.int .i64) w B T xs ∧ xs.length ≤ c ∧ c ≤ maxLen
theorem size64N_any (A : Option Addr) (n c : Nat) (w : World) : Calls Tryz.prog 103 #[.slice A n c] w fun e w' => e = .returned (.int .i64 (n : Int)) ∧ w = w' := by
  go_enter Tryz.func103, Tryz.ntmps103
  go_wp2
  go_ret
  exact ⟨rfl, rfl⟩
def smallB (c : Int) : Bool := decide (97 ≤ c) && decide (c ≤ 122)
def digB (c : Int) : Bool := decide (48 ≤ c) && decide (c ≤ 57)
theorem isSmall_any (c : Int) (w : World) : Calls Tryz.prog 115 #[.int .u8 c] w fun e w' => e = .returned (.bool (smallB c)) ∧ w = w' := by
  by_cases h : 97 ≤ c
  · have h1 : decide (97 ≤ c) = true := by simpa using h
    go_enter Tryz.func115, Tryz.ntmps115
    go_wp2
    go_ret
    exact ⟨ret_bool (by unfold smallB; rw [h1, Bool.true_and]), rfl⟩
  · have h1 : decide (97 ≤ c) = false := by simpa using h
    go_enter Tryz.func115, Tryz.ntmps115
    go_wp2
    go_ret
    exact ⟨ret_bool (by unfold smallB; rw [h1, Bool.false_and]), rfl⟩
theorem l01Small_any (c : Int) (w : World) : Calls Tryz.prog 124 #[.int .u8 c] w fun e w' => e = .returned (.bool (smallB c)) ∧ w = w' := by
  by_cases h : 97 ≤ c
  · have h1 : decide (97 ≤ c) = true := by simpa using h
    go_enter Tryz.func124, Tryz.ntmps124
    go_wp2
    go_ret
    exact ⟨ret_bool (by unfold smallB; rw [h1, Bool.true_and]), rfl⟩
  · have h1 : decide (97 ≤ c) = false := by simpa using h
    go_enter Tryz.func124, Tryz.ntmps124
    go_wp2
    go_ret
    exact ⟨ret_bool (by unfold smallB; rw [h1, Bool.false_and]), rfl⟩
theorem isDigit_any (c : Int) (w : World) : Calls Tryz.prog 116 #[.int .u8 c] w fun e w' => e = .returned (.bool (digB c)) ∧ w = w' := by
  by_cases h : 48 ≤ c
  · have h1 : decide (48 ≤ c) = true := by simpa using h
    go_enter Tryz.func116, Tryz.ntmps116
    go_wp2
    go_ret
    exact ⟨ret_bool (by unfold digB; rw [h1, Bool.true_and]), rfl⟩
  · have h1 : decide (48 ≤ c) = false := by simpa using h
    go_enter Tryz.func116, Tryz.ntmps116
    go_wp2
    go_ret
    exact ⟨ret_bool (by unfold digB; rw [h1, Bool.false_and]), rfl⟩
theorem l01Digit_any (c : Int) (w : World) : Calls Tryz.prog 125 #[.int .u8 c] w fun e w' => e = .returned (.bool (digB c)) ∧ w = w' := by
  by_cases h : 48 ≤ c
  · have h1 : decide (48 ≤ c) = true := by simpa using h
    go_enter Tryz.func125, Tryz.ntmps125
    go_wp2
    go_ret
    exact ⟨ret_bool (by unfold digB; rw [h1, Bool.true_and]), rfl⟩
  · have h1 : decide (48 ≤ c) = false := by simpa using h
    go_enter Tryz.func125, Tryz.ntmps125
    go_wp2
    go_ret
    exact ⟨ret_bool (by unfold digB; rw [h1, Bool.false_and]), rfl⟩
/-- A byte that may stand in a name. -/
def nmCh (c : UInt8) : Bool := smallB c.toNat || (digB c.toNat || decide ((c.toNat : Int) = 45))
def nameB (s : ByteArray) : Bool := decide (1 ≤ s.size) && (decide (s.size ≤ 12) && (smallB (s.data.toList.headD 0).toNat && s.data.toList.all nmCh))
theorem bytes_get {s : ByteArray} {k : Nat} (h : k < s.size) : s.data.toList[k]? = some s[k] := by
  have hl : s.data.toList.length = s.size := by cases s; rfl
  rw [List.getElem?_eq_getElem (by omega)]
  rfl
theorem bytes_head {s : ByteArray} (h : 0 < s.size) : s.data.toList.headD 0 = s[0] := by
  have := bytes_get h
  rw [← List.head?_eq_getElem?] at this
  simp [List.headD_eq_head?_getD, this]
theorem all_step {s : ByteArray} {k : Nat} (h : k < s.size) : (s.data.toList.drop k).all nmCh = (nmCh s[k] && (s.data.toList.drop (k + 1)).all nmCh) := by
  have hl : s.data.toList.length = s.size := by cases s; rfl
  have hg := bytes_get h
  obtain ⟨h1, h2⟩ := List.getElem?_eq_some_iff.1 hg
  rw [List.drop_eq_getElem_cons h1, List.all_cons, h2]
theorem all_end {s : ByteArray} {k : Nat} (h : ¬ k < s.size) : (s.data.toList.drop k).all nmCh = true := by
  have hl : s.data.toList.length = s.size := by cases s; rfl
  rw [List.drop_eq_nil_of_le (by omega)]
  rfl
set_option maxHeartbeats 1000000 in
theorem iIsName_any (s : ByteArray) (w : World) (hs : s.size ≤ maxLen) : Calls Tryz.prog 75 #[.string s] w fun e w' => e = .returned (.bool (nameB s)) ∧ w = w' := by
  unfold maxLen at hs
  by_cases h1 : 1 ≤ s.size
  · have z1 : (s.toList == []) = false := by
      rw [ByteArray.toList_eq, beq_eq_false_iff_ne]
      intro e
      have hl : s.data.toList.length = s.size := by cases s; rfl
      rw [e] at hl
      simp at hl
      omega
    by_cases h2 : s.size ≤ 12
    · have hh := bytes_head (s := s) (by omega)
      cases h3 : smallB (s[0]'(by omega)).toNat
      · have e : nameB s = false := by
          unfold nameB
          rw [hh, h3, Bool.false_and, Bool.and_false, Bool.and_false]
        rw [e]
        clear e hh
        have h0 : 0 < s.size := by omega
        go_enter Tryz.func75, Tryz.ntmps75
        go_wp2_with (first | (go_at_call 115; refine (isSmall_any _ _).mono ?_; rintro e w' ⟨rfl, rfl⟩))
        go_ret
        exact ⟨rfl, rfl⟩
      · obtain ⟨R, hR⟩ : ∃ R, s.data.toList.all nmCh = R := ⟨_, rfl⟩
        have e : nameB s = R := by
          unfold nameB
          rw [hh, h3, Bool.true_and, decide_eq_true h1, decide_eq_true h2, Bool.true_and, Bool.true_and, hR]
        rw [e]
        clear e hh
        have HR : Hid ((s.data.toList.drop 0).all nmCh = R) := hR
        clear hR
        have h0 : 0 < s.size := by omega
        go_enter Tryz.func75, Tryz.ntmps75
        go_wp2_with (first | (go_at_call 115; refine (isSmall_any _ _).mono ?_; rintro e w' ⟨rfl, rfl⟩))
        clear h3
        go_loop [21] (fun t => ∃ k : Nat, k ≤ s.size ∧ t = .int .i64 k ∧ Hid ((s.data.toList.drop k).all nmCh = R)) (fun t => s.size - (intOf t).toNat)
        case atStart => exact ⟨0, by omega, rfl, HR.out⟩
        case round =>
          obtain ⟨k, hk, rfl, HK⟩ := hrel
          clear HR
          by_cases hlt : k < s.size
          · have HS := Lib.hid (all_step hlt)
            cases g1 : smallB (s[k]).toNat
            · cases g2 : digB (s[k]).toNat
              · by_cases g3 : ((s[k]).toNat : Int) = 45
                · have g4 : (((s[k]).toNat : Int) != 45) = false := by simpa using g3
                  have HE : Hid ((s.data.toList.drop (k + 1)).all nmCh = R) := by
                    have h := HK.out
                    rw [HS.out, nmCh, g1, g2, decide_eq_true g3] at h
                    exact h
                  clear g3
                  go_wp2_with (first | (go_at_call 115; refine (isSmall_any _ _).mono ?_; rintro e w' ⟨rfl, rfl⟩) | (go_at_call 116; refine (isDigit_any _ _).mono ?_; rintro e w' ⟨rfl, rfl⟩))
                  go_round
                  case rel => exact ⟨k + 1, by omega, by go_num, HE.out⟩
                  case measure => simp [intOf]; omega
                · have g4 : (((s[k]).toNat : Int) != 45) = true := by simpa using g3
                  have HE : Hid (R = false) := by
                    have h := HK.out
                    rw [HS.out, nmCh, g1, g2, decide_eq_false g3] at h
                    exact h.symm
                  clear g3
                  go_wp2_with (first | (go_at_call 115; refine (isSmall_any _ _).mono ?_; rintro e w' ⟨rfl, rfl⟩) | (go_at_call 116; refine (isDigit_any _ _).mono ?_; rintro e w' ⟨rfl, rfl⟩))
                  go_ret
                  exact ⟨ret_bool HE.out.symm, rfl⟩
              · have HE : Hid ((s.data.toList.drop (k + 1)).all nmCh = R) := by
                  have h := HK.out
                  rw [HS.out, nmCh, g1, g2] at h
                  unfold Hid
                  simpa using h
                go_wp2_with (first | (go_at_call 115; refine (isSmall_any _ _).mono ?_; rintro e w' ⟨rfl, rfl⟩) | (go_at_call 116; refine (isDigit_any _ _).mono ?_; rintro e w' ⟨rfl, rfl⟩))
                go_round
                case rel => exact ⟨k + 1, by omega, by go_num, HE.out⟩
                case measure => simp [intOf]; omega
            · have HE : Hid ((s.data.toList.drop (k + 1)).all nmCh = R) := by
                have h := HK.out
                rw [HS.out, nmCh, g1] at h
                unfold Hid
                simpa using h
              go_wp2_with (first | (go_at_call 115; refine (isSmall_any _ _).mono ?_; rintro e w' ⟨rfl, rfl⟩) | (go_at_call 116; refine (isDigit_any _ _).mono ?_; rintro e w' ⟨rfl, rfl⟩))
              go_round
              case rel => exact ⟨k + 1, by omega, by go_num, HE.out⟩
              case measure => simp [intOf]; omega
          · have HE : Hid (R = true) := HK.out.symm.trans (all_end hlt)
            go_wp2
            go_ret
            exact ⟨ret_bool HE.out.symm, rfl⟩
    · have e : nameB s = false := by
        unfold nameB
        rw [decide_eq_false h2, Bool.false_and, Bool.and_false]
      rw [e]
      clear e
      go_enter Tryz.func75, Tryz.ntmps75
      go_wp2
      go_ret
      exact ⟨rfl, rfl⟩
  · have e : nameB s = false := by
      unfold nameB
      rw [decide_eq_false h1, Bool.false_and]
    rw [e]
    clear e
    have z1 : (s.toList == []) = true := by
      rw [ByteArray.toList_eq]
      have hl : s.data.toList.length = s.size := by cases s; rfl
      rw [List.eq_nil_of_length_eq_zero (by omega : s.data.toList.length = 0)]
      rfl
    go_enter Tryz.func75, Tryz.ntmps75
    go_wp2
    go_ret
    exact ⟨rfl, rfl⟩
set_option maxHeartbeats 1000000 in
theorem sIsName_any (s : ByteArray) (w : World) (hs : s.size ≤ maxLen) : Calls Tryz.prog 85 #[.string s] w fun e w' => e = .returned (.bool (nameB s)) ∧ w = w' := by
  unfold maxLen at hs
  by_cases h1 : 1 ≤ s.size
  · have z1 : (s.toList == []) = false := by
      rw [ByteArray.toList_eq, beq_eq_false_iff_ne]
      intro e
      have hl : s.data.toList.length = s.size := by cases s; rfl
      rw [e] at hl
      simp at hl
      omega
    by_cases h2 : s.size ≤ 12
    · have hh := bytes_head (s := s) (by omega)
      cases h3 : smallB (s[0]'(by omega)).toNat
      · have e : nameB s = false := by
          unfold nameB
          rw [hh, h3, Bool.false_and, Bool.and_false, Bool.and_false]
        rw [e]
        clear e hh
        have h0 : 0 < s.size := by omega
        go_enter Tryz.func85, Tryz.ntmps85
        go_wp2_with (first | (go_at_call 124; refine (l01Small_any _ _).mono ?_; rintro e w' ⟨rfl, rfl⟩))
        go_ret
        exact ⟨rfl, rfl⟩
      · obtain ⟨R, hR⟩ : ∃ R, s.data.toList.all nmCh = R := ⟨_, rfl⟩
        have e : nameB s = R := by
          unfold nameB
          rw [hh, h3, Bool.true_and, decide_eq_true h1, decide_eq_true h2, Bool.true_and, Bool.true_and, hR]
        rw [e]
        clear e hh
        have HR : Hid ((s.data.toList.drop 0).all nmCh = R) := hR
        clear hR
        have h0 : 0 < s.size := by omega
        go_enter Tryz.func85, Tryz.ntmps85
        go_wp2_with (first | (go_at_call 124; refine (l01Small_any _ _).mono ?_; rintro e w' ⟨rfl, rfl⟩))
        clear h3
        go_loop [3] (fun t => ∃ k : Nat, k ≤ s.size ∧ t = .int .i64 k ∧ Hid ((s.data.toList.drop k).all nmCh = R)) (fun t => s.size - (intOf t).toNat)
        case atStart => exact ⟨0, by omega, rfl, HR.out⟩
        case round =>
          obtain ⟨k, hk, rfl, HK⟩ := hrel
          clear HR
          by_cases hlt : k < s.size
          · have HS := Lib.hid (all_step hlt)
            cases g1 : smallB (s[k]).toNat
            · cases g2 : digB (s[k]).toNat
              · by_cases g3 : ((s[k]).toNat : Int) = 45
                · have g4 : (((s[k]).toNat : Int) != 45) = false := by simpa using g3
                  have HE : Hid ((s.data.toList.drop (k + 1)).all nmCh = R) := by
                    have h := HK.out
                    rw [HS.out, nmCh, g1, g2, decide_eq_true g3] at h
                    exact h
                  clear g3
                  go_wp2_with (first | (go_at_call 124; refine (l01Small_any _ _).mono ?_; rintro e w' ⟨rfl, rfl⟩) | (go_at_call 125; refine (l01Digit_any _ _).mono ?_; rintro e w' ⟨rfl, rfl⟩))
                  go_round
                  case rel => exact ⟨k + 1, by omega, by go_num, HE.out⟩
                  case measure => simp [intOf]; omega
                · have g4 : (((s[k]).toNat : Int) != 45) = true := by simpa using g3
                  have HE : Hid (R = false) := by
                    have h := HK.out
                    rw [HS.out, nmCh, g1, g2, decide_eq_false g3] at h
                    exact h.symm
                  clear g3
                  go_wp2_with (first | (go_at_call 124; refine (l01Small_any _ _).mono ?_; rintro e w' ⟨rfl, rfl⟩) | (go_at_call 125; refine (l01Digit_any _ _).mono ?_; rintro e w' ⟨rfl, rfl⟩))
                  go_ret
                  exact ⟨ret_bool HE.out.symm, rfl⟩
              · have HE : Hid ((s.data.toList.drop (k + 1)).all nmCh = R) := by
                  have h := HK.out
                  rw [HS.out, nmCh, g1, g2] at h
                  unfold Hid
                  simpa using h
                go_wp2_with (first | (go_at_call 124; refine (l01Small_any _ _).mono ?_; rintro e w' ⟨rfl, rfl⟩) | (go_at_call 125; refine (l01Digit_any _ _).mono ?_; rintro e w' ⟨rfl, rfl⟩))
                go_round
                case rel => exact ⟨k + 1, by omega, by go_num, HE.out⟩
                case measure => simp [intOf]; omega
            · have HE : Hid ((s.data.toList.drop (k + 1)).all nmCh = R) := by
                have h := HK.out
                rw [HS.out, nmCh, g1] at h
                unfold Hid
                simpa using h
              go_wp2_with (first | (go_at_call 124; refine (l01Small_any _ _).mono ?_; rintro e w' ⟨rfl, rfl⟩) | (go_at_call 125; refine (l01Digit_any _ _).mono ?_; rintro e w' ⟨rfl, rfl⟩))
              go_round
              case rel => exact ⟨k + 1, by omega, by go_num, HE.out⟩
              case measure => simp [intOf]; omega
          · have HE : Hid (R = true) := HK.out.symm.trans (all_end hlt)
            go_wp2
            go_ret
            exact ⟨ret_bool HE.out.symm, rfl⟩
    · have e : nameB s = false := by
        unfold nameB
        rw [decide_eq_false h2, Bool.false_and, Bool.and_false]
      rw [e]
      clear e
      go_enter Tryz.func85, Tryz.ntmps85
      go_wp2
      go_ret
      exact ⟨rfl, rfl⟩
  · have e : nameB s = false := by
      unfold nameB
      rw [decide_eq_false h1, Bool.false_and]
    rw [e]
    clear e
    have z1 : (s.toList == []) = true := by
      rw [ByteArray.toList_eq]
      have hl : s.data.toList.length = s.size := by cases s; rfl
      rw [List.eq_nil_of_length_eq_zero (by omega : s.data.toList.length = 0)]
      rfl
    go_enter Tryz.func85, Tryz.ntmps85
    go_wp2
    go_ret
    exact ⟨rfl, rfl⟩
/-- Terms that are valid: each is in its range. -/
def tmB (i : Nat) (x : Int) : Bool := inR x (if i = 0 then -1000000000 else 1) 1000000000
def termsAll : Nat → List Int → Bool
  | _, [] => true
  | i, x :: xs => tmB i x && termsAll (i + 1) xs
def termsB (ts : List Int) : Bool := termsAll 0 ts && inR ts.length 1 60
theorem termsAll_step {xs : List Int} {k : Nat} {x : Int} (h : xs[k]? = some x) : termsAll k (xs.drop k) = (tmB k x && termsAll (k + 1) (xs.drop (k + 1))) := by
  obtain ⟨h1, h2⟩ := List.getElem?_eq_some_iff.1 h
  rw [List.drop_eq_getElem_cons h1, h2]; rfl
theorem termsAll_end {xs : List Int} {k : Nat} (h : ¬ k < xs.length) : termsAll k (xs.drop k) = true := by
  rw [List.drop_eq_nil_of_le (by omega)]; rfl
set_option maxHeartbeats 1000000 in
theorem l03Ok_any (A : Option Addr) (c : Nat) (xs : List Int) (w : World) (hx : Rd (Value.int .i64) w w.heap.size A xs) (hm : xs.length ≤ maxLen) :
    Calls Tryz.prog 87 #[.slice A xs.length c] w fun e w' => e = .returned (.bool (termsB xs)) ∧ w = w' := by
  unfold maxLen at hm
  obtain ⟨R, hR⟩ : ∃ R, termsAll 0 xs = R := ⟨_, rfl⟩
  have e : termsB xs = (R && inR xs.length 1 60) := by rw [termsB, hR]
  rw [e]
  clear e
  have HR : Hid (termsAll 0 (xs.drop 0) = R) := hR
  clear hR
  go_enter Tryz.func87, Tryz.ntmps87
  go_wp2_with fail
  go_loop [3] (fun t => ∃ k : Nat, k ≤ xs.length ∧ t = .int .i64 k ∧ Hid (termsAll k (xs.drop k) = R)) (fun t => xs.length - (intOf t).toNat)
  case atStart => exact ⟨0, by omega, rfl, HR.out⟩
  case round =>
    obtain ⟨k, hk, rfl, HK⟩ := hrel
    clear HR
    by_cases hlt : k < xs.length
    · obtain ⟨b, off, rfl, hb, hc⟩ := hx (by omega)
      obtain ⟨x, hxk⟩ : ∃ x, xs[k]? = some x := ⟨_, List.getElem?_eq_getElem hlt⟩
      have c1 := hc k x hxk
      have HS := Lib.hid (termsAll_step hxk)
      clear hc hxk
      have i0 : (0 : Int) ≤ (k : Int) := by omega
      have i1 : (k : Int) < (xs.length : Int) := by omega
      cases ht : tmB k x
      · have HE : Hid (R = false) := by
          have h := HK.out
          rw [HS.out, ht] at h
          exact h.symm
        unfold tmB at ht
        by_cases h0 : k = 0
        · have h1 : ((k : Int) == 0) = true := by simp [h0]
          rw [if_pos h0] at ht
          clear h0
          go_wp2_with (go_at_call 126; refine (l00In_is ht _).mono ?_; rintro e w' ⟨rfl, rfl⟩)
          go_ret
          exact ⟨ret_bool (by rw [HE.out]; rfl), rfl⟩
        · have h1 : ((k : Int) == 0) = false := by simp [h0]
          rw [if_neg h0] at ht
          clear h0
          go_wp2_with (go_at_call 126; refine (l00In_is ht _).mono ?_; rintro e w' ⟨rfl, rfl⟩)
          go_ret
          exact ⟨ret_bool (by rw [HE.out]; rfl), rfl⟩
      · have HE : Hid (termsAll (k + 1) (xs.drop (k + 1)) = R) := by
          have h := HK.out
          rw [HS.out, ht] at h
          exact h
        unfold tmB at ht
        by_cases h0 : k = 0
        · have h1 : ((k : Int) == 0) = true := by simp [h0]
          rw [if_pos h0] at ht
          clear h0
          go_wp2_with (go_at_call 126; refine (l00In_is ht _).mono ?_; rintro e w' ⟨rfl, rfl⟩)
          go_round
          case rel => exact ⟨k + 1, by omega, by go_num, HE.out⟩
          case measure => simp [intOf]; omega
        · have h1 : ((k : Int) == 0) = false := by simp [h0]
          rw [if_neg h0] at ht
          clear h0
          go_wp2_with (go_at_call 126; refine (l00In_is ht _).mono ?_; rintro e w' ⟨rfl, rfl⟩)
          go_round
          case rel => exact ⟨k + 1, by omega, by go_num, HE.out⟩
          case measure => simp [intOf]; omega
    · have HE : Hid (R = true) := HK.out.symm.trans (termsAll_end hlt)
      go_wp2_with (go_at_call 126; refine (l00In_any _ _ _ _).mono ?_; rintro e w' ⟨rfl, rfl⟩)
      go_ret
      exact ⟨ret_bool (by rw [HE.out]; rfl), rfl⟩
/-- The index of the first element that p takes; -1 if there is none. -/
def ixP (p : Int → Bool) : List Int → Nat → Int
  | [], _ => -1
  | x :: xs, i => if p x = true then i else ixP p xs (i + 1)
theorem ixP_all (p : Int → Bool) : ∀ (xs : List Int) (i : Nat), decide (0 ≤ ixP p xs i) = xs.any p
  | [], _ => rfl
  | x :: xs, i => by
    unfold ixP
    cases h : p x
    · rw [if_neg (by simp), ixP_all p xs (i + 1), List.any_cons, h, Bool.false_or]
    · rw [if_pos rfl, List.any_cons, h, Bool.true_or, decide_eq_true (by omega)]
theorem ixP_step {p : Int → Bool} {xs : List Int} {k : Nat} {x : Int} (h : xs[k]? = some x) : ixP p (xs.drop k) k = if p x = true then (k : Int) else ixP p (xs.drop (k + 1)) (k + 1) := by
  obtain ⟨h1, h2⟩ := List.getElem?_eq_some_iff.1 h
  rw [List.drop_eq_getElem_cons h1, h2]; rfl
theorem ixP_end {p : Int → Bool} {xs : List Int} {k : Nat} (h : ¬ k < xs.length) : ixP p (xs.drop k) k = -1 := by
  rw [List.drop_eq_nil_of_le (by omega)]; rfl
set_option maxHeartbeats 1000000 in
theorem indexFuncVT_any (p : Int → Bool) (HF : Hid (∀ x W, Calls Tryz.prog 120 #[.int .i64 x] W fun e w' => e = .returned (.bool (p x)) ∧ W = w')) (A : Option Addr) (c : Nat) (xs : List Int) (w : World) (hx : Rd (Value.int .i64) w w.heap.size A xs) (hm : xs.length ≤ maxLen) :
    Calls Tryz.prog 151 #[.slice A xs.length c, .func (Fn.func 120) #[] #[]] w fun e w' => e = .returned (.int .i64 (ixP p xs 0)) ∧ w = w' := by
  unfold maxLen at hm
  obtain ⟨R, hR⟩ : ∃ R, ixP p xs 0 = R := ⟨_, rfl⟩
  rw [hR]
  have HR : Hid (ixP p (xs.drop 0) 0 = R) := hR
  clear hR
  go_enter Tryz.func151, Tryz.ntmps151
  go_wp2_with fail
  go_loop [8] (fun t => ∃ k : Nat, k ≤ xs.length ∧ t = .int .i64 k ∧ Hid (ixP p (xs.drop k) k = R)) (fun t => xs.length - (intOf t).toNat)
  case atStart => exact ⟨0, by omega, rfl, HR.out⟩
  case round =>
    obtain ⟨k, hk, rfl, HK⟩ := hrel
    clear HR
    by_cases hlt : k < xs.length
    · obtain ⟨b, off, rfl, hb, hc⟩ := hx (by omega)
      obtain ⟨x, hxk⟩ : ∃ x, xs[k]? = some x := ⟨_, List.getElem?_eq_getElem hlt⟩
      have c1 := hc k x hxk
      have HS := Lib.hid (ixP_step (p := p) hxk)
      clear hc hxk
      have i0 : (0 : Int) ≤ (k : Int) := by omega
      have i1 : (k : Int) < (xs.length : Int) := by omega
      have HC := Lib.hid (HF.out x)
      cases hp : p x
      · have HE : Hid (ixP p (xs.drop (k + 1)) (k + 1) = R) := by
          have h := HK.out
          rw [HS.out, hp, if_neg (by simp)] at h
          exact h
        rw [hp] at HC
        clear hp
        go_wp2_with fail
        refine (HC.out _).mono ?_
        rintro e w' ⟨rfl, rfl⟩
        go_wp2
        go_round
        case rel => exact ⟨k + 1, by omega, by go_num, HE.out⟩
        case measure => simp [intOf]; omega
      · have HE : Hid ((k : Int) = R) := by
          have h := HK.out
          rw [HS.out, hp, if_pos rfl] at h
          exact h
        rw [hp] at HC
        clear hp
        go_wp2_with fail
        refine (HC.out _).mono ?_
        rintro e w' ⟨rfl, rfl⟩
        go_wp2
        go_ret
        exact ⟨ret_int HE.out, rfl⟩
    · have HE : Hid (-1 = R) := (ixP_end hlt).symm.trans HK.out
      go_wp2
      go_ret
      exact ⟨ret_int HE.out, rfl⟩
theorem containsFuncVT_any (p : Int → Bool) (HF : Hid (∀ x W, Calls Tryz.prog 120 #[.int .i64 x] W fun e w' => e = .returned (.bool (p x)) ∧ W = w')) (A : Option Addr) (c : Nat) (xs : List Int) (w : World) (hx : Rd (Value.int .i64) w w.heap.size A xs) (hm : xs.length ≤ maxLen) :
    Calls Tryz.prog 119 #[.slice A xs.length c, .func (Fn.func 120) #[] #[]] w fun e w' => e = .returned (.bool (xs.any p)) ∧ w = w' := by
  have HC : Hid (∀ W, w = W → Calls Tryz.prog 151 #[.slice A xs.length c, .func (Fn.func 120) #[] #[]] W fun e w' => e = .returned (.int .i64 (ixP p xs 0)) ∧ W = w') := fun W hW => by subst hW; exact indexFuncVT_any p HF A c xs w hx hm
  rw [← ixP_all p xs 0]
  generalize ixP p xs 0 = z at *
  go_enter Tryz.func119, Tryz.ntmps119
  go_wp2_with fail
  refine (HC.out _ rfl).mono ?_
  rintro e w' ⟨rfl, rfl⟩
  go_wp2
  go_ret
  exact ⟨rfl, rfl⟩
theorem vtF_any (x : Int) (w : World) : Calls Tryz.prog 120 #[.int .i64 x] w fun e w' => e = .returned (.bool (!inR x 1 1000000000)) ∧ w = w' := by
  go_enter Tryz.func120, Tryz.ntmps120
  go_wp2_with (go_at_call 117; refine (within_any _ _ _ _).mono ?_; rintro e w' ⟨rfl, rfl⟩)
  go_ret
  exact ⟨rfl, rfl⟩
theorem termsAll_tail : ∀ (xs : List Int) (i : Nat), 0 < i → termsAll i xs = !xs.any fun x => !inR x 1 1000000000
  | [], _, _ => rfl
  | x :: xs, i, h => by
    unfold termsAll
    rw [termsAll_tail xs (i + 1) (by omega), List.any_cons, tmB, if_neg (by omega)]
    cases inR x 1 1000000000 <;> simp
set_option maxHeartbeats 1000000 in
theorem ValidTerms_any (A : Option Addr) (c : Nat) (xs : List Int) (w : World) (hx : RdC w w.heap.size A c xs) (hm : xs.length ≤ maxLen) :
    Calls Tryz.prog 77 #[.slice A xs.length c] w fun e w' => e = .returned (.bool (termsB xs)) ∧ w = w' := by
  obtain ⟨hx, hc1, hc2⟩ := hx
  have hm' := hm
  unfold maxLen at hm' hc2
  cases hl : inR xs.length 1 60
  · have e : termsB xs = false := by rw [termsB, hl, Bool.and_false]
    rw [e]
    clear e
    go_enter Tryz.func77, Tryz.ntmps77
    go_wp2_with (first | (go_at_call 103; refine (size64N_any _ _ _ _).mono ?_; rintro e w' ⟨rfl, rfl⟩) | (go_at_call 117; refine (within_is hl _).mono ?_; rintro e w' ⟨rfl, rfl⟩))
    go_ret
    exact ⟨rfl, rfl⟩
  · obtain ⟨n1, n2⟩ := inR_true.1 hl
    obtain ⟨b, off, rfl, hb, hc⟩ := hx (by omega)
    match xs, hl with
    | [], hl => simp at n1
    | x :: ys, hl =>
      have c0 := hc 0 x rfl
      rw [Nat.add_zero] at c0
      have hr : Rd (Value.int .i64) w w.heap.size (some ⟨b, off + 1, none⟩) ys := fun _ => ⟨b, off + 1, rfl, hb, fun j y hj => by
        rw [Nat.add_assoc, Nat.add_comm 1 j]
        exact hc (j + 1) y (by simpa using hj)⟩
      cases hx0 : inR x (-1000000000) 1000000000
      · have e : termsB (x :: ys) = false := by
          rw [termsB, termsAll, tmB, if_pos rfl, hx0, Bool.false_and, Bool.false_and]
        rw [e]
        clear e hc
        go_enter Tryz.func77, Tryz.ntmps77
        go_wp2_with fail
        refine (size64N_any _ _ _ _).mono ?_
        rintro e w' ⟨rfl, rfl⟩
        go_wp2_with fail
        refine (within_is hl _).mono ?_
        rintro e w' ⟨rfl, rfl⟩
        go_wp2_with fail
        refine (within_is hx0 _).mono ?_
        rintro e w' ⟨rfl, rfl⟩
        go_wp2
        go_ret
        exact ⟨rfl, rfl⟩
      · have e : termsB (x :: ys) = !ys.any fun x => !inR x 1 1000000000 := by
          rw [termsB, termsAll, tmB, if_pos rfl, hx0, hl, Bool.true_and, Bool.and_true, termsAll_tail _ _ (by omega)]
        rw [e]
        clear e hc
        have hys : ys.length ≤ maxLen := by have : (x :: ys).length = ys.length + 1 := rfl; omega
        have HV : Hid (∀ x W, Calls Tryz.prog 120 #[.int .i64 x] W fun e w' => e = .returned (.bool (!inR x 1 1000000000)) ∧ W = w') := vtF_any
        have hcy : ys.length + 1 ≤ c := hc1
        have HC : Hid (∀ A k, (A = some ⟨b, off + 1, none⟩ ∨ ys.length ≤ 0) → Calls Tryz.prog 119 #[.slice A ys.length k, .func (Fn.func 120) #[] #[]] w fun e w' => e = .returned (.bool (ys.any fun x => !inR x 1 1000000000)) ∧ w = w') := fun A k h =>
          containsFuncVT_any _ HV A k ys w (by
            rcases h with rfl | h
            · exact hr
            · exact fun hp => absurd hp (by omega)) hys
        clear hr HV
        go_enter Tryz.func77, Tryz.ntmps77
        go_wp2_with fail
        refine (size64N_any _ _ _ _).mono ?_
        rintro e w' ⟨rfl, rfl⟩
        go_wp2_with fail
        refine (within_is hl _).mono ?_
        rintro e w' ⟨rfl, rfl⟩
        go_wp2_with fail
        refine (within_is hx0 _).mono ?_
        rintro e w' ⟨rfl, rfl⟩
        by_cases hc3 : 1 < c
        · go_wp2_with fail
          refine (HC.out _ _ (.inl rfl)).mono ?_
          rintro e w' ⟨rfl, rfl⟩
          go_wp2
          go_ret
          exact ⟨rfl, rfl⟩
        · have hc4 : c = 1 := by omega
          obtain rfl : ys = [] := List.eq_nil_of_length_eq_zero (by omega)
          subst hc4
          have HC2 : Hid (∀ A k, Calls Tryz.prog 119 #[.slice A 0 k, .func (Fn.func 120) #[] #[]] w fun e w' => e = .returned (.bool false) ∧ w = w') := fun A k => HC.out A k (.inr (by simp))
          clear HC hc1 hcy hys hx
          go_wp2_with fail
          refine (HC2.out _ _).mono ?_
          rintro e w' ⟨rfl, rfl⟩
          go_wp2
          go_ret
          exact ⟨rfl, rfl⟩
end Go.Proofs.YtpnabggpdgjbmaaGreatDoor
