/- Parts of the proof, merged: NumW DeskW SplW RdsW. No condition but those that each theorem names. -/
import Derived.Test.YtpnabggpdgjbmaaGreatDoorMgBB
import Derived.Test.YtpnabggpdgjbmaaGreatDoorMgAS
import Derived.Test.YtpnabggpdgjbmaaGreatDoorMgAG
import Derived.Lib.AtoiErrMem
import Derived.Deep.DeepCutAuto
import Derived.Test.YtpnabggpdgjbmaaGreatDoorMgAN
import Derived.Deep.LoopGhost
namespace Go.Proofs.YtpnabggpdgjbmaaGreatDoor
open Go.RowKit Go.Sort
/-- What the parsers' walks ask of the program's variables: the table of powers of ten, bytealg's bound, strconv's two errors. -/
structure Vars (w : World) : Prop where
  tab : Tab10 w
  len : ∃ m, w.cell? ⟨0, 0, none⟩ = some (.int .i64 m)
  syn : ∃ t p, w.cell? ⟨5, 0, none⟩ = some (.iface t p)
  rng : ∃ t p, w.cell? ⟨6, 0, none⟩ = some (.iface t p)
theorem Vars.next {w W : World} (h : Vars w) (hb : Below w.heap.size w W) : Vars W := by
  obtain ⟨h1, ⟨m, h2⟩, ⟨t, p, h3⟩, ⟨t', p', h4⟩⟩ := h
  exact ⟨h1.next hb, ⟨m, (hb.cell (p := ⟨_, 0, none⟩) (Lib.lt_of_cell h2)).trans h2⟩, ⟨t, p, (hb.cell (p := ⟨_, 0, none⟩) (Lib.lt_of_cell h3)).trans h3⟩, ⟨t', p', (hb.cell (p := ⟨_, 0, none⟩) (Lib.lt_of_cell h4)).trans h4⟩⟩
theorem strEqB {a b : ByteArray} (h : a = b) : (a.toList == b.toList) = true := by rw [h]; exact beq_self_eq_true _
theorem strNeB {a b : ByteArray} (h : ¬ a = b) : (a.toList == b.toList) = false := by
  rw [beq_eq_false_iff_ne]
  intro e
  rw [ByteArray.toList_eq, ByteArray.toList_eq] at e
  refine h ?_
  obtain ⟨⟨x⟩⟩ := a
  obtain ⟨⟨y⟩⟩ := b
  simp at e
  rw [e]
theorem bytesW_below (w : World) (e : TypeId) (s : ByteArray) : Below w.heap.size w (Lib.bytesWorld w e s) := by
  exact Lib.bytesWorld_below w e s
theorem trim_ex (s : ByteArray) : ∃ T neg, CutS s T neg ∧ Lib.trimPrefix s.data.toList [45] = T.data.toList ∧ T.size ≤ s.size := by
  by_cases h : ∃ h : 0 < s.size, s[0] = 45
  · obtain ⟨h0, h1⟩ := h
    obtain ⟨a, b, c⟩ := cut_neg h0 h1
    exact ⟨_, _, a, c, by omega⟩
  · obtain ⟨a, b⟩ := cut_pos (s := s) (fun h0 h1 => h ⟨h0, h1⟩)
    exact ⟨_, _, a, b, Nat.le_refl _⟩
set_option maxHeartbeats 2000000 in
theorem iReadDecimal_any (s : ByteArray) (w : World) (hs : s.size ≤ 281474976710656) (hV : Vars w) :
    Calls Tryz.prog 133 #[.string s] w fun e w' => e = .returned (.tuple #[.int .i64 (numN s), .bool (numK s)]) ∧ Below w.heap.size w w' := by
  obtain ⟨T, neg, hcut, htr, hts⟩ := trim_ex s
  have HT : Hid (∀ W, Calls Tryz.prog 161 #[.string s, .string ⟨#[45]⟩] W fun e w' => e = .returned (.string T) ∧ W = w') := fun W => by
    refine (Tryz.strings_TrimPrefix s ⟨#[45]⟩ W).mono ?_
    rintro e w' ⟨rfl, rfl⟩
    refine ⟨?_, rfl⟩
    show Ending.returned (.string ⟨(Lib.trimPrefix s.data.toList [45]).toArray⟩) = _
    rw [htr, back_bytes]
  by_cases h18 : 18 < T.size
  · obtain ⟨e1, e2⟩ := num_none_ (num_no hcut (Or.inr h18))
    rw [e1, e2]
    have hlt : (18 : Int) < (T.size : Int) := by omega
    clear hcut htr e1 e2 h18 hV
    go_enter Tryz.func133, Tryz.ntmps133
    go_wp2_with fail
    refine (HT.out _).mono ?_
    rintro e w1 ⟨rfl, rfl⟩
    go_wp2
    go_ret2
    exact ⟨rfl, Below.refl _ _⟩
  · have hlt : ¬ (18 : Int) < (T.size : Int) := by omega
    cases hp : Lib.parseIntB 64 s.data.toList with
    | ok v =>
      have HP : Hid (Calls Tryz.prog 162 #[.string s, .int .i64 10, .int .i64 64] w fun e w' => e = .returned (.tuple #[.int .i64 v, .nilIface]) ∧ Below w.heap.size w w') := by
        refine (Tryz.strconv_ParseInt_10_at64_ok s (by omega) v hp w).mono ?_
        rintro e w' ⟨rfl, h⟩
        refine ⟨rfl, ?_⟩
        rcases h with rfl | ⟨t, rfl⟩
        · exact Below.refl _ _
        · exact bytesW_below _ _ _
      have hb64 := Lib.parseIntB_bounds hp
      have e64 : (2 : Nat) ^ (64 - 1) = 9223372036854775808 := by decide
      rw [e64] at hb64
      have HD : Hid (∀ W, Below w.heap.size w W → Calls Tryz.prog 90 #[.int .i64 v] W fun e w' => e = .returned (.string (decB v)) ∧ Below W.heap.size W w') := fun W hb => iDecimal_any v W (by omega) (by omega) (hV.tab.next hb)
      by_cases hd : decB v = s
      · have hn : numB s = some v := by
          refine numB_some.2 ⟨hd, ?_⟩
          have hdat := dec_data v
          rw [hd] at hdat
          have hz : (Lib.decDigits v.natAbs).length ≤ 18 := by
            unfold CutS at hcut
            have h1 := size_list T
            cases neg
            · simp only [Bool.false_eq_true, if_false] at hcut
              rw [hcut.1] at hdat
              have h2 := congrArg List.length hdat
              rw [List.length_append, h1] at h2
              omega
            · simp only [if_true] at hcut
              rw [hcut] at hdat
              by_cases hn : v < 0
              · rw [if_pos hn] at hdat
                simp at hdat
                rw [← hdat, Array.length_toList]
                have : T.data.size = T.size := rfl
                omega
              · rw [if_neg hn] at hdat
                exfalso
                have hm : (45 : UInt8) ∈ Lib.decDigits v.natAbs := by rw [← List.nil_append (Lib.decDigits _), ← hdat]; simp
                have := dec_digit v.natAbs _ (Nat.le_refl _) 45 hm
                simp at this
          rcases Nat.lt_or_ge v.natAbs 1000000000000000000 with g | g
          · exact g
          · have := dec_len_ge 18 v.natAbs (by simpa using g)
            omega
        obtain ⟨e1, e2⟩ := num_some_ hn
        rw [e1, e2]
        have heq := strEqB hd
        generalize decB v = D at *
        clear hcut htr e1 e2 hV hp hn h18 hd hb64 e64
        go_enter Tryz.func133, Tryz.ntmps133
        go_wp2_with fail
        refine (HT.out _).mono ?_
        rintro e w1 ⟨rfl, rfl⟩
        go_wp2_with fail
        refine HP.out.mono ?_
        rintro e w1 ⟨rfl, hb⟩
        go_wp2_with fail
        refine (HD.out _ hb).mono ?_
        rintro e w2 ⟨rfl, hb2⟩
        have hbb := ext_trans hb hb2
        go_wp2
        go_ret2
        exact ⟨rfl, hbb⟩
      · have hn : numB s = none := by unfold numB; rw [hp]; simp [hd]
        obtain ⟨e1, e2⟩ := num_none_ hn
        rw [e1, e2]
        have heq := strNeB hd
        generalize decB v = D at *
        clear hcut htr e1 e2 hV hp hn h18 hd hb64 e64
        go_enter Tryz.func133, Tryz.ntmps133
        go_wp2_with fail
        refine (HT.out _).mono ?_
        rintro e w1 ⟨rfl, rfl⟩
        go_wp2_with fail
        refine HP.out.mono ?_
        rintro e w1 ⟨rfl, hb⟩
        go_wp2_with fail
        refine (HD.out _ hb).mono ?_
        rintro e w2 ⟨rfl, hb2⟩
        have hbb := ext_trans hb hb2
        go_wp2
        go_ret2
        exact ⟨rfl, hbb⟩
    | range =>
      have hn : numB s = none := by unfold numB; rw [hp]
      obtain ⟨e1, e2⟩ := num_none_ hn
      rw [e1, e2]
      obtain ⟨tp, p, hcell⟩ := hV.rng
      have HP := Lib.hid (Tryz.strconv_ParseInt_10_at64_range s hs hp (.iface tp p) w hcell (Or.inr ⟨tp, p, rfl⟩))
      clear hcut htr e1 e2 hV hp hn hcell h18
      go_enter Tryz.func133, Tryz.ntmps133
      go_wp2_with fail
      refine (HT.out _).mono ?_
      rintro e w1 ⟨rfl, rfl⟩
      go_wp2_with fail
      refine HP.out.mono ?_
      rintro e w1 ⟨N, rfl, _, _, hb⟩
      go_wp2
      go_ret2
      exact ⟨rfl, hb⟩
    | _ =>
      have hn : numB s = none := by unfold numB; rw [hp]
      obtain ⟨e1, e2⟩ := num_none_ hn
      rw [e1, e2]
      obtain ⟨tp, p, hcell⟩ := hV.syn
      have HP := Lib.hid (Any.strconv_ParseInt_10_at64_syntax Tryz.laysC174 s hs hp (.iface tp p) w hcell (Or.inr ⟨tp, p, rfl⟩))
      clear hcut htr e1 e2 hV hp hn hcell h18
      go_enter Tryz.func133, Tryz.ntmps133
      go_wp2_with fail
      refine (HT.out _).mono ?_
      rintro e w1 ⟨rfl, rfl⟩
      go_wp2_with fail
      refine HP.out.mono ?_
      rintro e w1 ⟨N, rfl, _, _, hb⟩
      go_wp2
      go_ret2
      exact ⟨rfl, hb⟩
set_option maxHeartbeats 1000000 in
theorem l01Number_empty (s : ByteArray) (w : World) (h0 : s.size = 0) :
    Calls Tryz.prog 141 #[.string s] w fun e w' => e = .returned (.tuple #[.int .i64 (numN s), .bool (numK s)]) ∧ Below w.heap.size w w' := by
  have hl0 := size_list s
  have hc : CutS s s false := (cut_pos (s := s) (fun h => absurd h (by omega))).1
  obtain ⟨e1, e2⟩ := num_none_ (num_no hc (Or.inl h0))
  rw [e1, e2]
  have z1 : (s.toList == []) = true := by
    rw [ByteArray.toList_eq, beq_iff_eq]
    exact List.eq_nil_of_length_eq_zero (by omega)
  have z2 : s.toList.isEmpty = true := by rw [List.isEmpty_iff]; exact beq_iff_eq.1 z1
  have hlt : (s.size : Int) < 1 := by omega
  clear hc e1 e2 hl0
  go_enter Tryz.func141, Tryz.ntmps141
  go_wp2
  go_ret2
  exact ⟨rfl, Below.refl _ _⟩
set_option maxHeartbeats 2000000 in
theorem l01Number_pos (s : ByteArray) (w : World) (h0 : 0 < s.size) (hcut : CutS s s false) (h45 : (((s[0]).toNat : Int) == 45) = false) (hl : s.size ≤ maxLen) :
    Calls Tryz.prog 141 #[.string s] w fun e w' => e = .returned (.tuple #[.int .i64 (numN s), .bool (numK s)]) ∧ Below w.heap.size w w' := by
  unfold maxLen at hl
  have z1 : (s.toList == []) = false := by
    rw [ByteArray.toList_eq, beq_eq_false_iff_ne]
    intro e
    have hl := size_list s
    rw [e] at hl
    simp at hl
    omega
  have z2 : s.toList.isEmpty = false := by rw [List.isEmpty_eq_false_iff]; exact beq_eq_false_iff_ne.1 z1
  by_cases h1 : s.size < 1 ∨ 18 < s.size
  · obtain ⟨e1, e2⟩ := num_none_ (num_no hcut (by omega))
    rw [e1, e2]
    by_cases h2 : s.size < 1
    · have i1 : (s.size : Int) < 1 := by omega
      clear e1 e2 h1 hcut
      go_enter Tryz.func141, Tryz.ntmps141
      go_upto_region 4 with fail
      skip
      go_wp2
      go_ret2
      exact ⟨rfl, Below.refl _ _⟩
    · have i1 : ¬ (s.size : Int) < 1 := by omega
      have i2 : (18 : Int) < (s.size : Int) := by omega
      clear e1 e2 h1 hcut
      go_enter Tryz.func141, Tryz.ntmps141
      go_upto_region 4 with fail
      skip
      go_wp2
      go_ret2
      exact ⟨rfl, Below.refl _ _⟩
  · have i1 : ¬ (s.size : Int) < 1 := by omega
    have i2 : ¬ (18 : Int) < (s.size : Int) := by omega
    have ht18 : s.size ≤ 18 := by omega
    have i3 : ¬ ((s.size:Int)<(s.size:Int)) := by omega
    obtain ⟨R, hR⟩ : ∃ R, vlA 0 s.data.toList = R := ⟨_, rfl⟩
    have HR : Hid (vlA 0 (s.data.toList.drop 0) = R) := hR
    have HBAD : Hid (R = none → numN s = 0 ∧ numK s = false) := fun h => num_none_ (num_bad hcut (by rw [hR, h]))
    have HVAL : Hid (∀ u : Nat, R = some u → numB s = if decB ((u:Int)) = s then some ((u:Int)) else none) := fun u h => num_val hcut ht18 (by rw [hR, h]) rfl
    clear hR hcut h1
    go_enter Tryz.func141, Tryz.ntmps141
    go_upto_region 4 with fail
    skip
    go_wp2_with fail
    go_loop [5, 6] (fun t v => ∃ (k u : Nat), k ≤ s.size ∧ u < 10 ^ k ∧ t = .int .i64 u ∧ v = .int .i64 k ∧ Hid (vlA u (s.data.toList.drop k) = R)) (fun _ v => s.size - (intOf v).toNat)
    case atStart => exact ⟨0, 0, by omega, by decide, rfl, rfl, HR.out⟩
    case round =>
      obtain ⟨k, u, hk, hu, rfl, rfl, HK⟩ := hrel
      clear HR
      by_cases hlt : k < s.size
      · have hpk : (10 : Nat) ^ k ≤ 10 ^ 17 := Nat.pow_le_pow_right (by decide) (by omega)
        have e17 : (10 : Nat) ^ 17 = 100000000000000000 := by decide
        have hpk2 : (10 : Nat) ^ (k + 1) = 10 * 10 ^ k := by rw [Nat.pow_succ, Nat.mul_comm]
        have HS := Lib.hid (vlA_step (u := u) (bytes_get hlt))
        generalize hP : (10 : Nat) ^ k = P at *
        generalize hP2 : (10 : Nat) ^ (k + 1) = P2 at *
        have i0 : (0 : Int) ≤ (k : Int) := by omega
        have i1 : (k : Int) < (s.size : Int) := by omega
        by_cases hdg : 48 ≤ (s[k]).toNat ∧ (s[k]).toNat ≤ 57
        · have hb : digB (s[k]).toNat = true := by
            unfold digB
            rw [Bool.and_eq_true, decide_eq_true_iff, decide_eq_true_iff]
            omega
          have HE : Hid (vlA (10 * u + ((s[k]).toNat - 48)) (s.data.toList.drop (k + 1)) = R) := by
            have h := HK.out
            rw [HS.out, if_pos hdg] at h
            exact h
          obtain ⟨d, hd⟩ : ∃ d : Nat, (s[k]).toNat = 48 + d := ⟨(s[k]).toNat - 48, by omega⟩
          have hd9 : d ≤ 9 := by omega
          rw [hd, show 48 + d - 48 = d by omega] at HE
          have hdi : ((s[k]).toNat : Int) = 48 + (d : Int) := by omega
          have HC : Hid (∀ W, Calls Tryz.prog 125 #[.int .u8 (48 + (d : Int))] W fun e w' => e = .returned (.bool true) ∧ W = w') := fun W => by
            have := l01Digit_any (s[k]).toNat W
            rwa [hb, hdi] at this
          have v1 : IntKind.u8.wrap ((48 : Int) + (d : Int) - 48) = (d : Int) := by simp [IntKind.wrap, IntKind.bits, IntKind.signed]; omega
          have v2 : IntKind.i64.wrap (10 * (u : Int)) = 10 * (u : Int) := IntWalk.i64_in _ (by omega)
          have v3 : IntKind.i64.wrap (d : Int) = (d : Int) := IntWalk.i64_in _ (by omega)
          have v4 : IntKind.i64.wrap (10 * (u : Int) + (d : Int)) = ((10 * u + d : Nat) : Int) := by rw [IntWalk.i64_in _ (by omega)]; omega
          clear hb HS hdg hd
          go_wp2_with fail
          refine (HC.out _).mono ?_
          rintro e w' ⟨rfl, rfl⟩
          go_wp2
          go_round
          case rel => exact ⟨k + 1, 10 * u + d, by omega, by rw [hP2]; omega, by first | rfl | (rw [val_int]; omega), by go_num, HE.out⟩
          case measure => simp [intOf]; omega
        · have hb : digB (s[k]).toNat = false := by
            unfold digB
            cases g : decide ((48 : Int) ≤ ((s[k]).toNat : Int)) && decide (((s[k]).toNat : Int) ≤ 57) with
            | false => rfl
            | true => rw [Bool.and_eq_true, decide_eq_true_iff, decide_eq_true_iff] at g; omega
          have HE : Hid (R = none) := by
            have h := HK.out
            rw [HS.out, if_neg hdg] at h
            exact h.symm
          have HQ := Lib.hid (HBAD.out HE.out)
          have HC : Hid (∀ W, Calls Tryz.prog 125 #[.int .u8 (s[k]).toNat] W fun e w' => e = .returned (.bool false) ∧ W = w') := fun W => by
            have := l01Digit_any (s[k]).toNat W
            rwa [hb] at this
          clear hb HS hdg
          go_wp2_with fail
          refine (HC.out _).mono ?_
          rintro e w' ⟨rfl, rfl⟩
          go_wp2
          go_ret2
          exact ⟨by rw [HQ.out.1, HQ.out.2]; rfl, Below.refl _ _⟩
      · have hkl : k = s.size := by omega
        have HE : Hid (R = some u) := by
          have h := HK.out
          rw [vlA_end (by rw [size_list]; omega)] at h
          exact h.symm
        have hpk : (10 : Nat) ^ k ≤ 10 ^ 18 := Nat.pow_le_pow_right (by decide) (by omega)
        have e18 : (10 : Nat) ^ 18 = 1000000000000000000 := by decide
        have hu2 : u < 1000000000000000000 := by omega
        have v5 : IntKind.i64.wrap (-(u : Int)) = -(u : Int) := IntWalk.i64_in _ (by omega)
        have HV := Lib.hid (HVAL.out u HE.out)
        have HD := Lib.hid (fun W : World => l01Dec_any ((u:Int)) W (by omega) (by omega))
        clear hkl hpk e18 hu HK
        by_cases hd : decB ((u:Int)) = s
        · have hn := HV.out
          rw [if_pos hd] at hn
          have HQ := Lib.hid (num_some_ hn)
          have heq := strEqB hd
          generalize decB ((u:Int)) = D at *
          clear hn hd HV
          go_wp2_with fail
          refine (HD.out _).mono ?_
          rintro e w2 ⟨rfl, hb2⟩
          go_wp2
          go_ret2
          exact ⟨by rw [HQ.out.1, HQ.out.2]; rfl, hb2⟩
        · have hn := HV.out
          rw [if_neg hd] at hn
          have HQ := Lib.hid (num_none_ hn)
          have heq := strNeB hd
          generalize decB ((u:Int)) = D at *
          clear hn hd HV
          go_wp2_with fail
          refine (HD.out _).mono ?_
          rintro e w2 ⟨rfl, hb2⟩
          go_wp2
          go_ret2
          exact ⟨by rw [HQ.out.1, HQ.out.2]; rfl, hb2⟩
set_option maxHeartbeats 2000000 in
theorem l01Number_neg (s T : ByteArray) (w : World) (h0 : 0 < s.size) (hT:Hid (s.extract 1 s.size=T)) (hts:Hid (T.size+1=s.size)) (hcut : CutS s T true) (h45 : (((s[0]).toNat : Int) == 45) = true) (hl : s.size ≤ maxLen) :
    Calls Tryz.prog 141 #[.string s] w fun e w' => e = .returned (.tuple #[.int .i64 (numN s), .bool (numK s)]) ∧ Below w.heap.size w w' := by
  unfold maxLen at hl
  have z1 : (s.toList == []) = false := by
    rw [ByteArray.toList_eq, beq_eq_false_iff_ne]
    intro e
    have hl := size_list s
    rw [e] at hl
    simp at hl
    omega
  have z2 : s.toList.isEmpty = false := by rw [List.isEmpty_eq_false_iff]; exact beq_eq_false_iff_ne.1 z1
  by_cases h1 : T.size < 1 ∨ 18 < T.size
  · obtain ⟨e1, e2⟩ := num_none_ (num_no hcut (by omega))
    rw [e1, e2]
    by_cases h2 : T.size < 1
    · have i1 : (T.size : Int) < 1 := by omega
      clear e1 e2 h1 hcut
      go_enter Tryz.func141, Tryz.ntmps141
      go_upto_region 4 with fail
      rw [hT.out]
      go_wp2
      go_ret2
      exact ⟨rfl, Below.refl _ _⟩
    · have i1 : ¬ (T.size : Int) < 1 := by omega
      have i2 : (18 : Int) < (T.size : Int) := by omega
      clear e1 e2 h1 hcut
      go_enter Tryz.func141, Tryz.ntmps141
      go_upto_region 4 with fail
      rw [hT.out]
      go_wp2
      go_ret2
      exact ⟨rfl, Below.refl _ _⟩
  · have i1 : ¬ (T.size : Int) < 1 := by omega
    have i2 : ¬ (18 : Int) < (T.size : Int) := by omega
    have ht18 : T.size ≤ 18 := by omega
    have i3 : (T.size:Int)<(s.size:Int) := by (have h:=hts.out; unfold Hid at hts; omega)
    obtain ⟨R, hR⟩ : ∃ R, vlA 0 T.data.toList = R := ⟨_, rfl⟩
    have HR : Hid (vlA 0 (T.data.toList.drop 0) = R) := hR
    have HBAD : Hid (R = none → numN s = 0 ∧ numK s = false) := fun h => num_none_ (num_bad hcut (by rw [hR, h]))
    have HVAL : Hid (∀ u : Nat, R = some u → numB s = if decB (-(u:Int)) = s then some (-(u:Int)) else none) := fun u h => num_val hcut ht18 (by rw [hR, h]) rfl
    clear hR hcut h1
    go_enter Tryz.func141, Tryz.ntmps141
    go_upto_region 4 with fail
    rw [hT.out]
    go_wp2_with fail
    go_loop [5, 6] (fun t v => ∃ (k u : Nat), k ≤ T.size ∧ u < 10 ^ k ∧ t = .int .i64 u ∧ v = .int .i64 k ∧ Hid (vlA u (T.data.toList.drop k) = R)) (fun _ v => T.size - (intOf v).toNat)
    case atStart => exact ⟨0, 0, by omega, by decide, rfl, rfl, HR.out⟩
    case round =>
      obtain ⟨k, u, hk, hu, rfl, rfl, HK⟩ := hrel
      clear HR
      by_cases hlt : k < T.size
      · have hpk : (10 : Nat) ^ k ≤ 10 ^ 17 := Nat.pow_le_pow_right (by decide) (by omega)
        have e17 : (10 : Nat) ^ 17 = 100000000000000000 := by decide
        have hpk2 : (10 : Nat) ^ (k + 1) = 10 * 10 ^ k := by rw [Nat.pow_succ, Nat.mul_comm]
        have HS := Lib.hid (vlA_step (u := u) (bytes_get hlt))
        generalize hP : (10 : Nat) ^ k = P at *
        generalize hP2 : (10 : Nat) ^ (k + 1) = P2 at *
        have i0 : (0 : Int) ≤ (k : Int) := by omega
        have i1 : (k : Int) < (T.size : Int) := by omega
        by_cases hdg : 48 ≤ (T[k]).toNat ∧ (T[k]).toNat ≤ 57
        · have hb : digB (T[k]).toNat = true := by
            unfold digB
            rw [Bool.and_eq_true, decide_eq_true_iff, decide_eq_true_iff]
            omega
          have HE : Hid (vlA (10 * u + ((T[k]).toNat - 48)) (T.data.toList.drop (k + 1)) = R) := by
            have h := HK.out
            rw [HS.out, if_pos hdg] at h
            exact h
          obtain ⟨d, hd⟩ : ∃ d : Nat, (T[k]).toNat = 48 + d := ⟨(T[k]).toNat - 48, by omega⟩
          have hd9 : d ≤ 9 := by omega
          rw [hd, show 48 + d - 48 = d by omega] at HE
          have hdi : ((T[k]).toNat : Int) = 48 + (d : Int) := by omega
          have HC : Hid (∀ W, Calls Tryz.prog 125 #[.int .u8 (48 + (d : Int))] W fun e w' => e = .returned (.bool true) ∧ W = w') := fun W => by
            have := l01Digit_any (T[k]).toNat W
            rwa [hb, hdi] at this
          have v1 : IntKind.u8.wrap ((48 : Int) + (d : Int) - 48) = (d : Int) := by simp [IntKind.wrap, IntKind.bits, IntKind.signed]; omega
          have v2 : IntKind.i64.wrap (10 * (u : Int)) = 10 * (u : Int) := IntWalk.i64_in _ (by omega)
          have v3 : IntKind.i64.wrap (d : Int) = (d : Int) := IntWalk.i64_in _ (by omega)
          have v4 : IntKind.i64.wrap (10 * (u : Int) + (d : Int)) = ((10 * u + d : Nat) : Int) := by rw [IntWalk.i64_in _ (by omega)]; omega
          clear hb HS hdg hd
          go_wp2_with fail
          refine (HC.out _).mono ?_
          rintro e w' ⟨rfl, rfl⟩
          go_wp2
          go_round
          case rel => exact ⟨k + 1, 10 * u + d, by omega, by rw [hP2]; omega, by first | rfl | (rw [val_int]; omega), by go_num, HE.out⟩
          case measure => simp [intOf]; omega
        · have hb : digB (T[k]).toNat = false := by
            unfold digB
            cases g : decide ((48 : Int) ≤ ((T[k]).toNat : Int)) && decide (((T[k]).toNat : Int) ≤ 57) with
            | false => rfl
            | true => rw [Bool.and_eq_true, decide_eq_true_iff, decide_eq_true_iff] at g; omega
          have HE : Hid (R = none) := by
            have h := HK.out
            rw [HS.out, if_neg hdg] at h
            exact h.symm
          have HQ := Lib.hid (HBAD.out HE.out)
          have HC : Hid (∀ W, Calls Tryz.prog 125 #[.int .u8 (T[k]).toNat] W fun e w' => e = .returned (.bool false) ∧ W = w') := fun W => by
            have := l01Digit_any (T[k]).toNat W
            rwa [hb] at this
          clear hb HS hdg
          go_wp2_with fail
          refine (HC.out _).mono ?_
          rintro e w' ⟨rfl, rfl⟩
          go_wp2
          go_ret2
          exact ⟨by rw [HQ.out.1, HQ.out.2]; rfl, Below.refl _ _⟩
      · have hkl : k = T.size := by omega
        have HE : Hid (R = some u) := by
          have h := HK.out
          rw [vlA_end (by rw [size_list]; omega)] at h
          exact h.symm
        have hpk : (10 : Nat) ^ k ≤ 10 ^ 18 := Nat.pow_le_pow_right (by decide) (by omega)
        have e18 : (10 : Nat) ^ 18 = 1000000000000000000 := by decide
        have hu2 : u < 1000000000000000000 := by omega
        have v5 : IntKind.i64.wrap (-(u : Int)) = -(u : Int) := IntWalk.i64_in _ (by omega)
        have HV := Lib.hid (HVAL.out u HE.out)
        have HD := Lib.hid (fun W : World => l01Dec_any (-(u:Int)) W (by omega) (by omega))
        clear hkl hpk e18 hu HK
        by_cases hd : decB (-(u:Int)) = s
        · have hn := HV.out
          rw [if_pos hd] at hn
          have HQ := Lib.hid (num_some_ hn)
          have heq := strEqB hd
          generalize decB (-(u:Int)) = D at *
          clear hn hd HV
          go_wp2_with fail
          refine (HD.out _).mono ?_
          rintro e w2 ⟨rfl, hb2⟩
          go_wp2
          go_ret2
          exact ⟨by rw [HQ.out.1, HQ.out.2]; rfl, hb2⟩
        · have hn := HV.out
          rw [if_neg hd] at hn
          have HQ := Lib.hid (num_none_ hn)
          have heq := strNeB hd
          generalize decB (-(u:Int)) = D at *
          clear hn hd HV
          go_wp2_with fail
          refine (HD.out _).mono ?_
          rintro e w2 ⟨rfl, hb2⟩
          go_wp2
          go_ret2
          exact ⟨by rw [HQ.out.1, HQ.out.2]; rfl, hb2⟩
theorem l01Number_any (s : ByteArray) (w : World) (hl : s.size ≤ maxLen) :
    Calls Tryz.prog 141 #[.string s] w fun e w' => e = .returned (.tuple #[.int .i64 (numN s), .bool (numK s)]) ∧ Below w.heap.size w w' := by
  rcases Nat.eq_zero_or_pos s.size with h | h
  · exact l01Number_empty s w h
  · by_cases h45 : s[0] = 45
    · obtain ⟨a, b, _⟩ := cut_neg h h45
      exact l01Number_neg s _ w h rfl (by unfold Hid; omega) a (by rw [h45]; rfl) hl
    · exact l01Number_pos s w h (cut_pos (fun _ => h45)).1 (by
        rw [beq_eq_false_iff_ne]
        intro e
        refine h45 (UInt8.toNat_inj.1 ?_)
        have : (s[0]).toNat = 45 := by omega
        exact this) hl
end Go.Proofs.YtpnabggpdgjbmaaGreatDoor
namespace Go.Proofs.YtpnabggpdgjbmaaGreatDoor
open Go.RowKit Go.Sort
theorem Wr.lit {α : Type} {enc : α → Value} {xs : List α} {C : Array Value} {E : TypeId} (w : World) (h : C.toList = xs.map enc) : Wr enc (w.alloc (.cells C E)) w.heap.size (some ⟨w.heap.size, 0, none⟩) xs := fun _ =>
  ⟨w.heap.size, 0, rfl, Nat.le_refl _, by simp, fun j x hx => by
    rw [Nat.zero_add, cell_one, ← Array.getElem?_toList, h, List.getElem?_map, hx]; rfl, fun j => World.frozen?_alloc_at _ _ _ _ rfl⟩
/-- What a call returns that makes a slice of strings. -/
def RetStrs (w : World) (xs : List ByteArray) (e : Ending) (w' : World) : Prop :=
  ∃ A c, e = .returned (.slice A xs.length c) ∧ Wr Value.string w' w.heap.size A xs ∧ Below w.heap.size w w'
theorem infoS : (Tryz.prog.info? 9).map (fun i => (i.zero, i.size, i.bytes)) = some (some (.string ByteArray.empty), 1, 16) := by kernel_rfl
end Go.Proofs.YtpnabggpdgjbmaaGreatDoor
namespace Go.Proofs.YtpnabggpdgjbmaaGreatDoor
open Go.RowKit Go.Sort
theorem below_drewNS {B n : Nat} {w w' : World} (h : Below B w w') : Below B w (w'.drewN n) := ⟨h.os, h.tape, h.output, h.size, h.block⟩
/-- A list of strings on its way. -/
def OutT (w : World) (base : Nat) (out : List ByteArray) (v : Value) (wr : World) : Prop :=
  wr.ownsRow base 9 1 v out.length (out.map Value.string) ∧ Below w.heap.size w wr ∧ base ≤ wr.heap.size
theorem OutT.push {w : World} {base : Nat} {out : List ByteArray} {v : Value} {wr : World} (h : OutT w base out v wr) (hbase : w.heap.size ≤ base) {t : ByteArray} (v' : Value) (w3 : World) {o : Obj}
    (hown3 : w3.ownsRow base 9 1 v' (out.length + 1) (out.map Value.string ++ [.string t])) (hg : (wr.alloc o).grownBy w3 v.ownBlock) : OutT w base (out ++ [t]) v' w3 := by
  obtain ⟨hown, hbel, hsz⟩ := h
  refine ⟨by simpa using hown3, below_grown (ext_alloc hbel o) (hown.alloc o) hbase hg, ?_⟩
  have := hg.size
  simp at this
  omega
theorem OutT.start (w : World) : OutT w w.heap.size [] (.slice (some ⟨w.heap.size, 0, none⟩) 0 0) (w.alloc (.cells #[] 9)) := by
  refine ⟨?_, ext1 _ _, by simp⟩
  have h := World.ownsRow_lit (base := w.heap.size) (e := 9) (size := 1) w #[] 0 (by simp) (by simp) rfl
  simpa using h
theorem OutT.ret {w : World} {out : List ByteArray} {v : Value} {wr : World} (h : OutT w w.heap.size out v wr) : RetStrs w out (.returned v) wr := by
  obtain ⟨_, A, c, rfl, hw⟩ := Wr.of_own h.1
  exact ⟨A, c, rfl, hw, h.2.1⟩
theorem ext_snoc {s : ByteArray} {a k : Nat} (h : a ≤ k) (hk : k < s.size) : (s.extract a (k + 1)).data.toList = (s.extract a k).data.toList ++ [s[k]] := by
  have hg := bytes_get hk
  rw [ext_list, ext_list, show k + 1 - a = (k - a) + 1 by omega, List.take_add_one, List.getElem?_drop, show a + (k - a) = k by omega, hg]
  rfl
theorem ext_none (s : ByteArray) (k : Nat) : (s.extract k k).data.toList = [] := by
  rw [ext_list, Nat.sub_self, List.take_zero]
/-- Parts as strings. -/
def mkB (l : List UInt8) : ByteArray := ⟨l.toArray⟩
theorem mkB_ext (s : ByteArray) (a b : Nat) : mkB (s.extract a b).data.toList = s.extract a b := back_bytes _
set_option maxRecDepth 100000 in
set_option maxHeartbeats 2000000 in
theorem l01Split_any (s : ByteArray) (c : UInt8) (m : Int) (hm : (c.toNat : Int) = m) (w : World) (hs : s.size ≤ 1000000000000) :
    Calls Tryz.prog 55 #[.string s, .int .u8 m] w (RetStrs w (spB c s)) := by
  obtain ⟨ti, hi, hz0, hz1, hz2⟩ := info_parts infoS
  have HI := Lib.hid hi
  obtain ⟨R, hR⟩ : ∃ R, spB c s = R := ⟨_, rfl⟩
  rw [hR]
  have HR : Hid ((spA c [] (s.data.toList.drop 0)).map mkB = R) := hR
  clear hi hR
  have O := Lib.hid (OutT.start w)
  go_enter Tryz.func55, Tryz.ntmps55
  go_wp2_with fail
  go_loopw [5, 6, 7] (fun v f t wr => ∃ (k a : Nat) (out : List ByteArray), a ≤ k ∧ k ≤ s.size ∧ out.length ≤ k ∧ f = .int .i64 a ∧ t = .int .i64 k ∧ Hid (out ++ (spA c (s.extract a k).data.toList (s.data.toList.drop k)).map mkB = R) ∧ Hid (OutT w w.heap.size out v wr)) (fun _ _ t _ => s.size - (intOf t).toNat)
  case atStart => exact ⟨0, 0, [], by omega, by omega, by simp, rfl, rfl, by unfold Hid; rw [ext_none]; exact HR.out, O.out⟩
  case round =>
    obtain ⟨k, a, out, hak, hk, ho, rfl, rfl, HK, HO⟩ := hrel
    clear HR O
    by_cases hlt : k < s.size
    · have hdr : s.data.toList.drop k = s[k] :: s.data.toList.drop (k + 1) := by
        have hl := size_list s
        exact List.drop_eq_getElem_cons (l := s.data.toList) (i := k) (by omega)
      have i0 : (0 : Int) ≤ (k : Int) := by omega
      have i1 : (k : Int) < (s.size : Int) := by omega
      by_cases hc : s[k] = c
      · have hcm : (((s[k]).toNat : Int) == m) = true := by rw [hc, hm]; simp
        have HE : Hid ((out ++ [s.extract a k]) ++ (spA c (s.extract (k + 1) (k + 1)).data.toList (s.data.toList.drop (k + 1))).map mkB = R) := by
          have h := HK.out
          rw [hdr, spA, if_pos hc, List.map_cons, mkB_ext] at h
          unfold Hid
          rw [ext_none, List.append_assoc]
          exact h
        have hown := HO.out.1
        have hbz := HO.out.2.2
        clear hdr hc hm HK
        go_wp2_with (at_builtin; refine wpList_append_own _ rfl _ _ 58 rfl w.heap.size 9 ti (.string ByteArray.empty) 1 16 Tryz.underlying58 HI.out hz0 hz1 hz2 rfl (by decide) _ _ _ rfl (hown.alloc _) ⟨wr.heap.size, 0, none⟩ 1 1 [.string (s.extract a k)] rfl rfl ?c1 ?c2 ?c3 ?c4 ?c5 ?_)
        case c1 => exact cell_one_new _ _ _
        case c2 => simp [Value.oneCell']
        case c3 => unfold maxLen; omega
        case c4 => omega
        case c5 => simp; omega
        intro v' w3 hown3 hgrow _
        have HV3 := Lib.hid (OutT.push HO.out (Nat.le_refl _) _ _ hown3 hgrow)
        clear hown3 hgrow hown HO
        go_wp2
        go_roundw
        case rel => exact ⟨k + 1, k + 1, out ++ [s.extract a k], by omega, by omega, by simp; omega, by go_num, by go_num, HE.out, HV3.out⟩
        case measure => simp [intOf]; omega
      · have hcm : (((s[k]).toNat : Int) == m) = false := by
          rw [beq_eq_false_iff_ne]
          intro e
          exact hc (UInt8.toNat_inj.1 (by omega))
        have HE : Hid (out ++ (spA c (s.extract a (k + 1)).data.toList (s.data.toList.drop (k + 1))).map mkB = R) := by
          have h := HK.out
          rw [hdr, spA, if_neg hc] at h
          unfold Hid
          rw [ext_snoc hak hlt]
          exact h
        clear hdr hc hm HK
        go_wp2
        go_roundw
        case rel => exact ⟨k + 1, a, out, by omega, by omega, by omega, rfl, by go_num, HE.out, HO.out⟩
        case measure => simp [intOf]; omega
    · have hkl : k = s.size := by omega
      have HE : Hid (out ++ [s.extract a s.size] = R) := by
        have h := HK.out
        rw [hkl, List.drop_of_length_le (by rw [size_list]; omega)] at h
        simp only [spA, List.map_cons, List.map_nil, mkB_ext] at h
        exact h
      have hown := HO.out.1
      have hbz := HO.out.2.2
      have ia : (0 : Int) ≤ (a : Int) := by omega
      have ib : (a : Int) ≤ (s.size : Int) := by omega
      clear hkl HK hm
      go_wp2_with (at_builtin; refine wpList_append_own _ rfl _ _ 58 rfl w.heap.size 9 ti (.string ByteArray.empty) 1 16 Tryz.underlying58 HI.out hz0 hz1 hz2 rfl (by decide) _ _ _ rfl (hown.alloc _) ⟨wr.heap.size, 0, none⟩ 1 1 [.string (s.extract a s.size)] rfl rfl ?c1 ?c2 ?c3 ?c4 ?c5 ?_)
      case c1 => exact cell_one_new _ _ _
      case c2 => simp [Value.oneCell']
      case c3 => unfold maxLen; omega
      case c4 => omega
      case c5 => simp; omega
      intro v' w3 hown3 hgrow _
      have HV3 := Lib.hid (OutT.push HO.out (Nat.le_refl _) _ _ hown3 hgrow)
      clear hown3 hgrow hown HO
      have HF : Hid (RetStrs w R (.returned v') w3) := by
        have h := HV3.out.ret
        rw [HE.out] at h
        exact h
      go_wp2
      go_ret
      exact HF.out
end Go.Proofs.YtpnabggpdgjbmaaGreatDoor
namespace Go.Proofs.YtpnabggpdgjbmaaGreatDoor
open Go.RowKit Go.Sort
/-- .. with its capacity. -/
def RetNumC (w : World) (R : Option (List Int)) (e : Ending) (w' : World) : Prop :=
  ∃ B c, e = .returned (.tuple #[.slice B (R.getD []).length c, .bool R.isSome]) ∧ Wr (Value.int .i64) w' w.heap.size B (R.getD []) ∧ Below w.heap.size w w' ∧ (R.getD []).length ≤ c ∧ c ≤ 1000000000
set_option maxRecDepth 100000 in
set_option maxHeartbeats 2000000 in
theorem readDecimals_cap (A : Option Addr) (c : Nat) (ws : List ByteArray) (w : World) (hx : Rd Value.string w w.heap.size A ws) (hl : ws.length ≤ 1000000000) (hsz : ∀ x ∈ ws, x.size ≤ 1000000000) (hV : Vars w) :
    Calls Tryz.prog 136 #[.slice A ws.length c] w (RetNumC w (numsB ws)) := by
  obtain ⟨i0, hi, hz0, hz1, hz2⟩ := info_parts info64
  have hmk : ∀ W : World, (Instr.makeSlice 27 (.int .i64 (ws.length : Int)) (.int .i64 (ws.length : Int))).run Tryz.prog W = .ok (.slice (some ⟨W.heap.size, 0, none⟩) ws.length ws.length) (W.alloc (.cells (madeCells #[.int .i64 0] ws.length) 2)) := fun W => by
    have h := run_make (P := Tryz.prog) W 27 2 i0 _ Tryz.underlying27 hi hz0 .i64 .i64 (ws.length : Int) (ws.length : Int) (by omega) (by omega) (by rw [hz2]; omega) (by omega)
    rw [hz1] at h
    simpa [Value.cells] using h
  have HSZ := Lib.hid hsz
  have HVV := Lib.hid (fun W (hb : Below w.heap.size w W) => hV.next hb)
  obtain ⟨R, hR⟩ : ∃ R, numsB ws = R := ⟨_, rfl⟩
  have HN : Hid (∀ k x, ws[k]? = some x → numB x = none → R = none) := fun k x h1 h2 => by rw [← hR]; exact nums_none h1 h2
  have HF : Hid (∀ ns, numsB (ws.take ws.length) = some ns → R = some ns) := fun ns h => by rw [← hR]; rwa [List.take_of_length_le (Nat.le_refl _)] at h
  rw [hR]
  clear hR hV hsz
  go_enter Tryz.func136, Tryz.ntmps136
  go_wp2_with fail
  have hms : (madeCells #[.int .i64 0] ws.length).size = ws.length := size_madeCells _ _
  obtain ⟨W, hW, h1, h2, h3, h4⟩ : ∃ W, W = w.alloc (.cells (madeCells #[.int .i64 0] ws.length) 2) ∧ Below w.heap.size w W ∧ w.heap.size < W.heap.size ∧ (∀ j, j < ws.length → ∃ v, W.cell? ⟨w.heap.size, j, none⟩ = some v) ∧ ∀ j, W.frozen? ⟨w.heap.size, j, none⟩ = false :=
    ⟨_, rfl, ext_alloc (Below.refl _ _) _, by simp, fun j hj => madeCell (by rw [hms]; exact hj), fun j => World.frozen?_alloc_at _ _ _ _ rfl⟩
  rw [← hW]
  clear hW hms
  have H3 := Lib.hid h3
  have H4 := Lib.hid h4
  clear h3 h4 hmk
  go_loopw [14] (fun t wr => ∃ (i : Nat) (ns : List Int), i ≤ ws.length ∧ t = .int .i64 i ∧ Hid (numsB (ws.take i) = some ns) ∧ Hid ((∀ j x, ns[j]? = some x → wr.cell? ⟨w.heap.size, j, none⟩ = some (.int .i64 x)) ∧ (∀ j, j < ws.length → ∃ v, wr.cell? ⟨w.heap.size, j, none⟩ = some v) ∧ (∀ j, wr.frozen? ⟨w.heap.size, j, none⟩ = false) ∧ Below w.heap.size w wr ∧ w.heap.size < wr.heap.size)) (fun t _ => ws.length - (intOf t).toNat)
  case atStart => exact ⟨0, [], by omega, rfl, rfl, fun j x h => by simp at h, H3.out, H4.out, h1, h2⟩
  case round =>
    obtain ⟨i, ns, hi', rfl, HNS, HR⟩ := hrel
    by_cases hlt : i < ws.length
    · obtain ⟨b, off, rfl, hb, hc⟩ := hx (by omega)
      obtain ⟨x, hxi⟩ : ∃ x, ws[i]? = some x := ⟨_, List.getElem?_eq_getElem hlt⟩
      have hci := (HR.out.2.2.2.1.cell (p := ⟨b, off + i, none⟩) hb).trans (hc i x hxi)
      have HX := Lib.hid hxi
      have hxs := HSZ.out x (List.mem_of_getElem? hxi)
      clear hc hxi
      have hln : ns.length = i := by
        have h := nums_len HNS.out
        rw [List.length_take] at h
        omega
      have HLN := Lib.hid hln
      clear hln
      obtain ⟨v, hv⟩ := HR.out.2.1 i hlt
      have i0 : (0 : Int) ≤ (i : Int) := by omega
      have i1 : (i : Int) < (ws.length : Int) := by omega
      have HC := Lib.hid (iReadDecimal_any x wr (by omega) (HVV.out wr HR.out.2.2.2.1))
      have hbd := num_bd_ x
      cases hk : numK x
      · have HQ := Lib.hid (HN.out i x HX.out (num_not hk))
        rw [hk] at HC
        generalize numN x = q at *
        clear hk
        go_wp2_with fail
        refine HC.out.mono ?_
        rintro e w1 ⟨rfl, hb1⟩
        have hB := ext_trans HR.out.2.2.2.1 hb1
        go_wp2
        go_ret2
        rw [HQ.out]
        exact ⟨none, 0, rfl, fun h => absurd h (by simp), hB, Nat.le_refl _, by omega⟩
      · have HQ := Lib.hid (num_of hk)
        rw [hk] at HC
        generalize numN x = q at *
        clear hk
        go_wp2_with fail
        refine HC.out.mono ?_
        rintro e w1 ⟨rfl, hb1⟩
        have HR1 : Hid ((∀ j x, ns[j]? = some x → w1.cell? ⟨w.heap.size, j, none⟩ = some (.int .i64 x)) ∧ (∀ j, j < ws.length → ∃ v, w1.cell? ⟨w.heap.size, j, none⟩ = some v) ∧ (∀ j, w1.frozen? ⟨w.heap.size, j, none⟩ = false) ∧ Below w.heap.size w w1 ∧ w.heap.size < w1.heap.size) := by
          obtain ⟨r1, r2, r3, r4, r5⟩ := HR.out
          have hz := hb1.size
          refine ⟨fun j x h => (hb1.cell (p := ⟨w.heap.size, j, none⟩) r5).trans (r1 j x h), fun j h => ?_, fun j => (hb1.frozen (p := ⟨w.heap.size, j, none⟩) r5).trans (r3 j), ext_trans r4 hb1, by omega⟩
          obtain ⟨v, hv⟩ := r2 j h
          exact ⟨v, (hb1.cell (p := ⟨w.heap.size, j, none⟩) r5).trans hv⟩
        clear HR hv hci hb1
        obtain ⟨v, hv⟩ := HR1.out.2.1 i hlt
        have hfi : w1.frozen? ⟨w.heap.size, i, none⟩ = false := HR1.out.2.2.1 _
        go_wp2
        go_roundw
        case rel =>
          obtain ⟨r1, r2, r3, r4, r5⟩ := HR1.out
          refine ⟨i + 1, ns ++ [q], by omega, by go_num, nums_take HNS.out HX.out HQ.out, fun j y hy => ?_, fun j hj => ?_, fun j => ?_, r4.setCell (Nat.le_refl _) _, by simpa using r5⟩
          · have hln := HLN.out
            rcases Nat.lt_or_ge j i with h | h
            · refine (World.cell?_setCell_other w1 ⟨w.heap.size, i, none⟩ ⟨w.heap.size, j, none⟩ _ ?_).trans (r1 j y ?_)
              · intro e; injection e; omega
              · rwa [List.getElem?_append_left (by omega)] at hy
            · have hj : j < (ns ++ [q]).length := (List.getElem?_eq_some_iff.1 hy).1
              rw [List.length_append] at hj
              simp at hj
              obtain rfl : j = i := by omega
              have e2 : q = y := by
                rw [List.getElem?_append_right (by omega), hln, Nat.sub_self] at hy
                simpa using hy
              rw [← e2]
              exact World.cell?_setCell_same _ _ _ hv
          · by_cases h : j = i
            · subst h; exact ⟨_, World.cell?_setCell_same _ _ _ hv⟩
            · obtain ⟨u, hu⟩ := r2 j hj
              refine ⟨u, (World.cell?_setCell_other w1 ⟨w.heap.size, i, none⟩ ⟨w.heap.size, j, none⟩ _ ?_).trans hu⟩
              intro e; injection e; omega
          · exact (World.frozen?_setCell _ _ _ _).trans (r3 j)
        case measure => simp [intOf]; omega
    · have hil : i = ws.length := by omega
      have HNS2 : Hid (numsB (ws.take ws.length) = some ns) := by rw [← hil]; exact HNS.out
      have HQ := Lib.hid (HF.out ns HNS2.out)
      have HLN : Hid (ns.length = ws.length) := by
        have h := nums_len HNS2.out
        rwa [List.take_of_length_le (Nat.le_refl _)] at h
      clear hil
      go_wp2
      go_ret2
      obtain ⟨r1, r2, r3, r4, r5⟩ := HR.out
      rw [HQ.out]
      refine ⟨some ⟨w.heap.size, 0, none⟩, ws.length, by rw [show (some ns).getD [] = ns from rfl, HLN.out]; rfl, fun _ => ⟨w.heap.size, 0, rfl, Nat.le_refl _, r5, fun j x hx => ?_, r3⟩, r4, by rw [show (some ns).getD [] = ns from rfl, HLN.out]; exact Nat.le_refl _, hl⟩
      rw [Nat.zero_add]
      exact r1 j x hx
end Go.Proofs.YtpnabggpdgjbmaaGreatDoor
