/- Words that are decimal numbers: both walks. No condition but those that each theorem names. -/
import Derived.Test.YtbcikkaoohihhaaGreatDoorMrB
import Derived.Test.YtbcikkaoohihhaaGreatDoorNameW
import Derived.Lib.AtoiErrMem
import Derived.Deep.DeepCutAuto
namespace Go.Proofs.YtbcikkaoohihhaaGreatDoor
open Go.RowKit Go.Sort

/-- What the parsers' walks ask of the program's variables: the table of powers of ten, bytealg's bound, strconv's two errors. -/
structure Vars (w : World) : Prop where
  tab : Tab10 w
  len : ∃ m, w.cell? ⟨0, 0, none⟩ = some (.int .i64 m)
  syn : ∃ t p, w.cell? ⟨5, 0, none⟩ = some (.iface t p)
  rng : ∃ t p, w.cell? ⟨6, 0, none⟩ = some (.iface t p)
theorem Vars.next {w W : World} (h : Vars w) (hb : Below w.heap.size w W) : Vars W := by
  obtain ⟨h1, ⟨m, h2⟩, ⟨t, p, h3⟩, ⟨t', p', h4⟩⟩ := h
  exact ⟨h1.next hb, ⟨m, (hb.cell (p := ⟨_, 0, none⟩) (Lib.lt_of_cell h2)).trans h2⟩, ⟨t, p, (hb.cell (p := ⟨_, 0, none⟩) (Lib.lt_of_cell h3)).trans h3⟩, ⟨t', p', (hb.cell (p := ⟨_, 0, none⟩) (Lib.lt_of_cell h4)).trans h4⟩⟩
theorem strEqB {a b : ByteArray} (h : a = b) : (a.toList == b.toList) = true := by rw [h]; exact beq_self_eq_true _
theorem strNeB {a b : ByteArray} (h : ¬ a = b) : (a.toList == b.toList) = false := by
  rw [beq_eq_false_iff_ne]
  intro e
  rw [ByteArray.toList_eq, ByteArray.toList_eq] at e
  refine h ?_
  obtain ⟨⟨x⟩⟩ := a
  obtain ⟨⟨y⟩⟩ := b
  simp at e
  rw [e]
theorem bytesW_below (w : World) (e : TypeId) (s : ByteArray) : Below w.heap.size w (Lib.bytesWorld w e s) := by
  exact Lib.bytesWorld_below w e s
theorem trim_ex (s : ByteArray) : ∃ T neg, CutS s T neg ∧ Lib.trimPrefix s.data.toList [45] = T.data.toList ∧ T.size ≤ s.size := by
  by_cases h : ∃ h : 0 < s.size, s[0] = 45
  · obtain ⟨h0, h1⟩ := h
    obtain ⟨a, b, c⟩ := cut_neg h0 h1
    exact ⟨_, _, a, c, by omega⟩
  · obtain ⟨a, b⟩ := cut_pos (s := s) (fun h0 h1 => h ⟨h0, h1⟩)
    exact ⟨_, _, a, b, Nat.le_refl _⟩
set_option maxHeartbeats 2000000 in
theorem iReadDecimal_any (s : ByteArray) (w : World) (hs : s.size ≤ 281474976710656) (hV : Vars w) :
    Calls Tryz.prog 125 #[.string s] w fun e w' => e = .returned (.tuple #[.int .i64 (numN s), .bool (numK s)]) ∧ Below w.heap.size w w' := by
  obtain ⟨T, neg, hcut, htr, hts⟩ := trim_ex s
  have HT : Hid (∀ W, Calls Tryz.prog 164 #[.string s, .string ⟨#[45]⟩] W fun e w' => e = .returned (.string T) ∧ W = w') := fun W => by
    refine (Tryz.strings_TrimPrefix s ⟨#[45]⟩ W).mono ?_
    rintro e w' ⟨rfl, rfl⟩
    refine ⟨?_, rfl⟩
    show Ending.returned (.string ⟨(Lib.trimPrefix s.data.toList [45]).toArray⟩) = _
    rw [htr, back_bytes]
  by_cases h18 : 18 < T.size
  · obtain ⟨e1, e2⟩ := num_none_ (num_no hcut (Or.inr h18))
    rw [e1, e2]
    have hlt : (18 : Int) < (T.size : Int) := by omega
    clear hcut htr e1 e2 h18 hV
    go_enter Tryz.func125, Tryz.ntmps125
    go_wp2_with fail
    refine (HT.out _).mono ?_
    rintro e w1 ⟨rfl, rfl⟩
    go_wp2
    go_ret2
    exact ⟨rfl, Below.refl _ _⟩
  · have hlt : ¬ (18 : Int) < (T.size : Int) := by omega
    cases hp : Lib.parseIntB 64 s.data.toList with
    | ok v =>
      have HP : Hid (Calls Tryz.prog 165 #[.string s, .int .i64 10, .int .i64 64] w fun e w' => e = .returned (.tuple #[.int .i64 v, .nilIface]) ∧ Below w.heap.size w w') := by
        refine (Tryz.strconv_ParseInt_10_at64_ok s (by omega) v hp w).mono ?_
        rintro e w' ⟨rfl, h⟩
        refine ⟨rfl, ?_⟩
        rcases h with rfl | ⟨t, rfl⟩
        · exact Below.refl _ _
        · exact bytesW_below _ _ _
      have hb64 := Lib.parseIntB_bounds hp
      have e64 : (2 : Nat) ^ (64 - 1) = 9223372036854775808 := by decide
      rw [e64] at hb64
      have HD : Hid (∀ W, Below w.heap.size w W → Calls Tryz.prog 108 #[.int .i64 v] W fun e w' => e = .returned (.string (decB v)) ∧ Below W.heap.size W w') := fun W hb => iDecimal_any v W (by omega) (by omega) (hV.tab.next hb)
      by_cases hd : decB v = s
      · have hn : numB s = some v := by
          refine numB_some.2 ⟨hd, ?_⟩
          have hdat := dec_data v
          rw [hd] at hdat
          have hz : (Lib.decDigits v.natAbs).length ≤ 18 := by
            unfold CutS at hcut
            have h1 := size_list T
            cases neg
            · simp only [Bool.false_eq_true, if_false] at hcut
              rw [hcut.1] at hdat
              have h2 := congrArg List.length hdat
              rw [List.length_append, h1] at h2
              omega
            · simp only [if_true] at hcut
              rw [hcut] at hdat
              by_cases hn : v < 0
              · rw [if_pos hn] at hdat
                simp at hdat
                rw [← hdat, Array.length_toList]
                have : T.data.size = T.size := rfl
                omega
              · rw [if_neg hn] at hdat
                exfalso
                have hm : (45 : UInt8) ∈ Lib.decDigits v.natAbs := by rw [← List.nil_append (Lib.decDigits _), ← hdat]; simp
                have := dec_digit v.natAbs _ (Nat.le_refl _) 45 hm
                simp at this
          rcases Nat.lt_or_ge v.natAbs 1000000000000000000 with g | g
          · exact g
          · have := dec_len_ge 18 v.natAbs (by simpa using g)
            omega
        obtain ⟨e1, e2⟩ := num_some_ hn
        rw [e1, e2]
        have heq := strEqB hd
        generalize decB v = D at *
        clear hcut htr e1 e2 hV hp hn h18 hd hb64 e64
        go_enter Tryz.func125, Tryz.ntmps125
        go_wp2_with fail
        refine (HT.out _).mono ?_
        rintro e w1 ⟨rfl, rfl⟩
        go_wp2_with fail
        refine HP.out.mono ?_
        rintro e w1 ⟨rfl, hb⟩
        go_wp2_with fail
        refine (HD.out _ hb).mono ?_
        rintro e w2 ⟨rfl, hb2⟩
        have hbb := ext_trans hb hb2
        go_wp2
        go_ret2
        exact ⟨rfl, hbb⟩
      · have hn : numB s = none := by unfold numB; rw [hp]; simp [hd]
        obtain ⟨e1, e2⟩ := num_none_ hn
        rw [e1, e2]
        have heq := strNeB hd
        generalize decB v = D at *
        clear hcut htr e1 e2 hV hp hn h18 hd hb64 e64
        go_enter Tryz.func125, Tryz.ntmps125
        go_wp2_with fail
        refine (HT.out _).mono ?_
        rintro e w1 ⟨rfl, rfl⟩
        go_wp2_with fail
        refine HP.out.mono ?_
        rintro e w1 ⟨rfl, hb⟩
        go_wp2_with fail
        refine (HD.out _ hb).mono ?_
        rintro e w2 ⟨rfl, hb2⟩
        have hbb := ext_trans hb hb2
        go_wp2
        go_ret2
        exact ⟨rfl, hbb⟩
    | range =>
      have hn : numB s = none := by unfold numB; rw [hp]
      obtain ⟨e1, e2⟩ := num_none_ hn
      rw [e1, e2]
      obtain ⟨tp, p, hcell⟩ := hV.rng
      have HP := Lib.hid (Tryz.strconv_ParseInt_10_at64_range s hs hp (.iface tp p) w hcell (Or.inr ⟨tp, p, rfl⟩))
      clear hcut htr e1 e2 hV hp hn hcell h18
      go_enter Tryz.func125, Tryz.ntmps125
      go_wp2_with fail
      refine (HT.out _).mono ?_
      rintro e w1 ⟨rfl, rfl⟩
      go_wp2_with fail
      refine HP.out.mono ?_
      rintro e w1 ⟨N, rfl, _, _, hb⟩
      go_wp2
      go_ret2
      exact ⟨rfl, hb⟩
    | _ =>
      have hn : numB s = none := by unfold numB; rw [hp]
      obtain ⟨e1, e2⟩ := num_none_ hn
      rw [e1, e2]
      obtain ⟨tp, p, hcell⟩ := hV.syn
      have HP := Lib.hid (Any.strconv_ParseInt_10_at64_syntax Tryz.laysC174 s hs hp (.iface tp p) w hcell (Or.inr ⟨tp, p, rfl⟩))
      clear hcut htr e1 e2 hV hp hn hcell h18
      go_enter Tryz.func125, Tryz.ntmps125
      go_wp2_with fail
      refine (HT.out _).mono ?_
      rintro e w1 ⟨rfl, rfl⟩
      go_wp2_with fail
      refine HP.out.mono ?_
      rintro e w1 ⟨N, rfl, _, _, hb⟩
      go_wp2
      go_ret2
      exact ⟨rfl, hb⟩
set_option maxHeartbeats 1000000 in
theorem l01Number_empty (s : ByteArray) (w : World) (h0 : s.size = 0) :
    Calls Tryz.prog 123 #[.string s] w fun e w' => e = .returned (.tuple #[.int .i64 (numN s), .bool (numK s)]) ∧ Below w.heap.size w w' := by
  have hl0 := size_list s
  have hc : CutS s s false := (cut_pos (s := s) (fun h => absurd h (by omega))).1
  obtain ⟨e1, e2⟩ := num_none_ (num_no hc (Or.inl h0))
  rw [e1, e2]
  have z1 : (s.toList == []) = true := by
    rw [ByteArray.toList_eq, beq_iff_eq]
    exact List.eq_nil_of_length_eq_zero (by omega)
  have z2 : s.toList.isEmpty = true := by rw [List.isEmpty_iff]; exact beq_iff_eq.1 z1
  have hlt : (s.size : Int) < 1 := by omega
  clear hc e1 e2 hl0
  go_enter Tryz.func123, Tryz.ntmps123
  go_wp2
  go_ret2
  exact ⟨rfl, Below.refl _ _⟩
set_option maxHeartbeats 2000000 in
theorem l01Number_pos (s : ByteArray) (w : World) (h0 : 0 < s.size) (hcut : CutS s s false) (h45 : (((s[0]).toNat : Int) == 45) = false) (hl : s.size ≤ maxLen) :
    Calls Tryz.prog 123 #[.string s] w fun e w' => e = .returned (.tuple #[.int .i64 (numN s), .bool (numK s)]) ∧ Below w.heap.size w w' := by
  unfold maxLen at hl
  have z1 : (s.toList == []) = false := by
    rw [ByteArray.toList_eq, beq_eq_false_iff_ne]
    intro e
    have hl := size_list s
    rw [e] at hl
    simp at hl
    omega
  have z2 : s.toList.isEmpty = false := by rw [List.isEmpty_eq_false_iff]; exact beq_eq_false_iff_ne.1 z1
  by_cases h1 : s.size < 1 ∨ 18 < s.size
  · obtain ⟨e1, e2⟩ := num_none_ (num_no hcut (by omega))
    rw [e1, e2]
    by_cases h2 : s.size < 1
    · have i1 : (s.size : Int) < 1 := by omega
      clear e1 e2 h1 hcut
      go_enter Tryz.func123, Tryz.ntmps123
      go_upto_region 4 with fail
      skip
      go_wp2
      go_ret2
      exact ⟨rfl, Below.refl _ _⟩
    · have i1 : ¬ (s.size : Int) < 1 := by omega
      have i2 : (18 : Int) < (s.size : Int) := by omega
      clear e1 e2 h1 hcut
      go_enter Tryz.func123, Tryz.ntmps123
      go_upto_region 4 with fail
      skip
      go_wp2
      go_ret2
      exact ⟨rfl, Below.refl _ _⟩
  · have i1 : ¬ (s.size : Int) < 1 := by omega
    have i2 : ¬ (18 : Int) < (s.size : Int) := by omega
    have ht18 : s.size ≤ 18 := by omega
    have i3 : ¬ ((s.size:Int)<(s.size:Int)) := by omega
    obtain ⟨R, hR⟩ : ∃ R, vlA 0 s.data.toList = R := ⟨_, rfl⟩
    have HR : Hid (vlA 0 (s.data.toList.drop 0) = R) := hR
    have HBAD : Hid (R = none → numN s = 0 ∧ numK s = false) := fun h => num_none_ (num_bad hcut (by rw [hR, h]))
    have HVAL : Hid (∀ u : Nat, R = some u → numB s = if decB ((u:Int)) = s then some ((u:Int)) else none) := fun u h => num_val hcut ht18 (by rw [hR, h]) rfl
    clear hR hcut h1
    go_enter Tryz.func123, Tryz.ntmps123
    go_upto_region 4 with fail
    skip
    go_wp2_with fail
    go_loop [5, 6] (fun t v => ∃ (k u : Nat), k ≤ s.size ∧ u < 10 ^ k ∧ t = .int .i64 u ∧ v = .int .i64 k ∧ Hid (vlA u (s.data.toList.drop k) = R)) (fun _ v => s.size - (intOf v).toNat)
    case atStart => exact ⟨0, 0, by omega, by decide, rfl, rfl, HR.out⟩
    case round =>
      obtain ⟨k, u, hk, hu, rfl, rfl, HK⟩ := hrel
      clear HR
      by_cases hlt : k < s.size
      · have hpk : (10 : Nat) ^ k ≤ 10 ^ 17 := Nat.pow_le_pow_right (by decide) (by omega)
        have e17 : (10 : Nat) ^ 17 = 100000000000000000 := by decide
        have hpk2 : (10 : Nat) ^ (k + 1) = 10 * 10 ^ k := by rw [Nat.pow_succ, Nat.mul_comm]
        have HS := Lib.hid (vlA_step (u := u) (bytes_get hlt))
        generalize hP : (10 : Nat) ^ k = P at *
        generalize hP2 : (10 : Nat) ^ (k + 1) = P2 at *
        have i0 : (0 : Int) ≤ (k : Int) := by omega
        have i1 : (k : Int) < (s.size : Int) := by omega
        by_cases hdg : 48 ≤ (s[k]).toNat ∧ (s[k]).toNat ≤ 57
        · have hb : digB (s[k]).toNat = true := by
            unfold digB
            rw [Bool.and_eq_true, decide_eq_true_iff, decide_eq_true_iff]
            omega
          have HE : Hid (vlA (10 * u + ((s[k]).toNat - 48)) (s.data.toList.drop (k + 1)) = R) := by
            have h := HK.out
            rw [HS.out, if_pos hdg] at h
            exact h
          obtain ⟨d, hd⟩ : ∃ d : Nat, (s[k]).toNat = 48 + d := ⟨(s[k]).toNat - 48, by omega⟩
          have hd9 : d ≤ 9 := by omega
          rw [hd, show 48 + d - 48 = d by omega] at HE
          have hdi : ((s[k]).toNat : Int) = 48 + (d : Int) := by omega
          have HC : Hid (∀ W, Calls Tryz.prog 145 #[.int .u8 (48 + (d : Int))] W fun e w' => e = .returned (.bool true) ∧ W = w') := fun W => by
            have := l01Digit_any (s[k]).toNat W
            rwa [hb, hdi] at this
          have v1 : IntKind.u8.wrap ((48 : Int) + (d : Int) - 48) = (d : Int) := by simp [IntKind.wrap, IntKind.bits, IntKind.signed]; omega
          have v2 : IntKind.i64.wrap (10 * (u : Int)) = 10 * (u : Int) := IntWalk.i64_in _ (by omega)
          have v3 : IntKind.i64.wrap (d : Int) = (d : Int) := IntWalk.i64_in _ (by omega)
          have v4 : IntKind.i64.wrap (10 * (u : Int) + (d : Int)) = ((10 * u + d : Nat) : Int) := by rw [IntWalk.i64_in _ (by omega)]; omega
          clear hb HS hdg hd
          go_wp2_with fail
          refine (HC.out _).mono ?_
          rintro e w' ⟨rfl, rfl⟩
          go_wp2
          go_round
          case rel => exact ⟨k + 1, 10 * u + d, by omega, by rw [hP2]; omega, by first | rfl | (rw [val_int]; omega), by go_num, HE.out⟩
          case measure => simp [intOf]; omega
        · have hb : digB (s[k]).toNat = false := by
            unfold digB
            cases g : decide ((48 : Int) ≤ ((s[k]).toNat : Int)) && decide (((s[k]).toNat : Int) ≤ 57) with
            | false => rfl
            | true => rw [Bool.and_eq_true, decide_eq_true_iff, decide_eq_true_iff] at g; omega
          have HE : Hid (R = none) := by
            have h := HK.out
            rw [HS.out, if_neg hdg] at h
            exact h.symm
          have HQ := Lib.hid (HBAD.out HE.out)
          have HC : Hid (∀ W, Calls Tryz.prog 145 #[.int .u8 (s[k]).toNat] W fun e w' => e = .returned (.bool false) ∧ W = w') := fun W => by
            have := l01Digit_any (s[k]).toNat W
            rwa [hb] at this
          clear hb HS hdg
          go_wp2_with fail
          refine (HC.out _).mono ?_
          rintro e w' ⟨rfl, rfl⟩
          go_wp2
          go_ret2
          exact ⟨by rw [HQ.out.1, HQ.out.2]; rfl, Below.refl _ _⟩
      · have hkl : k = s.size := by omega
        have HE : Hid (R = some u) := by
          have h := HK.out
          rw [vlA_end (by rw [size_list]; omega)] at h
          exact h.symm
        have hpk : (10 : Nat) ^ k ≤ 10 ^ 18 := Nat.pow_le_pow_right (by decide) (by omega)
        have e18 : (10 : Nat) ^ 18 = 1000000000000000000 := by decide
        have hu2 : u < 1000000000000000000 := by omega
        have v5 : IntKind.i64.wrap (-(u : Int)) = -(u : Int) := IntWalk.i64_in _ (by omega)
        have HV := Lib.hid (HVAL.out u HE.out)
        have HD := Lib.hid (fun W : World => l01Dec_any ((u:Int)) W (by omega) (by omega))
        clear hkl hpk e18 hu HK
        by_cases hd : decB ((u:Int)) = s
        · have hn := HV.out
          rw [if_pos hd] at hn
          have HQ := Lib.hid (num_some_ hn)
          have heq := strEqB hd
          generalize decB ((u:Int)) = D at *
          clear hn hd HV
          go_wp2_with fail
          refine (HD.out _).mono ?_
          rintro e w2 ⟨rfl, hb2⟩
          go_wp2
          go_ret2
          exact ⟨by rw [HQ.out.1, HQ.out.2]; rfl, hb2⟩
        · have hn := HV.out
          rw [if_neg hd] at hn
          have HQ := Lib.hid (num_none_ hn)
          have heq := strNeB hd
          generalize decB ((u:Int)) = D at *
          clear hn hd HV
          go_wp2_with fail
          refine (HD.out _).mono ?_
          rintro e w2 ⟨rfl, hb2⟩
          go_wp2
          go_ret2
          exact ⟨by rw [HQ.out.1, HQ.out.2]; rfl, hb2⟩
set_option maxHeartbeats 2000000 in
theorem l01Number_neg (s T : ByteArray) (w : World) (h0 : 0 < s.size) (hT:Hid (s.extract 1 s.size=T)) (hts:Hid (T.size+1=s.size)) (hcut : CutS s T true) (h45 : (((s[0]).toNat : Int) == 45) = true) (hl : s.size ≤ maxLen) :
    Calls Tryz.prog 123 #[.string s] w fun e w' => e = .returned (.tuple #[.int .i64 (numN s), .bool (numK s)]) ∧ Below w.heap.size w w' := by
  unfold maxLen at hl
  have z1 : (s.toList == []) = false := by
    rw [ByteArray.toList_eq, beq_eq_false_iff_ne]
    intro e
    have hl := size_list s
    rw [e] at hl
    simp at hl
    omega
  have z2 : s.toList.isEmpty = false := by rw [List.isEmpty_eq_false_iff]; exact beq_eq_false_iff_ne.1 z1
  by_cases h1 : T.size < 1 ∨ 18 < T.size
  · obtain ⟨e1, e2⟩ := num_none_ (num_no hcut (by omega))
    rw [e1, e2]
    by_cases h2 : T.size < 1
    · have i1 : (T.size : Int) < 1 := by omega
      clear e1 e2 h1 hcut
      go_enter Tryz.func123, Tryz.ntmps123
      go_upto_region 4 with fail
      rw [hT.out]
      go_wp2
      go_ret2
      exact ⟨rfl, Below.refl _ _⟩
    · have i1 : ¬ (T.size : Int) < 1 := by omega
      have i2 : (18 : Int) < (T.size : Int) := by omega
      clear e1 e2 h1 hcut
      go_enter Tryz.func123, Tryz.ntmps123
      go_upto_region 4 with fail
      rw [hT.out]
      go_wp2
      go_ret2
      exact ⟨rfl, Below.refl _ _⟩
  · have i1 : ¬ (T.size : Int) < 1 := by omega
    have i2 : ¬ (18 : Int) < (T.size : Int) := by omega
    have ht18 : T.size ≤ 18 := by omega
    have i3 : (T.size:Int)<(s.size:Int) := by (have h:=hts.out; unfold Hid at hts; omega)
    obtain ⟨R, hR⟩ : ∃ R, vlA 0 T.data.toList = R := ⟨_, rfl⟩
    have HR : Hid (vlA 0 (T.data.toList.drop 0) = R) := hR
    have HBAD : Hid (R = none → numN s = 0 ∧ numK s = false) := fun h => num_none_ (num_bad hcut (by rw [hR, h]))
    have HVAL : Hid (∀ u : Nat, R = some u → numB s = if decB (-(u:Int)) = s then some (-(u:Int)) else none) := fun u h => num_val hcut ht18 (by rw [hR, h]) rfl
    clear hR hcut h1
    go_enter Tryz.func123, Tryz.ntmps123
    go_upto_region 4 with fail
    rw [hT.out]
    go_wp2_with fail
    go_loop [5, 6] (fun t v => ∃ (k u : Nat), k ≤ T.size ∧ u < 10 ^ k ∧ t = .int .i64 u ∧ v = .int .i64 k ∧ Hid (vlA u (T.data.toList.drop k) = R)) (fun _ v => T.size - (intOf v).toNat)
    case atStart => exact ⟨0, 0, by omega, by decide, rfl, rfl, HR.out⟩
    case round =>
      obtain ⟨k, u, hk, hu, rfl, rfl, HK⟩ := hrel
      clear HR
      by_cases hlt : k < T.size
      · have hpk : (10 : Nat) ^ k ≤ 10 ^ 17 := Nat.pow_le_pow_right (by decide) (by omega)
        have e17 : (10 : Nat) ^ 17 = 100000000000000000 := by decide
        have hpk2 : (10 : Nat) ^ (k + 1) = 10 * 10 ^ k := by rw [Nat.pow_succ, Nat.mul_comm]
        have HS := Lib.hid (vlA_step (u := u) (bytes_get hlt))
        generalize hP : (10 : Nat) ^ k = P at *
        generalize hP2 : (10 : Nat) ^ (k + 1) = P2 at *
        have i0 : (0 : Int) ≤ (k : Int) := by omega
        have i1 : (k : Int) < (T.size : Int) := by omega
        by_cases hdg : 48 ≤ (T[k]).toNat ∧ (T[k]).toNat ≤ 57
        · have hb : digB (T[k]).toNat = true := by
            unfold digB
            rw [Bool.and_eq_true, decide_eq_true_iff, decide_eq_true_iff]
            omega
          have HE : Hid (vlA (10 * u + ((T[k]).toNat - 48)) (T.data.toList.drop (k + 1)) = R) := by
            have h := HK.out
            rw [HS.out, if_pos hdg] at h
            exact h
          obtain ⟨d, hd⟩ : ∃ d : Nat, (T[k]).toNat = 48 + d := ⟨(T[k]).toNat - 48, by omega⟩
          have hd9 : d ≤ 9 := by omega
          rw [hd, show 48 + d - 48 = d by omega] at HE
          have hdi : ((T[k]).toNat : Int) = 48 + (d : Int) := by omega
          have HC : Hid (∀ W, Calls Tryz.prog 145 #[.int .u8 (48 + (d : Int))] W fun e w' => e = .returned (.bool true) ∧ W = w') := fun W => by
            have := l01Digit_any (T[k]).toNat W
            rwa [hb, hdi] at this
          have v1 : IntKind.u8.wrap ((48 : Int) + (d : Int) - 48) = (d : Int) := by simp [IntKind.wrap, IntKind.bits, IntKind.signed]; omega
          have v2 : IntKind.i64.wrap (10 * (u : Int)) = 10 * (u : Int) := IntWalk.i64_in _ (by omega)
          have v3 : IntKind.i64.wrap (d : Int) = (d : Int) := IntWalk.i64_in _ (by omega)
          have v4 : IntKind.i64.wrap (10 * (u : Int) + (d : Int)) = ((10 * u + d : Nat) : Int) := by rw [IntWalk.i64_in _ (by omega)]; omega
          clear hb HS hdg hd
          go_wp2_with fail
          refine (HC.out _).mono ?_
          rintro e w' ⟨rfl, rfl⟩
          go_wp2
          go_round
          case rel => exact ⟨k + 1, 10 * u + d, by omega, by rw [hP2]; omega, by first | rfl | (rw [val_int]; omega), by go_num, HE.out⟩
          case measure => simp [intOf]; omega
        · have hb : digB (T[k]).toNat = false := by
            unfold digB
            cases g : decide ((48 : Int) ≤ ((T[k]).toNat : Int)) && decide (((T[k]).toNat : Int) ≤ 57) with
            | false => rfl
            | true => rw [Bool.and_eq_true, decide_eq_true_iff, decide_eq_true_iff] at g; omega
          have HE : Hid (R = none) := by
            have h := HK.out
            rw [HS.out, if_neg hdg] at h
            exact h.symm
          have HQ := Lib.hid (HBAD.out HE.out)
          have HC : Hid (∀ W, Calls Tryz.prog 145 #[.int .u8 (T[k]).toNat] W fun e w' => e = .returned (.bool false) ∧ W = w') := fun W => by
            have := l01Digit_any (T[k]).toNat W
            rwa [hb] at this
          clear hb HS hdg
          go_wp2_with fail
          refine (HC.out _).mono ?_
          rintro e w' ⟨rfl, rfl⟩
          go_wp2
          go_ret2
          exact ⟨by rw [HQ.out.1, HQ.out.2]; rfl, Below.refl _ _⟩
      · have hkl : k = T.size := by omega
        have HE : Hid (R = some u) := by
          have h := HK.out
          rw [vlA_end (by rw [size_list]; omega)] at h
          exact h.symm
        have hpk : (10 : Nat) ^ k ≤ 10 ^ 18 := Nat.pow_le_pow_right (by decide) (by omega)
        have e18 : (10 : Nat) ^ 18 = 1000000000000000000 := by decide
        have hu2 : u < 1000000000000000000 := by omega
        have v5 : IntKind.i64.wrap (-(u : Int)) = -(u : Int) := IntWalk.i64_in _ (by omega)
        have HV := Lib.hid (HVAL.out u HE.out)
        have HD := Lib.hid (fun W : World => l01Dec_any (-(u:Int)) W (by omega) (by omega))
        clear hkl hpk e18 hu HK
        by_cases hd : decB (-(u:Int)) = s
        · have hn := HV.out
          rw [if_pos hd] at hn
          have HQ := Lib.hid (num_some_ hn)
          have heq := strEqB hd
          generalize decB (-(u:Int)) = D at *
          clear hn hd HV
          go_wp2_with fail
          refine (HD.out _).mono ?_
          rintro e w2 ⟨rfl, hb2⟩
          go_wp2
          go_ret2
          exact ⟨by rw [HQ.out.1, HQ.out.2]; rfl, hb2⟩
        · have hn := HV.out
          rw [if_neg hd] at hn
          have HQ := Lib.hid (num_none_ hn)
          have heq := strNeB hd
          generalize decB (-(u:Int)) = D at *
          clear hn hd HV
          go_wp2_with fail
          refine (HD.out _).mono ?_
          rintro e w2 ⟨rfl, hb2⟩
          go_wp2
          go_ret2
          exact ⟨by rw [HQ.out.1, HQ.out.2]; rfl, hb2⟩
theorem l01Number_any (s : ByteArray) (w : World) (hl : s.size ≤ maxLen) :
    Calls Tryz.prog 123 #[.string s] w fun e w' => e = .returned (.tuple #[.int .i64 (numN s), .bool (numK s)]) ∧ Below w.heap.size w w' := by
  rcases Nat.eq_zero_or_pos s.size with h | h
  · exact l01Number_empty s w h
  · by_cases h45 : s[0] = 45
    · obtain ⟨a, b, _⟩ := cut_neg h h45
      exact l01Number_neg s _ w h rfl (by unfold Hid; omega) a (by rw [h45]; rfl) hl
    · exact l01Number_pos s w h (cut_pos (fun _ => h45)).1 (by
        rw [beq_eq_false_iff_ne]
        intro e
        refine h45 (UInt8.toNat_inj.1 ?_)
        have : (s[0]).toNat = 45 := by omega
        exact this) hl
end Go.Proofs.YtbcikkaoohihhaaGreatDoor
