/- SplitWords and ReadTerms: the reference's walks. No condition but those that each theorem names. -/
import Derived.Test.YtpnabggpdgjbmaaGreatDoorMgBG
import Derived.Test.YtpnabggpdgjbmaaGreatDoorMgAO
namespace Go.Proofs.YtpnabggpdgjbmaaGreatDoor
open Go.RowKit Go.Sort
/-- Words that are left, on their way. -/
def wdF (l : List ByteArray) : List ByteArray := l.filter fun w => decide (w.size ≠ 0)
theorem wdF_step {l : List ByteArray} {k : Nat} {x : ByteArray} (h : l[k]? = some x) : wdF (l.drop k) = if x.size = 0 then wdF (l.drop (k + 1)) else x :: wdF (l.drop (k + 1)) := by
  obtain ⟨h1, h2⟩ := List.getElem?_eq_some_iff.1 h
  rw [List.drop_eq_getElem_cons h1, h2]
  unfold wdF
  rw [List.filter_cons]
  by_cases hx : x.size = 0 <;> simp [hx]
theorem wdF_end {l : List ByteArray} {k : Nat} (h : ¬ k < l.length) : wdF (l.drop k) = [] := by
  rw [List.drop_eq_nil_of_le (by omega)]; rfl
set_option maxRecDepth 100000 in
set_option maxHeartbeats 2000000 in
theorem SplitWords_any (s : ByteArray) (w : World) (hs : s.size ≤ 1000000000) :
    Calls Tryz.prog 140 #[.string s] w (RetStrs w (wdB s)) := by
  obtain ⟨ti, hi, hz0, hz1, hz2⟩ := info_parts infoS
  have HI := Lib.hid hi
  have hct := spB_count 32 s
  have HSP := Lib.hid (fun W : World => l01Split_any s 32 32 rfl W (by omega))
  obtain ⟨R, hR⟩ : ∃ R, wdB s = R := ⟨_, rfl⟩
  rw [hR]
  have HR : Hid (wdF ((spB 32 s).drop 0) = R) := hR
  generalize spB 32 s = WS at *
  obtain ⟨n, hn⟩ : ∃ n, WS.length = n := ⟨_, rfl⟩
  have HN := Lib.hid hn
  unfold RetStrs at HSP
  rw [hn] at HSP hct
  clear hi hR hn
  go_enter Tryz.func140, Tryz.ntmps140
  go_wp2_with fail
  refine (HSP.out _).mono ?_
  rintro e w1 ⟨A1, c1, rfl, hw1, hb1⟩
  have O : Hid (OutT w w1.heap.size [] (.slice (some ⟨w1.heap.size, 0, none⟩) 0 0) (w1.alloc (.cells #[] 9))) := by
    have h := OutT.start w1
    exact ⟨h.1, ext_trans hb1 h.2.1, h.2.2⟩
  have HW : Hid (∀ W, Below w1.heap.size w1 W → Rd Value.string W W.heap.size A1 WS) := fun W hb => (hw1.below hb).rd
  have E1 := Lib.hid hb1
  have B0 : Hid (Below w1.heap.size w1 (w1.alloc (.cells #[] 9))) := ext1 _ _
  clear hw1 hb1 HSP
  go_wp2_with fail
  generalize w1.alloc (.cells #[] 9) = W1 at *
  go_loopw [4, 5] (fun v t wr => ∃ (k : Nat) (out : List ByteArray) (v0 : Value), v0 = v ∧ k ≤ n ∧ out.length ≤ k ∧ t = .int .i64 k ∧ Hid (out ++ wdF (WS.drop k) = R) ∧ Hid (OutT w w1.heap.size out v wr) ∧ Hid (Below w1.heap.size w1 wr)) (fun _ t _ => n - (intOf t).toNat)
  case atStart => exact ⟨0, [], _, rfl, by omega, by simp, rfl, HR.out, O.out, B0.out⟩
  case round =>
    obtain ⟨k, out, v, rfl, hk, ho, rfl, HK, HO, HB⟩ := hrel
    clear HR O B0
    by_cases hlt : k < n
    · obtain ⟨x, hx⟩ : ∃ x, WS[k]? = some x := ⟨_, List.getElem?_eq_getElem (by rw [HN.out]; exact hlt)⟩
      obtain ⟨g, o, rfl, hgl, hcc⟩ := HW.out wr HB.out (by rw [HN.out]; omega)
      have cx := hcc k x hx
      have i0 : (0 : Int) ≤ (k : Int) := by omega
      have i1 : (k : Int) < (n : Int) := by omega
      have HS := Lib.hid (wdF_step hx)
      clear hcc hx
      by_cases h0 : x.size = 0
      · obtain ⟨z1, z2⟩ := empty_eq h0
        have HE : Hid (out ++ wdF (WS.drop (k + 1)) = R) := by
          have h := HK.out
          rw [HS.out, if_pos h0] at h
          exact h
        clear h0 HK
        go_wp2
        go_roundw
        case rel => exact ⟨k + 1, out, _, rfl, by omega, by omega, by go_num, HE.out, HO.out, HB.out⟩
        case measure => simp [intOf]; omega
      · obtain ⟨z1, z2⟩ := empty_ne h0
        have HE : Hid ((out ++ [x]) ++ wdF (WS.drop (k + 1)) = R) := by
          have h := HK.out
          rw [HS.out, if_neg h0] at h
          unfold Hid
          rw [List.append_assoc]
          exact h
        have hown := HO.out.1
        have hbz := HO.out.2.2
        clear h0 HK
        go_wp2_with (at_builtin; refine wpList_append_own _ rfl _ _ 58 rfl w1.heap.size 9 ti (.string ByteArray.empty) 1 16 Tryz.underlying58 HI.out hz0 hz1 hz2 rfl (by decide) _ _ _ rfl (hown.alloc _) ⟨wr.heap.size, 0, none⟩ 1 1 [.string x] rfl rfl ?c1 ?c2 ?c3 ?c4 ?c5 ?_)
        case c1 => exact cell_one_new _ _ _
        case c2 => simp [Value.oneCell']
        case c3 => unfold maxLen; omega
        case c4 => omega
        case c5 => simp; omega
        intro v' w3 hown3 hgrow _
        have HV3 := Lib.hid (OutT.push HO.out E1.out.size _ _ hown3 hgrow)
        have HB3 : Hid (Below w1.heap.size w1 w3) := below_grown (ext_alloc HB.out _) (hown.alloc _) (Nat.le_refl _) hgrow
        clear hown3 hgrow hown HO HB
        go_wp2
        go_roundw
        case rel => exact ⟨k + 1, out ++ [x], _, rfl, by omega, by simp; omega, by go_num, HE.out, HV3.out, HB3.out⟩
        case measure => simp [intOf]; omega
    · have HE : Hid (out = R) := by
        have h := HK.out
        rw [wdF_end (by rw [HN.out]; exact hlt), List.append_nil] at h
        exact h
      have HF : Hid (RetStrs w R (.returned v) wr) := by
        rw [← HE.out]
        obtain ⟨_, A, c, rfl, hw⟩ := Wr.of_own HO.out.1
        exact ⟨A, c, rfl, hw.more E1.out.size, HO.out.2.1⟩
      go_wp2
      go_ret
      exact HF.out
theorem strp_at : ∀ (l : List ByteArray) (k : Nat), (strp l)[k]? = (l[k]?).map fun x => if k + 1 < l.length then headB x else x
  | [], k => by simp [strp]
  | [w], k => by
    cases k with
    | zero => simp [strp]
    | succ k => simp [strp]
  | w :: x :: r, k => by
    cases k with
    | zero => simp [strp]
    | succ k =>
      have ih := strp_at (x :: r) k
      rw [strp, List.getElem?_cons_succ, ih, List.getElem?_cons_succ]
      congr 1
      funext y
      simp only [List.length_cons]
      by_cases h : k + 1 < r.length + 1
      · rw [if_pos h, if_pos (by omega)]
      · rw [if_neg h, if_neg (by omega)]
theorem strp_len : ∀ (l : List ByteArray), (strp l).length = l.length
  | [] => rfl
  | [_] => rfl
  | w :: x :: r => by
    have ih := strp_len (x :: r)
    rw [strp, List.length_cons, ih]
    rfl
theorem rt_facts (s : ByteArray) : (s.size < 3 → rtO s = none) ∧ (∀ h : 0 < s.size, s[0] ≠ 91 → rtO s = none) ∧ (∀ h : s.size - 1 < s.size, s[s.size - 1] ≠ 93 → rtO s = none) ∧ (numsB (strp (wdB (midB s))) = none → rtO s = none) ∧
    (∀ ns, numsB (strp (wdB (midB s))) = some ns → (termsB ns = true → tmT ns = s → rtO s = some ns) ∧ (termsB ns = false → rtO s = none) ∧ (tmT ns ≠ s → rtO s = none)) := by
  have no : (∀ ts, termsB ts = true → tmT ts = s → 3 ≤ s.size → s.data.toList = 91 :: ((midB s).data.toList ++ [93]) → numsB (strp (wdB (midB s))) = some ts → False) → rtO s = none := fun h => rtO_no fun ts h1 h2 => by
    obtain ⟨a, b, c⟩ := rt_ref h1 h2
    exact h ts h1 h2 a b c
  refine ⟨fun h => no fun ts _ _ a _ _ => (by omega), fun h h0 => no fun ts _ _ _ b _ => h0 ?_, fun h h0 => no fun ts _ _ _ b _ => h0 ?_, fun h => no fun ts _ _ _ _ c => (by rw [h] at c; cases c), fun ns hn => ⟨fun h1 h2 => rtO_iff.2 ⟨h1, h2⟩, fun h => no fun ts h1 _ _ _ c => ?_, fun h => no fun ts _ h2 _ _ c => ?_⟩⟩
  · exact (List.cons.inj (b.symm.trans (head_list h))).1.symm
  · have h1 := b.symm.trans (last_list (s := s) (by omega))
    rw [← List.cons_append] at h1
    exact (List.cons.inj (List.append_inj' h1 rfl).2).1.symm
  · have e := Option.some.inj (hn.symm.trans c)
    rw [← e, h] at h1
    cases h1
  · have e := Option.some.inj (hn.symm.trans c)
    rw [← e] at h2
    exact h h2
theorem own_wrT_of {W : World} {base n : Nat} {v : Value} {xs : List Int} (h : W.ownsRow base 2 1 v n (xs.map (Value.int .i64))) : ∃ A c, v = .slice A xs.length c ∧ WrT W base A c xs := by
  obtain ⟨rfl, A, c, rfl, _⟩ := Wr.of_own h
  exact ⟨A, c, rfl, own_wrT h⟩
set_option maxRecDepth 100000 in
set_option maxHeartbeats 4000000 in
theorem sReadTerms_any (s : ByteArray) (w : World) (hs : s.size ≤ 100000000) :
    Calls Tryz.prog 99 #[.string s] w (RetTm w (rtO s)) := by
  obtain ⟨F1, F2, F3, F4, F5⟩ := rt_facts s
  by_cases h3 : s.size < 3
  · have HQ := Lib.hid (F1 h3)
    have i1 : (s.size : Int) < 3 := by omega
    clear F1 F2 F3 F4 F5 h3
    go_enter Tryz.func99, Tryz.ntmps99
    go_wp2
    go_ret2
    exact RetTm.none_ HQ.out (Below.refl _ _)
  have i1 : ¬ (s.size : Int) < 3 := by omega
  have i0 : 0 < s.size := by omega
  obtain ⟨m, hm⟩ : ∃ m : Nat, s.size - 1 = m := ⟨_, rfl⟩
  have hmi : (s.size : Int) - 1 = (m : Int) := by omega
  have hmw : IntKind.i64.wrap (m : Int) = (m : Int) := IntWalk.i64_in _ (by omega)
  have j0 : (0 : Int) ≤ (m : Int) := by omega
  have j1 : (m : Int) < (s.size : Int) := by omega
  have j2 : m < s.size := by omega
  have j3 : (1 : Int) ≤ (m : Int) := by omega
  have j4 : (m : Int) ≤ (s.size : Int) := by omega
  have j5 : 1 ≤ m := by omega
  have j6 : m ≤ s.size := by omega
  by_cases ha : s[0] = 91
  · have ha2 : (((s[0]).toNat : Int) != 91) = false := by rw [ha]; rfl
    by_cases hb : s[m]'j2 = 93
    · have hb2 : (((s[m]'j2).toNat : Int) != 93) = false := by rw [hb]; rfl
      have hmid : s.extract 1 m = midB s := by unfold midB; rw [hm]
      have hmz : (midB s).size ≤ 100000000 := by rw [← hmid, ByteArray.size_extract]; omega
      have HSW : Hid (∀ W, Calls Tryz.prog 140 #[.string (s.extract 1 m)] W (RetStrs W (wdB (midB s)))) := fun W => by
        rw [hmid]
        exact SplitWords_any (midB s) W (by omega)
      obtain ⟨ti, hi, hz0, hz1, hz2⟩ := info_parts info64
      have HI := Lib.hid hi
      have hwsz : ∀ x ∈ wdB (midB s), 1 ≤ x.size ∧ x.size ≤ 100000000 := fun x hx => by
        unfold wdB at hx
        obtain ⟨h1, h2⟩ := List.mem_filter.1 hx
        have := spB_sz h1
        rw [decide_eq_true_iff] at h2
        omega
      have hwct : (wdB (midB s)).length ≤ 100000001 := by
        have h1 := spB_count 32 (midB s)
        have h2 : (wdB (midB s)).length ≤ (spB 32 (midB s)).length := List.length_filter_le _ _
        omega
      have HWSZ := Lib.hid hwsz
      have HST := Lib.hid (strp_at (wdB (midB s)))
      have HSL := Lib.hid (strp_len (wdB (midB s)))
      have HN : Hid (∀ k x, (strp (wdB (midB s)))[k]? = some x → numB x = none → rtO s = none) := fun k x h1 h2 => F4 (nums_none h1 h2)
      have HF : Hid (∀ ns, numsB ((strp (wdB (midB s))).take (strp (wdB (midB s))).length) = some ns → (termsB ns = true → tmT ns = s → rtO s = some ns) ∧ (termsB ns = false → rtO s = none) ∧ (tmT ns ≠ s → rtO s = none)) := fun ns h => F5 ns (by rwa [List.take_of_length_le (Nat.le_refl _)] at h)
      generalize strp (wdB (midB s)) = SW at *
      generalize wdB (midB s) = WS at *
      generalize rtO s = R at *
      obtain ⟨n, hn⟩ : ∃ n, WS.length = n := ⟨_, rfl⟩
      rw [hn] at hwct HSL
      have HNL := Lib.hid hn
      rw [hn] at HST
      unfold RetStrs at HSW
      rw [hn] at HSW
      clear F1 F2 F3 F4 F5 h3 ha hb hm hmid hmz hwsz hn hi
      go_enter Tryz.func99, Tryz.ntmps99
      go_wp2_with fail
      refine (HSW.out _).mono ?_
      rintro e w1 ⟨A1, c1, rfl, hw1, hb1⟩
      have O : Hid (OutI w w1.heap.size [] (.slice (some ⟨w1.heap.size, 0, none⟩) 0 0) (w1.alloc (.cells #[] 2))) := by
        refine ⟨?_, ext_trans hb1 (ext1 _ _), by simp⟩
        have h := World.ownsRow_lit (base := w1.heap.size) (e := 2) (size := 1) w1 #[] 0 (by simp) (by simp) rfl
        simpa using h
      have HW : Hid (∀ W, Below w1.heap.size w1 W → Rd Value.string W W.heap.size A1 WS) := fun W hb => (hw1.below hb).rd
      have E1 := Lib.hid hb1
      have B0 : Hid (Below w1.heap.size w1 (w1.alloc (.cells #[] 2))) := ext1 _ _
      clear hw1 hb1 HSW
      go_wp2_with fail
      generalize w1.alloc (.cells #[] 2) = W1 at *
      go_loopw [6, 7] (fun v t wr => ∃ (k : Nat) (ns : List Int) (v0 : Value), v0 = v ∧ k ≤ n ∧ t = .int .i64 k ∧ Hid (numsB (SW.take k) = some ns) ∧ Hid (OutI w w1.heap.size ns v wr) ∧ Hid (Below w1.heap.size w1 wr)) (fun _ t _ => n - (intOf t).toNat)
      case atStart => exact ⟨0, [], _, rfl, by omega, rfl, rfl, O.out, B0.out⟩
      case round =>
        obtain ⟨k, ns, v, rfl, hk, rfl, HNS, HO, HB⟩ := hrel
        clear O B0
        have HLN : Hid (ns.length ≤ k) := by
          have h := nums_len HNS.out
          rw [List.length_take] at h
          unfold Hid
          omega
        by_cases hlt : k < n
        · obtain ⟨x, hx⟩ : ∃ x, WS[k]? = some x := ⟨_, List.getElem?_eq_getElem (by rw [HNL.out]; exact hlt)⟩
          obtain ⟨hx1, hx2⟩ := HWSZ.out x (List.mem_of_getElem? hx)
          have hsk := HST.out k
          rw [hx] at hsk
          obtain ⟨g, o, rfl, hgl, hcc⟩ := HW.out wr HB.out (by rw [HNL.out]; omega)
          have cx := hcc k x hx
          have l0 : (0 : Int) ≤ (k : Int) := by omega
          have l1 : (k : Int) < (n : Int) := by omega
          have lw : IntKind.i64.wrap ((k : Int) + 1) = (k : Int) + 1 := IntWalk.i64_in _ (by omega)
          clear hcc hx
          obtain ⟨t, ht, htz⟩ : ∃ t, SW[k]? = some t ∧ t.size ≤ 100000000 := ⟨_, hsk, by
            split
            · unfold headB; rw [ByteArray.size_extract]; omega
            · exact hx2⟩
          have HT := Lib.hid ht
          have hqb := num_bd_ t
          by_cases hlast : k + 1 < n
          · obtain ⟨y, hy⟩ : ∃ y : Nat, x.size - 1 = y := ⟨_, rfl⟩
            have htx : x.extract 0 y = t := by
              have h := ht.symm.trans hsk
              simp only [Option.map_some, if_pos hlast] at h
              rw [Option.some.inj h]
              unfold headB
              rw [hy]
            have d0 : (x.size : Int) - 1 = (y : Int) := by omega
            have d1 : IntKind.i64.wrap (y : Int) = (y : Int) := IntWalk.i64_in _ (by omega)
            have d2 : (0 : Int) ≤ (y : Int) := by omega
            have d3 : (y : Int) ≤ (x.size : Int) := by omega
            have d4 : y ≤ x.size := by omega
            have d5 : (k : Int) + 1 < (n : Int) := by omega
            have HC : Hid (Calls Tryz.prog 141 #[.string (x.extract 0 y)] wr fun e w' => e = .returned (.tuple #[.int .i64 (numN t), .bool (numK t)]) ∧ Below wr.heap.size wr w') := by rw [htx]; exact l01Number_any t wr (by unfold maxLen; omega)
            clear hsk hy ht hlast
            cases hkk : numK t
            · have HQ := Lib.hid (HN.out k t HT.out (num_not hkk))
              rw [hkk] at HC
              generalize numN t = q at *
              have HBE := Lib.hid HO.out.2.1
              clear hkk htx
              go_wp2_with fail
              refine HC.out.mono ?_
              rintro e w5 ⟨rfl, hb5⟩
              have E5 := Lib.hid (ext_trans HBE.out hb5)
              go_wp2
              go_ret2
              exact RetTm.none_ HQ.out E5.out
            · have HQ := Lib.hid (nums_take HNS.out HT.out (num_of hkk))
              rw [hkk] at HC
              generalize numN t = q at *
              clear hkk htx
              go_wp2_with fail
              refine HC.out.mono ?_
              rintro e w5 ⟨rfl, hb5⟩
              have HO5 : Hid (OutI w w1.heap.size ns v w5) := ⟨own_below HO.out.1 hb5, ext_trans HO.out.2.1 hb5, Nat.le_trans HO.out.2.2 hb5.size⟩
              have HB5 := Lib.hid (ext_trans HB.out hb5)
              have hown := HO5.out.1
              have hbz := HO5.out.2.2
              have hl1 := HLN.out
              have hz1e := E1.out.size
              clear HO HB hb5
              go_wp2_with (at_builtin; refine wpList_append_own _ rfl _ _ 27 rfl w1.heap.size 2 ti (.int .i64 0) 1 8 Tryz.underlying27 HI.out hz0 hz1 hz2 rfl (by decide) _ _ _ rfl (hown.alloc _) ⟨w5.heap.size, 0, none⟩ 1 1 [.int .i64 q] rfl rfl ?c1 ?c2 ?c3 ?c4 ?c5 ?_)
              case c1 => exact cell_one_new _ _ _
              case c2 => simp [Value.oneCell']
              case c3 => unfold maxLen; omega
              case c4 => omega
              case c5 => simp; omega
              intro v' w6 hown3 hgrow _
              have HV6 := Lib.hid (OutI.push HO5.out hz1e _ _ hown3 hgrow)
              have HB6 : Hid (Below w1.heap.size w1 w6) := below_grown (ext_alloc HB5.out _) (hown.alloc _) (Nat.le_refl _) hgrow
              clear hown3 hgrow hown HO5 HB5
              go_wp2
              go_roundw
              case rel => exact ⟨k + 1, ns ++ [q], _, rfl, by omega, by go_num, HQ.out, HV6.out, HB6.out⟩
              case measure => simp [intOf]; omega
          · have htx : x = t := by
              have h := ht.symm.trans hsk
              simp only [Option.map_some, if_neg hlast] at h
              exact (Option.some.inj h).symm
            have d5 : ¬ (k : Int) + 1 < (n : Int) := by omega
            have HC : Hid (Calls Tryz.prog 141 #[.string x] wr fun e w' => e = .returned (.tuple #[.int .i64 (numN t), .bool (numK t)]) ∧ Below wr.heap.size wr w') := by rw [htx]; exact l01Number_any t wr (by unfold maxLen; omega)
            clear hsk ht hlast
            cases hkk : numK t
            · have HQ := Lib.hid (HN.out k t HT.out (num_not hkk))
              rw [hkk] at HC
              generalize numN t = q at *
              have HBE := Lib.hid HO.out.2.1
              clear hkk htx
              go_wp2_with fail
              refine HC.out.mono ?_
              rintro e w5 ⟨rfl, hb5⟩
              have E5 := Lib.hid (ext_trans HBE.out hb5)
              go_wp2
              go_ret2
              exact RetTm.none_ HQ.out E5.out
            · have HQ := Lib.hid (nums_take HNS.out HT.out (num_of hkk))
              rw [hkk] at HC
              generalize numN t = q at *
              clear hkk htx
              go_wp2_with fail
              refine HC.out.mono ?_
              rintro e w5 ⟨rfl, hb5⟩
              have HO5 : Hid (OutI w w1.heap.size ns v w5) := ⟨own_below HO.out.1 hb5, ext_trans HO.out.2.1 hb5, Nat.le_trans HO.out.2.2 hb5.size⟩
              have HB5 := Lib.hid (ext_trans HB.out hb5)
              have hown := HO5.out.1
              have hbz := HO5.out.2.2
              have hl1 := HLN.out
              have hz1e := E1.out.size
              clear HO HB hb5
              go_wp2_with (at_builtin; refine wpList_append_own _ rfl _ _ 27 rfl w1.heap.size 2 ti (.int .i64 0) 1 8 Tryz.underlying27 HI.out hz0 hz1 hz2 rfl (by decide) _ _ _ rfl (hown.alloc _) ⟨w5.heap.size, 0, none⟩ 1 1 [.int .i64 q] rfl rfl ?c1 ?c2 ?c3 ?c4 ?c5 ?_)
              case c1 => exact cell_one_new _ _ _
              case c2 => simp [Value.oneCell']
              case c3 => unfold maxLen; omega
              case c4 => omega
              case c5 => simp; omega
              intro v' w6 hown3 hgrow _
              have HV6 := Lib.hid (OutI.push HO5.out hz1e _ _ hown3 hgrow)
              have HB6 : Hid (Below w1.heap.size w1 w6) := below_grown (ext_alloc HB5.out _) (hown.alloc _) (Nat.le_refl _) hgrow
              clear hown3 hgrow hown HO5 HB5
              go_wp2
              go_roundw
              case rel => exact ⟨k + 1, ns ++ [q], _, rfl, by omega, by go_num, HQ.out, HV6.out, HB6.out⟩
              case measure => simp [intOf]; omega
        · have hkn : k = n := by omega
          have HN2 : Hid (numsB (SW.take SW.length) = some ns) := by rw [HSL.out, ← hkn]; exact HNS.out
          obtain ⟨G1, G2, G3⟩ := HF.out ns HN2.out
          have HWT := Lib.hid (own_wrT_of HO.out.1)
          obtain ⟨A, c, hv, hwt⟩ := HWT.out
          subst hv
          have hnl : ns.length ≤ 100000001 := by have := HLN.out; omega
          have HV := Lib.hid (l03Ok_any A c ns wr hwt.1.rd (by unfold maxLen; omega))
          have HWW := Lib.hid hwt
          have HBE := Lib.hid HO.out.2.1
          have hz1 := E1.out.size
          clear HWT hkn HNS HN2 hwt
          cases hv : termsB ns
          · have HQ := Lib.hid (G2 hv)
            rw [hv] at HV
            clear G1 G2 G3 hv
            go_wp2_with fail
            refine HV.out.mono ?_
            rintro e w' ⟨rfl, rfl⟩
            go_wp2
            go_ret2
            exact RetTm.none_ HQ.out HBE.out
          · obtain ⟨b1, b2, b3⟩ := termsBBd hv
            have HX := Lib.hid (l03Text_any A c ns wr HWW.out.1.rd b1 b2 b3)
            rw [hv] at HV
            by_cases hx : tmT ns = s
            · have HQ := Lib.hid (G1 hv hx)
              have heq := strEqB hx
              generalize tmT ns = X at *
              clear G1 G2 G3 hv hx b1 b2 b3
              go_wp2_with fail
              refine HV.out.mono ?_
              rintro e w' ⟨rfl, rfl⟩
              go_wp2_with fail
              refine HX.out.mono ?_
              rintro e w9 ⟨rfl, hb9⟩
              have HW9 : Hid (WrT w9 w1.heap.size A c ns) := ⟨HWW.out.1.below hb9, HWW.out.2⟩
              have E9 := Lib.hid (ext_trans HBE.out hb9)
              go_wp2
              go_ret2
              rw [HQ.out]
              exact ⟨A, c, rfl, ⟨HW9.out.1.more hz1, HW9.out.2⟩, E9.out⟩
            · have HQ := Lib.hid (G3 hx)
              have heq := strNeB hx
              generalize tmT ns = X at *
              clear G1 G2 G3 hv hx b1 b2 b3
              go_wp2_with fail
              refine HV.out.mono ?_
              rintro e w' ⟨rfl, rfl⟩
              go_wp2_with fail
              refine HX.out.mono ?_
              rintro e w9 ⟨rfl, hb9⟩
              have E9 := Lib.hid (ext_trans HBE.out hb9)
              go_wp2
              go_ret2
              exact RetTm.none_ HQ.out E9.out
    · have HQ := Lib.hid (F3 (by omega) (fun e => hb (by subst hm; exact e)))
      have hb2 : (((s[m]'j2).toNat : Int) != 93) = true := by
        rw [bne_iff_ne]
        intro e
        exact hb (UInt8.toNat_inj.1 (by show _ = 93; omega))
      clear F1 F2 F3 F4 F5 h3 ha hb hm
      go_enter Tryz.func99, Tryz.ntmps99
      go_wp2
      go_ret2
      exact RetTm.none_ HQ.out (Below.refl _ _)
  · have HQ := Lib.hid (F2 i0 ha)
    have ha2 : (((s[0]).toNat : Int) != 91) = true := by
      rw [bne_iff_ne]
      intro e
      exact ha (UInt8.toNat_inj.1 (by show _ = 91; omega))
    clear F1 F2 F3 F4 F5 h3 ha hm
    go_enter Tryz.func99, Tryz.ntmps99
    go_wp2
    go_ret2
    exact RetTm.none_ HQ.out (Below.refl _ _)
end Go.Proofs.YtpnabggpdgjbmaaGreatDoor
