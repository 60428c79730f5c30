/- Steps of scales: the reference's walks. No condition but those that each theorem names. -/
import Derived.Test.YtdjnblkgeaphmaaStepP
import Derived.Test.YtdjnblkgeaphmaaScaleSW
namespace Go.Proofs.Ytdjnblkgeaphmaa
open Go.RowKit Go.Sort

theorem outI_start0 (w : World) : OutI w w.heap.size [] (.slice (some ⟨w.heap.size, 0, none⟩) 0 0) (w.alloc (.cells #[] 2)) := by
  refine ⟨?_, ext1 _ _, by simp⟩
  have h := World.ownsRow_lit (base := w.heap.size) (e := 2) (size := 1) w #[] 0 (by simp) (by simp) rfl
  simpa using h
theorem fold_step {x : Int} {xs : List Int} {k : Nat} {y : Int} {s R : List Int × Bool} (h : (xs.drop k).foldl (stepF x) s = R) (hy : xs[k]? = some y) : (xs.drop (k + 1)).foldl (stepF x) (stepF x s y) = R := by
  obtain ⟨h1, h2⟩ := List.getElem?_eq_some_iff.1 hy
  rw [List.drop_eq_getElem_cons h1, h2, List.foldl_cons] at h
  exact h
theorem fold_end {x : Int} {xs : List Int} {k : Nat} {s R : List Int × Bool} (h : (xs.drop k).foldl (stepF x) s = R) (hk : ¬ k < xs.length) : s = R := by
  rw [List.drop_eq_nil_of_le (by omega)] at h
  exact h

set_option maxHeartbeats 2000000 in
theorem l00Put_any (A : Option Addr) (c : Nat) (xs : List Int) (x : Int) (w : World) (hx : Rd (Value.int .i64) w w.heap.size A xs) (hl : xs.length ≤ 1000) :
    Calls Try.prog 136 #[.slice A xs.length c, .int .i64 x] w (RetList w (putL' xs x)) := by
  obtain ⟨i0, hi, hz0, hz1, hz2⟩ := info_parts info64
  have HI := Lib.hid hi
  clear hi
  obtain ⟨R, hR⟩ : ∃ R, xs.foldl (stepF x) ([], false) = R := ⟨_, rfl⟩
  have HP : Hid (putL' xs x = endF x R) := by unfold Hid putL'; rw [hR]
  rw [HP.out]
  clear HP
  have HR : Hid ((xs.drop 0).foldl (stepF x) ([], false) = R) := hR
  clear hR
  have HV0 := Lib.hid (outI_start0 w)
  go_enter Try.func136, Try.ntmps136
  go_wp2_with fail
  go_loopw [7, 5, 6] (fun t v d wr => ∃ (k : Nat) (out : List Int) (b : Bool), k ≤ xs.length ∧ t = .int .i64 k ∧ d = .bool b ∧ out.length ≤ 2 * k ∧ Hid ((xs.drop k).foldl (stepF x) (out, b) = R) ∧ Hid (OutI w w.heap.size out v wr)) (fun t _ _ _ => xs.length - (intOf t).toNat)
  case atStart => exact ⟨0, [], false, by omega, rfl, rfl, by simp, HR.out, HV0.out⟩
  case round =>
    obtain ⟨k, out, b, hk, rfl, rfl, hol, HO, HVV⟩ := hrel
    clear HR HV0
    have hbe := HVV.out.2.1
    by_cases hlt : k < xs.length
    · obtain ⟨g, off, rfl, hg, hc⟩ := hx (by omega)
      obtain ⟨y, hyk⟩ : ∃ y, xs[k]? = some y := ⟨_, List.getElem?_eq_getElem hlt⟩
      have c1 := (hbe.cell (p := ⟨g, off + k, none⟩) hg).trans (hc k y hyk)
      have HS := Lib.hid (fold_step HO.out hyk)
      have i0' : (0 : Int) ≤ (k : Int) := by omega
      have i1 : (k : Int) < (xs.length : Int) := by omega
      clear hc hyk HO
      cases b
      · by_cases h1 : x ≤ y
        · have t1 : decide (x ≤ y) = true := by simpa using h1
          by_cases h2 : x < y
          · have t2 : decide (x < y) = true := by simpa using h2
            have HN : Hid ((xs.drop (k + 1)).foldl (stepF x) (out ++ [x] ++ [y], true) = R) := by
              have h := HS.out
              rwa [show stepF x (out, false) y = (out ++ [x] ++ [y], true) by simp [stepF, h1, h2]] at h
            clear HS h1 h2
            have hown := HVV.out.1
            have hbz := HVV.out.2.2
            go_wp2_with (at_builtin; refine wpList_append_own _ rfl _ _ 26 rfl w.heap.size 2 i0 (.int .i64 0) 1 8 Try.underlying26 HI.out hz0 hz1 hz2 rfl (by decide) _ _ _ rfl (hown.alloc _) ⟨wr.heap.size, 0, none⟩ 1 1 [.int .i64 x] rfl rfl (cell_one_new _ _ _) (by simp [Value.oneCell']) (by unfold maxLen; omega) (by omega) (by simp; omega) ?_)
            intro v1 w1 hown3 hgrow _
            have HV1 := Lib.hid (OutI.push HVV.out (by omega) _ _ hown3 hgrow)
            have c2 : w1.cell? ⟨g, off + k, none⟩ = some (.int .i64 y) := (HV1.out.2.1.cell (p := ⟨g, off + k, none⟩) hg).trans ((hbe.cell (p := ⟨g, off + k, none⟩) hg).symm.trans c1)
            clear hown3 hgrow hown hbz HVV
            have hown := HV1.out.1
            have hbz := HV1.out.2.2
            have hl1 : (out ++ [x]).length = out.length + 1 := by simp
            rw [hl1] at hown
            go_wp2_with (at_builtin; refine wpList_append_own _ rfl _ _ 26 rfl w.heap.size 2 i0 (.int .i64 0) 1 8 Try.underlying26 HI.out hz0 hz1 hz2 rfl (by decide) _ _ _ rfl (hown.alloc _) ⟨w1.heap.size, 0, none⟩ 1 1 [.int .i64 y] rfl rfl (cell_one_new _ _ _) (by simp [Value.oneCell']) (by unfold maxLen; omega) (by omega) (by simp; omega) ?_)
            intro v2 w2 hown3 hgrow _
            have HV2 := OutI.push HV1.out (by omega) _ _ (by simpa using hown3) hgrow
            clear hown3 hgrow hown
            go_wp2
            go_roundw
            case rel => exact ⟨k + 1, _, _, by omega, by go_num, rfl, by simp; omega, HN.out, HV2⟩
            case measure => simp [intOf]; omega
          · have t2 : decide (x < y) = false := by simpa using h2
            have HN : Hid ((xs.drop (k + 1)).foldl (stepF x) (out ++ [y], true) = R) := by
              have h := HS.out
              rwa [show stepF x (out, false) y = (out ++ [y], true) by simp [stepF, h1, h2]] at h
            clear HS h1 h2
            have hown := HVV.out.1
            have hbz := HVV.out.2.2
            go_wp2_with (at_builtin; refine wpList_append_own _ rfl _ _ 26 rfl w.heap.size 2 i0 (.int .i64 0) 1 8 Try.underlying26 HI.out hz0 hz1 hz2 rfl (by decide) _ _ _ rfl (hown.alloc _) ⟨wr.heap.size, 0, none⟩ 1 1 [.int .i64 y] rfl rfl (cell_one_new _ _ _) (by simp [Value.oneCell']) (by unfold maxLen; omega) (by omega) (by simp; omega) ?_)
            intro v1 w1 hown3 hgrow _
            have HV1 := OutI.push HVV.out (by omega) _ _ hown3 hgrow
            clear hown3 hgrow hown
            go_wp2
            go_roundw
            case rel => exact ⟨k + 1, _, _, by omega, by go_num, rfl, by simp; omega, HN.out, HV1⟩
            case measure => simp [intOf]; omega
        · have t1 : decide (x ≤ y) = false := by simpa using h1
          have HN : Hid ((xs.drop (k + 1)).foldl (stepF x) (out ++ [y], false) = R) := by
            have h := HS.out
            rwa [show stepF x (out, false) y = (out ++ [y], false) by simp [stepF, h1]] at h
          clear HS h1
          have hown := HVV.out.1
          have hbz := HVV.out.2.2
          go_wp2_with (at_builtin; refine wpList_append_own _ rfl _ _ 26 rfl w.heap.size 2 i0 (.int .i64 0) 1 8 Try.underlying26 HI.out hz0 hz1 hz2 rfl (by decide) _ _ _ rfl (hown.alloc _) ⟨wr.heap.size, 0, none⟩ 1 1 [.int .i64 y] rfl rfl (cell_one_new _ _ _) (by simp [Value.oneCell']) (by unfold maxLen; omega) (by omega) (by simp; omega) ?_)
          intro v1 w1 hown3 hgrow _
          have HV1 := OutI.push HVV.out (by omega) _ _ hown3 hgrow
          clear hown3 hgrow hown
          go_wp2
          go_roundw
          case rel => exact ⟨k + 1, _, _, by omega, by go_num, rfl, by simp; omega, HN.out, HV1⟩
          case measure => simp [intOf]; omega
      · have HN : Hid ((xs.drop (k + 1)).foldl (stepF x) (out ++ [y], true) = R) := by
          have h := HS.out
          rwa [show stepF x (out, true) y = (out ++ [y], true) by simp [stepF]] at h
        clear HS
        have hown := HVV.out.1
        have hbz := HVV.out.2.2
        go_wp2_with (at_builtin; refine wpList_append_own _ rfl _ _ 26 rfl w.heap.size 2 i0 (.int .i64 0) 1 8 Try.underlying26 HI.out hz0 hz1 hz2 rfl (by decide) _ _ _ rfl (hown.alloc _) ⟨wr.heap.size, 0, none⟩ 1 1 [.int .i64 y] rfl rfl (cell_one_new _ _ _) (by simp [Value.oneCell']) (by unfold maxLen; omega) (by omega) (by simp; omega) ?_)
        intro v1 w1 hown3 hgrow _
        have HV1 := OutI.push HVV.out (by omega) _ _ hown3 hgrow
        clear hown3 hgrow hown
        go_wp2
        go_roundw
        case rel => exact ⟨k + 1, _, _, by omega, by go_num, rfl, by simp; omega, HN.out, HV1⟩
        case measure => simp [intOf]; omega
    · have HE := Lib.hid (fold_end HO.out hlt)
      clear HO
      cases b
      · have hown := HVV.out.1
        have hbz := HVV.out.2.2
        go_wp2_with (at_builtin; refine wpList_append_own _ rfl _ _ 26 rfl w.heap.size 2 i0 (.int .i64 0) 1 8 Try.underlying26 HI.out hz0 hz1 hz2 rfl (by decide) _ _ _ rfl (hown.alloc _) ⟨wr.heap.size, 0, none⟩ 1 1 [.int .i64 x] rfl rfl (cell_one_new _ _ _) (by simp [Value.oneCell']) (by unfold maxLen; omega) (by omega) (by simp; omega) ?_)
        intro v1 w1 hown3 hgrow _
        have HV1 := Lib.hid (OutI.push HVV.out (by omega) _ _ hown3 hgrow)
        clear hown3 hgrow hown
        go_wp2
        go_ret
        rw [← HE.out]
        obtain ⟨hown, hbel, hsz⟩ := HV1.out
        obtain ⟨hn, A, c, rfl, hw⟩ := Wr.of_own hown
        exact ⟨A, c, by simp [endF], by simpa [endF] using hw, hbel⟩
      · go_wp2
        go_ret
        rw [← HE.out]
        obtain ⟨hown, hbel, hsz⟩ := HVV.out
        obtain ⟨hn, A, c, rfl, hw⟩ := Wr.of_own hown
        exact ⟨A, c, by simp [endF], by simpa [endF] using hw, hbel⟩
theorem dfs_step {n k : Nat} : dfs n (k + 1) = dfs n k ++ [dfAt n k] := by unfold dfs; rw [List.range_succ, List.map_append]; rfl
def putAll (n k : Nat) : List Int := (dfs n k).foldl putL' []
theorem putAll_step (n k : Nat) : putAll n (k + 1) = putL' (putAll n k) (dfAt n k) := by unfold putAll; rw [dfs_step, List.foldl_append]; rfl
theorem putAll_len (n k : Nat) : (putAll n k).length ≤ k := by
  induction k with
  | zero => simp [putAll, dfs]
  | succ k ih =>
    rw [putAll_step]
    have := putL'_len (putAll n k) (dfAt n k)
    omega
theorem srtI_at {n k : Nat} (h2 : n ≤ 40) (hk : k < n) : (srtI n)[k]? = some ((srtI n).getD k 0) := by
  have := srtI_len h2
  rw [List.getD_eq_getElem?_getD, List.getElem?_eq_getElem (by omega)]; rfl
theorem srtI_last {n : Nat} (h2 : n ≤ 40) : (srtI n).getD n 0 = 0 := by
  have := srtI_len h2
  rw [List.getD_eq_getElem?_getD, List.getElem?_eq_none (by omega)]; rfl
set_option maxHeartbeats 2000000 in
theorem sStep_good (n : Nat) (w : World) (h1 : 1 ≤ n) (h2 : n ≤ 40) :
    Calls Try.prog 51 #[.int .i64 (n : Int)] w fun e w' => e = .returned (.tuple #[.int .i64 (cntS n : Int), .int .i64 0]) ∧ Below w.heap.size w w' := by
  have HIN : Hid (inR (n : Int) 1 40 = true) := inR_true.2 ⟨by omega, by omega⟩
  have hln := Lib.hid (srtI_len h2)
  go_enter Try.func51, Try.ntmps51
  go_wp2_with (first | (go_at_call 115; (with_reducible refine (l00In_is HIN.out _).mono ?_); rintro e w' ⟨rfl, rfl⟩))
  refine (l25Notes_any n _ h2).mono ?_
  rintro e w1 ⟨A, c, rfl, hw, hb⟩
  rw [hln.out]
  have HW := Lib.hid hw
  clear hw
  have h0 := hb.size
  go_wp2_with fail
  have HL0 : Hid (Wr (Value.int .i64) (w1.alloc (.cells #[] 2)) w.heap.size (some ⟨w1.heap.size, 0, none⟩) []) := fun h => absurd h (by simp)
  have hbb := ext_alloc hb (.cells #[] 2)
  have HW2 := Lib.hid ((HW.out.rd.below (ext1 w1 (.cells #[] 2))))
  have hWs : w1.heap.size < (w1.alloc (.cells #[] 2)).heap.size := by simp
  generalize hWW : w1.alloc (.cells #[] 2) = W0 at *
  clear hWW HW
  go_loopw [6, 5] (fun t v wr => ∃ (k : Nat) (B : Option Addr) (d : Nat), k ≤ n ∧ t = .int .i64 k ∧ v = .slice B (putAll n k).length d ∧ Hid (Wr (Value.int .i64) wr w.heap.size B (putAll n k)) ∧ Below W0.heap.size W0 wr) (fun t _ _ => n - (intOf t).toNat)
  case atStart => exact ⟨0, some ⟨w1.heap.size, 0, none⟩, 0, by omega, rfl, rfl, HL0.out, Below.refl _ _⟩
  case round =>
    obtain ⟨k, B, d, hk, rfl, rfl, HB, hbe⟩ := hrel
    by_cases hlt : k < n
    · obtain ⟨g, off, rfl, hg, hc⟩ := HW2.out (by rw [hln.out]; omega)
      have hsz0 : g < W0.heap.size := by have := hbb.size; omega
      have c1 := (hbe.cell (p := ⟨g, off + k, none⟩) hsz0).trans (hc k _ (srtI_at h2 hlt))
      obtain ⟨s1, s2⟩ := smallI_true (dfs_small (j := k) h1 h2 (by omega))
      obtain ⟨s3, s4⟩ := smallI_true (dfs_small (j := k + 1) h1 h2 (by omega))
      have hpl := putAll_len n k
      have HS := Lib.hid (putAll_step n k)
      have HD : Hid ((srtI n).getD (k + 1) 0 - (srtI n).getD k 0 = dfAt n k) := rfl
      have HPut := Lib.hid (fun (W : World) (z : Int) (hR : Rd (Value.int .i64) W W.heap.size B (putAll n k)) => l00Put_any B d (putAll n k) z W hR (by omega))
      have i0 : (0 : Int) ≤ (k : Int) := by omega
      have i1 : (k : Int) < (n : Int) := by omega
      by_cases hl : k + 1 < n
      · have c2 := (hbe.cell (p := ⟨g, off + (k + 1), none⟩) hsz0).trans (hc (k + 1) _ (srtI_at h2 hl))
        have i2 : (0 : Int) ≤ (k : Int) + 1 := by omega
        have i3 : (k : Int) + 1 < (n : Int) := by omega
        clear hc
        generalize (srtI n).getD (k + 1) 0 = y at *
        generalize (srtI n).getD k 0 = x at *
        generalize hpp : putAll n k = L at *
        clear hpp
        go_wp2_with fail
        refine (HPut.out _ _ (HB.out.rd)).mono ?_
        rintro e w2 ⟨B2, d2, rfl, hw2, hb2⟩
        rw [HD.out] at hw2 ⊢
        rw [← HS.out] at hw2 ⊢
        have HW3 := Lib.hid (hw2.more (show w.heap.size ≤ wr.heap.size by have := hbe.size; have := hbb.size; omega))
        clear hw2
        go_wp2
        go_roundw
        case rel => exact ⟨k + 1, B2, d2, by omega, by go_num, rfl, HW3.out, ext_trans hbe hb2⟩
        case measure => simp [intOf]; omega
      · have hkn : Hid ((srtI n).getD (k + 1) 0 = 0) := by
          have : k + 1 = n := by omega
          unfold Hid
          rw [this]
          exact srtI_last h2
        have i3 : ¬ (k : Int) + 1 < (n : Int) := by omega
        rw [hkn.out] at HD s3 s4
        clear hc s3 s4 hkn
        generalize (srtI n).getD k 0 = x at *
        generalize hpp : putAll n k = L at *
        clear hpp
        go_wp2_with fail
        refine (HPut.out _ _ (HB.out.rd)).mono ?_
        rintro e w2 ⟨B2, d2, rfl, hw2, hb2⟩
        rw [show -x = dfAt n k by have := HD.out; omega] at hw2 ⊢
        rw [← HS.out] at hw2 ⊢
        have HW3 := Lib.hid (hw2.more (show w.heap.size ≤ wr.heap.size by have := hbe.size; have := hbb.size; omega))
        clear hw2
        go_wp2
        go_roundw
        case rel => exact ⟨k + 1, B2, d2, by omega, by go_num, rfl, HW3.out, ext_trans hbe hb2⟩
        case measure => simp [intOf]; omega
    · obtain rfl : k = n := by omega
      go_wp2
      go_ret2
      exact ⟨rfl, ext_trans hbb hbe⟩
end Go.Proofs.Ytdjnblkgeaphmaa
