/- OctaveTerms: both walks. No condition but those that each theorem names. -/
import Derived.Test.YtdjnblkgeaphmaaGear
import Derived.Test.YtdjnblkgeaphmaaSlices
namespace Go.Proofs.Ytdjnblkgeaphmaa
open Go.RowKit Go.Sort

def octL : List Int := [0, 1, 1, 2, 2]
def oT (i : Nat) : Nat := [0, 1, 1, 2, 2].getD i 0
def oP (i : Nat) : Int := [1, 0, 1, 1, 3, 7].getD i 0
def oQ (i : Nat) : Int := [0, 1, 1, 2, 5, 12].getD i 0
def oPP (i : Nat) : Int := [0, 1, 0, 1, 1, 3].getD i 0
def oQQ (i : Nat) : Int := [1, 0, 1, 1, 2, 5].getD i 0
def belowB (k n : Int) (low : Bool) : Bool := if 39 < n then false else if low then decide (k ≤ octv n.toNat) else decide ((octv n.toNat : Int) < k)

theorem oct_test : ∀ i, i < 5 → ∀ t, t ≤ oT i → belowB (oPP i + ((t : Int) + 1) * oP i) (oQQ i + ((t : Int) + 1) * oQ i) ((i : Int) % 2 == 0) = decide (t < oT i) := by
  have h : (List.range 5).all (fun i => (List.range (oT i + 1)).all fun t => belowB (oPP i + ((t : Int) + 1) * oP i) (oQQ i + ((t : Int) + 1) * oQ i) ((i : Int) % 2 == 0) == decide (t < oT i)) = true := by decide +kernel
  intro i hi t ht
  have h1 := List.all_eq_true.1 h i (List.mem_range.2 hi)
  have h2 := List.all_eq_true.1 h1 t (List.mem_range.2 (by omega))
  exact eq_of_beq h2
theorem oct_bd : ∀ i, i < 5 → ∀ t, t ≤ oT i → oT i ≤ 2 ∧ 0 ≤ oP i ∧ oP i ≤ 20 ∧ 0 ≤ oQ i ∧ oQ i ≤ 20 ∧ 0 ≤ oPP i ∧ oPP i ≤ 20 ∧ 0 ≤ oQQ i ∧ oQQ i ≤ 20 ∧ 0 ≤ ((t : Int) + 1) * oP i ∧ ((t : Int) + 1) * oP i ≤ 60 ∧ 0 ≤ ((t : Int) + 1) * oQ i ∧ ((t : Int) + 1) * oQ i ≤ 60 ∧
    0 ≤ (t : Int) * oP i ∧ (t : Int) * oP i ≤ 60 ∧ 0 ≤ (t : Int) * oQ i ∧ (t : Int) * oQ i ≤ 60 := by
  have h : (List.range 5).all (fun i => (List.range (oT i + 1)).all fun t => decide (oT i ≤ 2 ∧ 0 ≤ oP i ∧ oP i ≤ 20 ∧ 0 ≤ oQ i ∧ oQ i ≤ 20 ∧ 0 ≤ oPP i ∧ oPP i ≤ 20 ∧ 0 ≤ oQQ i ∧ oQQ i ≤ 20 ∧ 0 ≤ ((t : Int) + 1) * oP i ∧ ((t : Int) + 1) * oP i ≤ 60 ∧ 0 ≤ ((t : Int) + 1) * oQ i ∧ ((t : Int) + 1) * oQ i ≤ 60 ∧
    0 ≤ (t : Int) * oP i ∧ (t : Int) * oP i ≤ 60 ∧ 0 ≤ (t : Int) * oQ i ∧ (t : Int) * oQ i ≤ 60)) = true := by decide +kernel
  intro i hi t ht
  exact of_decide_eq_true (List.all_eq_true.1 (List.all_eq_true.1 h i (List.mem_range.2 hi)) t (List.mem_range.2 (by omega)))
theorem oct_next : ∀ i, i < 5 → oPP (i + 1) = oP i ∧ oQQ (i + 1) = oQ i ∧ oP (i + 1) = oPP i + (oT i : Int) * oP i ∧ oQ (i + 1) = oQQ i + (oT i : Int) * oQ i ∧ octL.take (i + 1) = octL.take i ++ [(oT i : Int)] := by
  have h : (List.range 5).all (fun i => decide (oPP (i + 1) = oP i ∧ oQQ (i + 1) = oQ i ∧ oP (i + 1) = oPP i + (oT i : Int) * oP i ∧ oQ (i + 1) = oQQ i + (oT i : Int) * oQ i ∧ octL.take (i + 1) = octL.take i ++ [(oT i : Int)])) = true := by decide +kernel
  intro i hi
  exact of_decide_eq_true (List.all_eq_true.1 h i (List.mem_range.2 hi))

theorem l25Below_any (k n : Int) (low : Bool) (w : World) (h0 : 0 ≤ n) :
    Calls Try.prog 145 #[.int .i64 k, .int .i64 n, .bool low] w fun e w' => e = .returned (.bool (belowB k n low)) ∧ w = w' := by
  obtain ⟨m, rfl⟩ := Int.eq_ofNat_of_zero_le h0
  by_cases h : (39 : Int) < m
  · go_enter Try.func145, Try.ntmps145
    go_wp2
    go_ret
    exact ⟨ret_bool (by simp [belowB]; omega), rfl⟩
  · cases low
    all_goals
      go_enter Try.func145, Try.ntmps145
      go_wp2_with (go_at_call 140; refine (l25Octaves_any _ _ (by omega)).mono ?_; rintro e w' ⟨rfl, rfl⟩)
      go_ret
      refine ⟨ret_bool ?_, rfl⟩
      unfold belowB
      rw [if_neg (by omega)]
      simp

def octXs (n : Int) : List Int := if inR n 0 5 = true then octL.take n.toNat else []
def octC (n : Int) : Int := if inR n 0 5 = true then 0 else 2

theorem iOctaveTerms_any (n : Int) (w : World) : Calls Try.prog 65 #[.int .i64 n] w (RetInts w (octXs n) (octC n)) := by
  cases h : inR n 0 5
  · have e1 : octXs n = [] := by simp [octXs, h]
    have e2 : octC n = 2 := by simp [octC, h]
    rw [e1, e2]
    clear e1 e2
    go_enter Try.func65, Try.ntmps65
    go_wp2_with (go_at_call 110; refine (within_any _ _ _ _).mono ?_; rintro e w' ⟨rfl, rfl⟩)
    go_ret2
    exact ⟨none, 0, rfl, fun h => absurd h (by simp), Below.refl _ _⟩
  · obtain ⟨h0, h1⟩ := inR_true.1 h
    obtain ⟨m, rfl⟩ := Int.eq_ofNat_of_zero_le h0
    have e1 : octXs m = octL.take m := by simp [octXs, h]
    have e2 : octC m = 0 := by simp [octC, h]
    rw [e1, e2]
    have hlen : (octL.take m).length = m := by rw [List.length_take]; simp [octL]; omega
    have HL := Lib.hid hlen
    clear e1 e2 hlen
    go_enter Try.func65, Try.ntmps65
    go_wp2_with (go_at_call 110; refine (within_any _ _ _ _).mono ?_; rintro e w' ⟨rfl, rfl⟩)
    go_ret2
    refine ⟨some ⟨w.heap.size, 0, none⟩, 5, by rw [HL.out]; rfl, fun _ => ⟨w.heap.size, 0, rfl, Nat.le_refl _, by simp, fun j x hx => ?_, fun j => World.frozen?_alloc_at _ _ _ _ rfl⟩, ext_alloc (Below.refl _ _) _⟩
    rw [Nat.zero_add, cell_one]
    have hx' : octL[j]? = some x := by
      rw [List.getElem?_take] at hx
      split at hx
      · exact hx
      · cases hx
    match j, hx' with
    | 0, h => simp [octL] at h; simp [h]
    | 1, h => simp [octL] at h; simp [h]
    | 2, h => simp [octL] at h; simp [h]
    | 3, h => simp [octL] at h; simp [h]
    | 4, h => simp [octL] at h; simp [h]
    | j + 5, h => simp [octL] at h

set_option maxHeartbeats 1000000 in
theorem sOctaveTerms_any (n : Int) (w : World) : Calls Try.prog 66 #[.int .i64 n] w (RetInts w (octXs n) (octC n)) := by
  cases h : inR n 0 5
  · have e1 : octXs n = [] := by simp [octXs, h]
    have e2 : octC n = 2 := by simp [octC, h]
    rw [e1, e2]
    clear e1 e2
    go_enter Try.func66, Try.ntmps66
    go_wp2_with (go_at_call 115; refine (l00In_any _ _ _ _).mono ?_; rintro e w' ⟨rfl, rfl⟩)
    go_ret2
    exact ⟨none, 0, rfl, fun h => absurd h (by simp), Below.refl _ _⟩
  · obtain ⟨h0, h1⟩ := inR_true.1 h
    obtain ⟨m, rfl⟩ := Int.eq_ofNat_of_zero_le h0
    have e1 : octXs m = octL.take m := by simp [octXs, h]
    have e2 : octC m = 0 := by simp [octC, h]
    rw [e1, e2]
    clear e1 e2
    obtain ⟨i0, hi, hz0, hz1, hz2⟩ := info_parts info64
    have HI := Lib.hid hi
    clear hi
    go_enter Try.func66, Try.ntmps66
    go_wp2_with (go_at_call 115; refine (l00In_any _ _ _ _).mono ?_; rintro e w' ⟨rfl, rfl⟩)
    go_loopw [4, 5, 6, 7, 8] (fun v p q pp qq wr => ∃ i : Nat, i ≤ m ∧ p = .int .i64 (oP i) ∧ q = .int .i64 (oQ i) ∧ pp = .int .i64 (oPP i) ∧ qq = .int .i64 (oQQ i) ∧ (∃ A c, v = .slice A i c) ∧ Hid (wr.ownsRow w.heap.size 2 1 v i ((octL.take i).map (Value.int .i64)) ∧ Below w.heap.size w wr)) (fun v _ _ _ _ _ => m - (match v with | .slice _ k _ => k | _ => 0))
    case atStart => exact ⟨0, by omega, rfl, rfl, rfl, rfl, ⟨_, _, rfl⟩, World.ownsRow_lit w #[] 0 (Nat.le_refl _) (by simp) rfl, ext_alloc (Below.refl _ _) _⟩
    case round =>
      obtain ⟨i, hi, rfl, rfl, rfl, rfl, ⟨A, c, rfl⟩, HR⟩ := hrel
      by_cases hlt : i < m
      · obtain ⟨wo, rfl⟩ : ∃ wo : World, wo = wr := ⟨_, rfl⟩
        obtain ⟨b1, b2, b3, b4, b5, b6, b7, b8, b9, _⟩ := oct_bd i (by omega) 0 (by omega)
        go_wp2_with fail
        go_loop [9] (fun t => ∃ k : Nat, k ≤ oT i ∧ t = .int .i64 k) (fun t => oT i - (intOf t).toNat)
        case atStart => exact ⟨0, by omega, rfl⟩
        case round =>
          obtain ⟨k, hk, rfl⟩ := hrel
          obtain ⟨_, _, _, _, _, _, _, _, _, c1, c2, c3, c4, c5, c6, c7, c8⟩ := oct_bd i (by omega) k hk
          have ht := oct_test i (by omega) k hk
          by_cases hkt : k < oT i
          · rw [decide_eq_true hkt] at ht
            go_wp2_with (go_at_call 145; refine (l25Below_any _ _ _ _ (by omega)).mono ?_; rintro e w' ⟨rfl, rfl⟩)
            go_round
            case rel => exact ⟨k + 1, by omega, by go_num⟩
            case measure => simp [intOf]; omega
          · rw [decide_eq_false hkt] at ht
            obtain rfl : k = oT i := by omega
            go_wp2_with (first | (go_at_call 145; refine (l25Below_any _ _ _ _ (by omega)).mono ?_; rintro e w' ⟨rfl, rfl⟩) | (at_builtin; refine wpList_append_own _ rfl _ _ 26 rfl w.heap.size 2 i0 (.int .i64 0) 1 8 Try.underlying26 HI.out hz0 hz1 hz2 rfl (by decide) _ _ _ rfl (HR.out.1.alloc _) ⟨wo.heap.size, 0, none⟩ 1 1 [.int .i64 (oT i : Int)] rfl rfl ?c1 ?c2 ?c3 ?c4 ?c5 ?_))
            case c1 => exact cell_one_new _ _ _
            case c2 => simp [Value.oneCell']
            case c3 => unfold maxLen; omega
            case c4 => omega
            case c5 => have := HR.out.2.size; simp; omega
            intro v' w1 hown' hgrow _
            obtain ⟨A', c', hv⟩ := own_slice hown'
            subst hv
            obtain ⟨d1, d2, d3, d4, d5⟩ := oct_next i (by omega)
            have hnew : Hid (w1.ownsRow w.heap.size 2 1 (.slice A' (i + 1) c') (i + 1) ((octL.take (i + 1)).map (Value.int .i64)) ∧ Below w.heap.size w w1) :=
              ⟨by rw [d5, List.map_append, List.map_take]; exact hown', below_grown (ext_alloc HR.out.2 _) (HR.out.1.alloc _) (Nat.le_refl _) hgrow⟩
            have D1 := Lib.hid d1
            have D2 := Lib.hid d2
            have D3 := Lib.hid d3
            have D4 := Lib.hid d4
            clear d1 d2 d3 d4 d5 hown' hgrow
            go_wp2
            go_roundw
            case rel => exact ⟨i + 1, by omega, val_int D3.out.symm, val_int D4.out.symm, val_int D1.out.symm, val_int D2.out.symm, ⟨_, _, rfl⟩, hnew⟩
            case measure => show m - (i + 1) < m - i; omega
      · go_wp2
        obtain rfl : i = m := by omega
        go_ret2
        obtain ⟨hn, A', cc, hv, hw⟩ := Wr.of_own HR.out.1
        injection hv with e1 _ e2
        subst e1 e2
        exact ⟨A, c, by rw [← hn]; rfl, hw, HR.out.2⟩
end Go.Proofs.Ytdjnblkgeaphmaa
