/- The terms of sources: both walks. No condition but those that each theorem names. -/
import Derived.Test.YtgnifhegkjmgaaaTmW
namespace Go.Proofs.Ytgnifhegkjmgaaa
open Go.RowKit Go.Sort

/-- What the walks of a term ask of a source. -/
def TmB (s : So) : Prop := s.hd.length ≤ 1000 ∧ s.pd.length ≤ 1000 ∧ s.gr.length = s.pd.length ∧ ∀ k, k < s.pd.length → (-1000000000 ≤ s.pd.getD k 0 ∧ s.pd.getD k 0 ≤ 1000000000) ∧ 0 ≤ s.gr.getD k 0 ∧ s.gr.getD k 0 ≤ 1000000
theorem soB_tm {s : So} (h : soB s = true) : TmB s := by
  obtain ⟨⟨l1, l2, l3, l4⟩, _, B2⟩ := so_at h
  exact ⟨by omega, by omega, l3, fun k hk => by have := B2 k hk; omega⟩
set_option maxRecDepth 100000 in
set_option maxHeartbeats 2000000 in
theorem termAt_any (s : So) (H P G : Option Addr) (ch cp cg k : Nat) (w : World) (hr : RdSo w w.heap.size H P G s) (hs : TmB s) (hk : k ≤ 1000000) :
    Calls Try.prog 169 #[souV H s.hd.length ch P s.pd.length cp G s.gr.length cg, .int .i64 (k : Int)] w fun e w' => e = .returned (.tuple #[.int .i64 ((tmS s k).getD 0), .bool (tmS s k).isSome]) ∧ Below w.heap.size w w' := by
  unfold souV
  have HR := Lib.hid (hr.below (ext1 w (.cells #[.slice H s.hd.length ch, .slice P s.pd.length cp, .slice G s.gr.length cg] 41)))
  have HB := Lib.hid (ext1 w (.cells #[.slice H s.hd.length ch, .slice P s.pd.length cp, .slice G s.gr.length cg] 41))
  obtain ⟨x0, x1, x2⟩ : SoAt (w.alloc (.cells #[.slice H s.hd.length ch, .slice P s.pd.length cp, .slice G s.gr.length cg] 41)) w.heap.size H P G ch cp cg s := SoAt.of_box (BoxV.new w #[.slice H s.hd.length ch, .slice P s.pd.length cp, .slice G s.gr.length cg] 41)
  clear hr
  obtain ⟨l1, l2, l3, B2⟩ := hs
  have L3 := Lib.hid l3
  clear l3
  by_cases hlt : k < s.hd.length
  · have HE : Hid (tmS s k = some (s.hd.getD k 0)) := by unfold Hid tmS; rw [if_pos hlt]
    rw [HE.out]
    clear HE
    obtain ⟨b, off, rfl, hb, hc⟩ := HR.out.h (by omega)
    have cx := hc k _ (getD_of hlt)
    have i0 : (0 : Int) ≤ (k : Int) := by omega
    have i1 : (k : Int) < (s.hd.length : Int) := by omega
    clear hc B2
    generalize s.hd.getD k 0 = t at *
    go_enter Try.func169, Try.ntmps169
    go_wp2_with (go_at_call 166; refine (sizeT_any _ _ _ _).mono ?_; rintro e w' ⟨rfl, rfl⟩)
    go_ret2
    exact ⟨rfl, HB.out⟩
  · have i1 : ¬ (k : Int) < (s.hd.length : Int) := by omega
    by_cases hp : s.pd.length = 0
    · have HE : Hid (tmS s k = none) := by unfold Hid tmS; rw [if_neg hlt, if_pos hp]
      rw [HE.out]
      have e0 : ((s.pd.length : Int) == 0) = true := by simp; exact List.eq_nil_of_length_eq_zero hp
      have HP := Lib.hid hp
      clear HE hp B2
      go_enter Try.func169, Try.ntmps169
      go_wp2_with (go_at_call 166; refine (sizeT_any _ _ _ _).mono ?_; rintro e w' ⟨rfl, rfl⟩)
      go_ret2
      exact ⟨rfl, HB.out⟩
    · obtain ⟨j, hj⟩ : ∃ j : Nat, k = s.hd.length + j := ⟨k - s.hd.length, by omega⟩
      have HE : Hid (tmS s k = some (s.pd.getD (j % s.pd.length) 0 + ((j / s.pd.length : Nat) : Int) * s.gr.getD (j % s.pd.length) 0)) := by
        unfold Hid tmS
        rw [if_neg hlt, if_neg hp, show k - s.hd.length = j by omega]
      have hm : j % s.pd.length < s.pd.length := Nat.mod_lt _ (by omega)
      obtain ⟨⟨a1, a2⟩, a3, a4⟩ := B2 _ hm
      have hq : j / s.pd.length ≤ j := Nat.div_le_self _ _
      obtain ⟨b, off, rfl, hb, hc⟩ := HR.out.p (by omega)
      obtain ⟨b', off', rfl, hb', hc'⟩ := HR.out.g (by have := L3.out; omega)
      have cx := hc _ _ (getD_of hm)
      have cy := hc' _ _ (getD_of (show j % s.pd.length < s.gr.length by have := L3.out; omega))
      have ej : (k : Int) - (s.hd.length : Int) = (j : Int) := by omega
      have em : (j : Int) % (s.pd.length : Int) = ((j % s.pd.length : Nat) : Int) := by simp
      have em2 : (j : Int).tmod (s.pd.length : Int) = ((j % s.pd.length : Nat) : Int) := by rw [Int.tmod_eq_emod_of_nonneg (by omega)]; simp
      have eq : (j : Int) / (s.pd.length : Int) = ((j / s.pd.length : Nat) : Int) := by simp
      have eq2 : (j : Int).tdiv (s.pd.length : Int) = ((j / s.pd.length : Nat) : Int) := by rw [Int.tdiv_eq_ediv_of_nonneg (by omega)]; simp
      have e0 : ((s.pd.length : Int) == 0) = false := by simp; intro h; exact hp (by rw [h]; rfl)
      have e1 : ¬ ((s.pd.length : Int) = 0) := by omega
      have e1n : ¬ (s.pd.length = 0) := hp
      have e1l : ¬ (s.pd = []) := fun h => hp (by rw [h]; rfl)
      rw [HE.out]
      have i0 : (0 : Int) ≤ ((j % s.pd.length : Nat) : Int) := by omega
      have i2 : ((j % s.pd.length : Nat) : Int) < (s.pd.length : Int) := by omega
      have i3 : ((j % s.pd.length : Nat) : Int) < (s.gr.length : Int) := by have := L3.out; omega
      have HJ := Lib.hid hj
      have HP := Lib.hid hp
      clear hc hc' B2 HE hm hp hj
      generalize j % s.pd.length = m at *
      generalize j / s.pd.length = q at *
      generalize s.pd.getD m 0 = p at *
      generalize s.gr.getD m 0 = g' at *
      have b1 : 0 ≤ (q : Int) * g' := Int.mul_nonneg (by omega) a3
      have b2 : (q : Int) * g' ≤ 1000000 * 1000000 := Int.mul_le_mul (by omega) a4 a3 (by omega)
      have v1 : IntKind.i64.wrap ((k : Int) - (s.hd.length : Int)) = (j : Int) := by rw [ej]; exact IntWalk.i64_in _ (by omega)
      have v2 : IntKind.i64.wrap (m : Int) = (m : Int) := IntWalk.i64_in _ (by omega)
      have v3 : IntKind.i64.wrap (q : Int) = (q : Int) := IntWalk.i64_in _ (by omega)
      have v4 : IntKind.i64.wrap ((q : Int) * g') = (q : Int) * g' := IntWalk.i64_in _ (by omega)
      have v5 : IntKind.i64.wrap (p + (q : Int) * g') = p + (q : Int) * g' := IntWalk.i64_in _ (by omega)
      have v6 : IntKind.i64.wrap (j : Int) = (j : Int) := IntWalk.i64_in _ (by omega)
      go_enter Try.func169, Try.ntmps169
      go_wp2_with (go_at_call 166; refine (sizeT_any _ _ _ _).mono ?_; rintro e w' ⟨rfl, rfl⟩)
      go_quiet (fail)
      go_wp2
      go_ret2
      exact ⟨rfl, below_drewN HB.out⟩
set_option maxRecDepth 100000 in
set_option maxHeartbeats 2000000 in
theorem l15Term_any (s : So) (gg : Nat) (H P G : Option Addr) (ch cp cg k : Nat) (W : World) (hr : RdSo W W.heap.size H P G s) (ha : SoAt W gg H P G ch cp cg s) (hs : TmB s) (hk : k ≤ 1000000) :
    Calls Try.prog 162 #[.pointer (some ⟨gg, 0, none⟩), .int .i64 (k : Int)] W fun e w' => e = .returned (.tuple #[.int .i64 ((tmS s k).getD 0), .bool (tmS s k).isSome]) ∧ Below W.heap.size W w' := by
  obtain ⟨x0, x1, x2⟩ := ha
  have HR := Lib.hid hr
  have HB := Lib.hid (Below.refl W.heap.size W)
  clear hr
  obtain ⟨l1, l2, l3, B2⟩ := hs
  have L3 := Lib.hid l3
  clear l3
  by_cases hlt : k < s.hd.length
  · have HE : Hid (tmS s k = some (s.hd.getD k 0)) := by unfold Hid tmS; rw [if_pos hlt]
    rw [HE.out]
    clear HE
    obtain ⟨b, off, rfl, hb, hc⟩ := HR.out.h (by omega)
    have cx := hc k _ (getD_of hlt)
    have i0 : (0 : Int) ≤ (k : Int) := by omega
    have i1 : (k : Int) < (s.hd.length : Int) := by omega
    clear hc B2
    generalize s.hd.getD k 0 = t at *
    go_enter Try.func162, Try.ntmps162
    go_wp2_with (fail)
    go_ret2
    exact ⟨rfl, HB.out⟩
  · have i1 : ¬ (k : Int) < (s.hd.length : Int) := by omega
    by_cases hp : s.pd.length = 0
    · have HE : Hid (tmS s k = none) := by unfold Hid tmS; rw [if_neg hlt, if_pos hp]
      rw [HE.out]
      have e0 : ((s.pd.length : Int) == 0) = true := by simp; exact List.eq_nil_of_length_eq_zero hp
      have HP := Lib.hid hp
      clear HE hp B2
      go_enter Try.func162, Try.ntmps162
      go_wp2_with (fail)
      go_ret2
      exact ⟨rfl, HB.out⟩
    · obtain ⟨j, hj⟩ : ∃ j : Nat, k = s.hd.length + j := ⟨k - s.hd.length, by omega⟩
      have HE : Hid (tmS s k = some (s.pd.getD (j % s.pd.length) 0 + ((j / s.pd.length : Nat) : Int) * s.gr.getD (j % s.pd.length) 0)) := by
        unfold Hid tmS
        rw [if_neg hlt, if_neg hp, show k - s.hd.length = j by omega]
      have hm : j % s.pd.length < s.pd.length := Nat.mod_lt _ (by omega)
      obtain ⟨⟨a1, a2⟩, a3, a4⟩ := B2 _ hm
      have hq : j / s.pd.length ≤ j := Nat.div_le_self _ _
      obtain ⟨b, off, rfl, hb, hc⟩ := HR.out.p (by omega)
      obtain ⟨b', off', rfl, hb', hc'⟩ := HR.out.g (by have := L3.out; omega)
      have cx := hc _ _ (getD_of hm)
      have cy := hc' _ _ (getD_of (show j % s.pd.length < s.gr.length by have := L3.out; omega))
      have ej : (k : Int) - (s.hd.length : Int) = (j : Int) := by omega
      have em : (j : Int) % (s.pd.length : Int) = ((j % s.pd.length : Nat) : Int) := by simp
      have em2 : (j : Int).tmod (s.pd.length : Int) = ((j % s.pd.length : Nat) : Int) := by rw [Int.tmod_eq_emod_of_nonneg (by omega)]; simp
      have eq : (j : Int) / (s.pd.length : Int) = ((j / s.pd.length : Nat) : Int) := by simp
      have eq2 : (j : Int).tdiv (s.pd.length : Int) = ((j / s.pd.length : Nat) : Int) := by rw [Int.tdiv_eq_ediv_of_nonneg (by omega)]; simp
      have e0 : ((s.pd.length : Int) == 0) = false := by simp; intro h; exact hp (by rw [h]; rfl)
      have e1 : ¬ ((s.pd.length : Int) = 0) := by omega
      have e1n : ¬ (s.pd.length = 0) := hp
      have e1l : ¬ (s.pd = []) := fun h => hp (by rw [h]; rfl)
      rw [HE.out]
      have i0 : (0 : Int) ≤ ((j % s.pd.length : Nat) : Int) := by omega
      have i2 : ((j % s.pd.length : Nat) : Int) < (s.pd.length : Int) := by omega
      have i3 : ((j % s.pd.length : Nat) : Int) < (s.gr.length : Int) := by have := L3.out; omega
      have HJ := Lib.hid hj
      have HP := Lib.hid hp
      clear hc hc' B2 HE hm hp hj
      generalize j % s.pd.length = m at *
      generalize j / s.pd.length = q at *
      generalize s.pd.getD m 0 = p at *
      generalize s.gr.getD m 0 = g' at *
      have b1 : 0 ≤ (q : Int) * g' := Int.mul_nonneg (by omega) a3
      have b2 : (q : Int) * g' ≤ 1000000 * 1000000 := Int.mul_le_mul (by omega) a4 a3 (by omega)
      have v1 : IntKind.i64.wrap ((k : Int) - (s.hd.length : Int)) = (j : Int) := by rw [ej]; exact IntWalk.i64_in _ (by omega)
      have v2 : IntKind.i64.wrap (m : Int) = (m : Int) := IntWalk.i64_in _ (by omega)
      have v3 : IntKind.i64.wrap (q : Int) = (q : Int) := IntWalk.i64_in _ (by omega)
      have v4 : IntKind.i64.wrap ((q : Int) * g') = (q : Int) * g' := IntWalk.i64_in _ (by omega)
      have v5 : IntKind.i64.wrap (p + (q : Int) * g') = p + (q : Int) * g' := IntWalk.i64_in _ (by omega)
      have v6 : IntKind.i64.wrap (j : Int) = (j : Int) := IntWalk.i64_in _ (by omega)
      go_enter Try.func162, Try.ntmps162
      go_wp2_with (fail)
      go_quiet (fail)
      go_wp2
      go_ret2
      exact ⟨rfl, below_drewN HB.out⟩
end Go.Proofs.Ytgnifhegkjmgaaa
