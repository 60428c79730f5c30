/- One note out of a slice of notes of one's own: slices.Delete. No condition but those that each theorem names. -/
import Derived.Test.YtdjnblkgeaphmaaRunNtP
import Derived.Test.YtdjnblkgeaphmaaCopyNtW
namespace Go.Proofs.Ytdjnblkgeaphmaa
open Go.RowKit Go.Sort

theorem OutNt.erase {w0 W W2 : World} {base g cap n1 k : Nat} {rs : List NtR} {own : Nat → Nat} (h : OutNt w0 base rs own (.slice (some ⟨g, 0, none⟩) (n1 + 1) cap) W) (hn : rs.length = n1 + 1) (hk : k ≤ n1)
    (hown : W2.ownsRow base 30 8 (.slice (some ⟨g, 0, none⟩) n1 cap) n1 (flatR (rs.eraseIdx k))) (hg : W.grownBy W2 (some g)) :
    OutNt w0 base (rs.eraseIdx k) (fun t => if own t ≤ k then own t else own t - 1) (.slice (some ⟨g, 0, none⟩) n1 cap) W2 := by
  have hl : (rs.eraseIdx k).length = n1 := by rw [List.length_eraseIdx_of_lt (by omega)]; omega
  have hg0 := h.own0 g rfl
  have keep : ∀ (j : Nat) (r : NtR), rs[j]? = some r → WrT W2 base r.T r.c r.x.terms := fun j r hr => (h.ts j r hr).1.grown hg fun t o i e hp e2 => by
    have h1 := ((h.ts j r hr).2 t o i e hp).1
    injection e2 with e2
    rw [e2, hg0] at h1
    omega
  refine ⟨by rw [hl]; exact hown, fun j r hr => ?_, fun g' e => ?_, below_grown h.bel h.row h.low hg, h.low, Nat.le_trans h.hi hg.size⟩
  · rw [List.getElem?_eraseIdx] at hr
    by_cases hj : j < k
    · rw [if_pos hj] at hr
      refine ⟨keep j r hr, fun t o i e hp => ?_⟩
      obtain ⟨q1, q2⟩ := (h.ts j r hr).2 t o i e hp
      exact ⟨by show (if _ then _ else _) = _; rw [if_pos (by omega)]; exact q1, Nat.lt_of_lt_of_le q2 hg.size⟩
    · rw [if_neg hj] at hr
      refine ⟨keep (j + 1) r hr, fun t o i e hp => ?_⟩
      obtain ⟨q1, q2⟩ := (h.ts (j + 1) r hr).2 t o i e hp
      exact ⟨by show (if _ then _ else _) = _; rw [if_neg (by omega)]; omega, Nat.lt_of_lt_of_le q2 hg.size⟩
  · have eg : some g = some g' := e
    injection eg with eg
    subst eg
    show (if _ then _ else _) = _
    rw [if_pos (by omega)]
    exact hg0
theorem zeroNt (w : World) : (zeroValue 30).run Try.prog w = .ok (ntV ByteArray.empty 0 0 0 none 0 0 0 0 0) w := by
  obtain ⟨ti, hi, hz0, hz1, hz2⟩ := info_parts infoNtR
  simp [zeroValue, typeInfo, hi, hz0]
set_option maxRecDepth 100000 in
set_option maxHeartbeats 1000000 in
theorem delete_any (w0 : World) (base g cap n1 k j : Nat) (rs : List NtR) (own : Nat → Nat) (W : World) (h : OutNt w0 base rs own (.slice (some ⟨g, 0, none⟩) (n1 + 1) cap) W) (hn : rs.length = n1 + 1) (hk : k ≤ n1) (hj : j = k + 1) :
    Calls Try.prog 88 #[.slice (some ⟨g, 0, none⟩) (n1 + 1) cap, .int .i64 k, .int .i64 (j : Int)] W fun e w' => ∃ own', e = .returned (.slice (some ⟨g, 0, none⟩) n1 cap) ∧ OutNt w0 base (rs.eraseIdx k) own' (.slice (some ⟨g, 0, none⟩) n1 cap) w' := by
  obtain ⟨ti, hi, hz0, hz1, hz2⟩ := info_parts infoNtR
  have hrow : W.drew.ownsRow base 30 8 (.slice (some ⟨g, 0, none⟩) (n1 + 1) cap) (n1 + 1) (flatR rs) := by have := h.row; rwa [hn] at this
  have hc1 : n1 + 1 ≤ cap := by
    rcases hrow.2 with ⟨h0, _⟩ | ⟨g', cap', cur, hv, _, _, h2, _⟩
    · cases h0
    · cases hv; exact h2
  have hcm : cap ≤ maxLen := by
    rcases hrow.2 with ⟨h0, _⟩ | ⟨g', cap', cur, hv, _, _, _, h2, _⟩
    · cases h0
    · cases hv; exact h2
  obtain ⟨A, hA, hsrc⟩ : ∃ A : Addr, (cap = j → A = ⟨g, 0, none⟩) ∧ (∀ i u, (flatR (rs.drop j))[i]? = some u → W.drew.cell? (A.add i) = some u) ∧ (¬ cap = j → A = ⟨g, j * 8, none⟩) := by
    by_cases hq : cap = j
    · refine ⟨⟨g, 0, none⟩, fun _ => rfl, fun i u hu => ?_, fun h => absurd hq h⟩
      rw [List.drop_eq_nil_of_le (by omega)] at hu
      simp [flatR] at hu
    · refine ⟨⟨g, j * 8, none⟩, fun h => absurd h hq, fun i u hu => ?_, fun _ => rfl⟩
      rw [← flatR_drop, List.getElem?_drop] at hu
      have := hrow.cells (g := g) rfl _ _ hu
      rw [Addr.add_lit] at this ⊢
      rw [Nat.zero_add] at this
      exact this
  obtain ⟨hsrc, hA2⟩ := hsrc
  obtain ⟨W1, hr1, hown1, hg1⟩ := run_append_own_spare (P := Try.prog) W.drew base 33 33 30 ti 8 Try.underlying33 hi hz1 g k cap _ (own_cut W.drew hrow (show k ≤ n1 + 1 by omega)) A (n1 + 1 - j) (cap - j) (flatR (rs.drop j)) (by rw [flatR_length, List.length_drop]; omega) hsrc (flatR_one8 _) (by omega)
  rw [show k + (n1 + 1 - j) = n1 by omega] at hr1 hown1
  rw [flatR_take, ← flatR_append, hj, ← List.eraseIdx_eq_take_drop_succ] at hown1
  obtain ⟨W2, hr2, hown2, hg2⟩ := run_clear_own (P := Try.prog) W1 base 33 30 (ntV ByteArray.empty 0 0 0 none 0 0 0 0 0) 8 Try.underlying33 zeroNt rfl (by simp [Value.oneCell', Value.cells]) g n1 cap (cap - n1) _ hown1 hc1
  have HO := Lib.hid h
  have HN := Lib.hid hn
  have HW2 := Lib.hid hown2
  have HG : Hid (W.grownBy W2 (some g)) := ⟨hg2.os.trans hg1.os, hg2.tape.trans hg1.tape, hg2.output.trans hg1.output, Nat.le_trans hg1.size hg2.size, fun b hb hne => (hg2.block b (Nat.lt_of_lt_of_le hb hg1.size) hne).trans (hg1.block b hb hne)⟩
  have HR1 := Lib.hid hr1
  have c1 : cap ≤ 9223372036854775807 := by unfold maxLen at hcm; omega
  have hic : k ≤ cap := by omega
  have hjc : j ≤ cap := by omega
  have hj0 : 0 < j := by omega
  have hkj : k ≤ j := by omega
  have hkj2 : ¬ k = j := by omega
  have hkn2 : ¬ n1 + 1 = k := by omega
  have hnc : n1 ≤ cap := by omega
  have hkn : k ≤ n1 + 1 := by omega
  have hk1 : j ≤ n1 + 1 := by omega
  have hk1i : (j : Int) ≤ (n1 : Int) + 1 := by omega
  clear h hn hj hown2 hg2 hg1 hown1 hrow hsrc hr1 hcm
  by_cases hq : cap = j
  · obtain rfl := hA hq
    clear hA hA2
    subst hq
    have hr3 := HR1.out
    rw [show n1 + 1 - cap = 0 by omega, Nat.sub_self] at hr3
    have HR1 := Lib.hid hr3
    clear hr3
    go_enter Try.func88, Try.ntmps88
    go_wp2_with fail
    go_region_law (refine step_append_eq rfl (.tmp 22) (.tmp 25) 33 33 rfl _ _ (by simp [Act.eval, Act.put]) (by simp [Act.eval, Act.put]) HR1.out ?_)
    go_wp2
    go_ret
    exact ⟨_, rfl, OutNt.erase HO.out HN.out hk HW2.out (HG.out)⟩
  · obtain rfl := hA2 hq
    clear hA hA2
    have hq2 : ¬ cap = n1 := by omega
    go_enter Try.func88, Try.ntmps88
    go_wp2_with fail
    go_region_law (refine step_append_eq rfl (.tmp 22) (.tmp 25) 33 33 rfl _ _ (by simp [Act.eval, Act.put]) (by simp [Act.eval, Act.put]) HR1.out ?_)
    go_wp2
    go_ret
    exact ⟨_, rfl, OutNt.erase HO.out HN.out hk HW2.out (HG.out)⟩
end Go.Proofs.Ytdjnblkgeaphmaa
