/- Slices of leap rules: the statements' own comparing, marking and looking. No condition but those that each theorem names. -/
import Derived.Test.YtbcmjifhnpjkoaaConvW
import Derived.Test.YtbcmjifhnpjkoaaPutL
namespace Go.Proofs.Ytbcmjifhnpjkoaa
open Go.RowKit Go.Sort

/-- Rules without a shift, as a row of integers. -/
def ruL (ps : List (Int × Int)) : List Int := ps.flatMap fun p => [p.1, p.2, 0]
theorem ruL_length (ps : List (Int × Int)) : (ruL ps).length = ps.length * 3 := by
  induction ps with
  | nil => rfl
  | cons p ps ih => simp only [ruL, List.flatMap_cons, List.length_append, List.length_cons, List.length_nil] at *; omega
theorem ruL_snoc (ps : List (Int × Int)) (p : Int × Int) : ruL (ps ++ [p]) = ruL ps ++ [p.1, p.2, 0] := by simp [ruL]
theorem ruL_get {ps : List (Int × Int)} {j : Nat} {p : Int × Int} (h : ps[j]? = some p) : (ruL ps)[j * 3]? = some p.1 ∧ (ruL ps)[j * 3 + 1]? = some p.2 ∧ (ruL ps)[j * 3 + 2]? = some 0 := by
  induction ps generalizing j with
  | nil => simp at h
  | cons a ps ih =>
    cases j with
    | zero =>
      simp at h
      subst h
      simp [ruL]
    | succ j =>
      have := ih (j := j) (by simpa using h)
      have e1 : (j + 1) * 3 = j * 3 + 1 + 1 + 1 := by omega
      simp only [ruL, List.flatMap_cons] at *
      rw [e1]
      exact this
/-- What a call returns that makes a slice of rules, and a code. -/
def RetRules (w : World) (ps : List (Int × Int)) (code : Int) (e : Ending) (w' : World) : Prop :=
  ∃ A c, e = .returned (.tuple #[.slice A ps.length c, .int .i64 code]) ∧ Wr (Value.int .i64) w' w.heap.size A (ruL ps) ∧ Below w.heap.size w w'

theorem eqLeapRule_any (l c s : Int) (w : World) :
    Calls Try.prog 120 #[.agg #[.int .i64 l, .int .i64 c, .int .i64 s], .agg #[.int .i64 l, .int .i64 c, .int .i64 s]] w fun e w' => e = .returned (.bool true) ∧ Below w.heap.size w w' := by
  go_enter Try.func120, Try.ntmps120
  go_wp2
  go_ret
  exact ⟨rfl, ext_alloc (ext1 _ _) _⟩
set_option maxHeartbeats 400000 in
theorem eqRuleS_any (A B : Option Addr) (c d : Nat) (xs : List (Int × Int)) (_ys : List (Int × Int)) (w : World) (hx : Rd (Value.int .i64) w w.heap.size A (ruL xs)) (hy : Rd (Value.int .i64) w w.heap.size B (ruL xs)) (hl : xs.length ≤ maxLen) (_ : xs.length ≤ maxLen) :
    Calls Try.prog 49 #[.slice A xs.length c, .slice B xs.length d] w fun e w' => e = .returned (.bool true) ∧ Below w.heap.size w w' := by
  unfold maxLen at hl
  have hl0 : ((xs.length : Int) != (xs.length : Int)) = false := by simp
  go_enter Try.func49, Try.ntmps49
  go_wp2_with fail
  go_loopw [5] (fun t wr => ∃ k : Nat, k ≤ xs.length ∧ t = .int .i64 k ∧ Below w.heap.size w wr) (fun t _ => xs.length - (intOf t).toNat)
  case atStart => exact ⟨0, by omega, rfl, Below.refl _ _⟩
  case round =>
    obtain ⟨k, hk, rfl, hbe⟩ := hrel
    by_cases hlt : k < xs.length
    · have hlen := ruL_length xs
      obtain ⟨b, off, rfl, hb, hc⟩ := ((hx.below hbe).more hbe.size) (by omega)
      obtain ⟨b', off', rfl, hb', hc'⟩ := ((hy.below hbe).more hbe.size) (by omega)
      obtain ⟨x, hxk⟩ : ∃ x, xs[k]? = some x := ⟨_, List.getElem?_eq_getElem hlt⟩
      obtain ⟨g0, g1, g2⟩ := ruL_get hxk
      have c0 := hc _ _ g0
      have c1 := hc _ _ g1
      have c2 := hc _ _ g2
      have d0 := hc' _ _ g0
      have d1 := hc' _ _ g1
      have d2 := hc' _ _ g2
      rw [← Nat.add_assoc] at c1 c2 d1 d2
      clear hc hc' hxk g0 g1 g2 hlen
      have i0 : (0 : Int) ≤ (k : Int) := by omega
      have i1 : (k : Int) < (xs.length : Int) := by omega
      have k0 : ∀ x os, (grow (redrawn wr x) os).cell? _ = _ := cell_regrown c0
      have k1 : ∀ x os, (grow (redrawn wr x) os).cell? _ = _ := cell_regrown c1
      have k2 : ∀ x os, (grow (redrawn wr x) os).cell? _ = _ := cell_regrown c2
      have l0 : ∀ x os, (grow (redrawn wr x) os).cell? _ = _ := cell_regrown d0
      have l1 : ∀ x os, (grow (redrawn wr x) os).cell? _ = _ := cell_regrown d1
      have l2 : ∀ x os, (grow (redrawn wr x) os).cell? _ = _ := cell_regrown d2
      clear c0 c1 c2 d0 d1 d2
      go_wp2_with fail
      refine wp_region_quiet_below (by kernel_rfl) (by kernel_rfl) ?_
      repeat (first | go_big_quiet_step ((with_reducible exact Calls.regrown_of (eqLeapRule_any _ _ _ _))) | quiet_step ((with_reducible exact Calls.regrown_of (eqLeapRule_any _ _ _ _))))
      refine wpQuiet_nil ?_
      intro _ hw'
      obtain ⟨⟨dq, oq⟩, hw''⟩ := hw'
      subst hw''
      clear k0 k1 k2 l0 l1 l2
      go_wp2
      go_roundw
      case rel => exact ⟨k + 1, by omega, by go_num, ext_trans hbe (below_regrown _ _ _)⟩
      case measure => simp [intOf]; omega
    · go_wp2
      go_ret
      exact ⟨rfl, hbe⟩

set_option maxHeartbeats 1000000 in
theorem markRuleS_any (A : Option Addr) (c : Nat) (xs : List (Int × Int)) (base : Nat) (k : Int) (w : World) (hx : Wr (Value.int .i64) w base A (ruL xs)) (hm : xs.length ≤ 1000000000000000) (hk : 0 ≤ k) (hk' : k ≤ 1000000000) :
    Calls Try.prog 50 #[.slice A xs.length c, .int .i64 k] w fun e w' => e = .returned (.int .i64 (k + (xs.length * 3 : Nat))) ∧ Wr (Value.int .i64) w' base A (marks k (xs.length * 3)) ∧ Below base w w' ∧ w'.heap.size = w.heap.size ∧ True := by
  rcases Nat.eq_zero_or_pos xs.length with h0 | h0
  · obtain rfl : xs = [] := List.eq_nil_of_length_eq_zero h0
    go_enter Try.func50, Try.ntmps50
    go_wp2
    refine wp_loop_rounds 1 ?_
    rw [rounds_succ]
    go_wp2
    go_ret
    exact ⟨by simp, fun h => absurd h (by simp [marks]), Below.refl _ _, rfl, trivial⟩
  · have hlen := ruL_length xs
    obtain ⟨b, off, rfl, hb0, hb, hc, hf⟩ := hx (by omega)
    have HC := Lib.hid hc
    have HF := Lib.hid hf
    have HLEN := Lib.hid hlen
    clear hc hf hlen
    go_enter Try.func50, Try.ntmps50
    go_wp2
    go_loopw [5, 1] (fun t m wr => ∃ i : Nat, i ≤ xs.length ∧ t = .int .i64 i ∧ m = .int .i64 (k + 3 * (i : Int)) ∧ Hid ((∀ j, j < i * 3 → wr.cell? ⟨b, off + j, none⟩ = some (.int .i64 (k + j))) ∧ (∀ j, j < xs.length * 3 → ∃ v, wr.cell? ⟨b, off + j, none⟩ = some v) ∧ (∀ j, wr.frozen? ⟨b, j, none⟩ = false) ∧ Below base w wr ∧ wr.heap.size = w.heap.size)) (fun t _ _ => xs.length - (intOf t).toNat)
    case atStart => exact ⟨0, by omega, rfl, by simp, fun _ h => absurd h (by omega), fun j hj => ⟨_, HC.out j _ (List.getElem?_eq_getElem (by have := HLEN.out; omega))⟩, HF.out, Below.refl _ _, rfl⟩
    case round =>
      obtain ⟨i, hi, rfl, rfl, HR⟩ := hrel
      by_cases hlt : i < xs.length
      · obtain ⟨v0, hv0⟩ := HR.out.2.1 (i * 3) (by omega)
        obtain ⟨v1, hv1⟩ := HR.out.2.1 (i * 3 + 1) (by omega)
        obtain ⟨v2, hv2⟩ := HR.out.2.1 (i * 3 + 2) (by omega)
        rw [← Nat.add_assoc] at hv1 hv2
        have hf0 := HR.out.2.2.1 (off + i * 3)
        have hf1 := HR.out.2.2.1 (off + i * 3 + 1)
        have hf2 := HR.out.2.2.1 (off + i * 3 + 2)
        have i0 : (0 : Int) ≤ (i : Int) := by omega
        have i1 : (i : Int) < (xs.length : Int) := by omega
        go_wp2
        go_roundw
        case rel =>
          obtain ⟨r1, r2, r3, r4, r5⟩ := HR.out
          have hP : ∀ a0 a1 a2 : Int, a0 = k + ((i * 3 : Nat) : Int) → a1 = k + ((i * 3 + 1 : Nat) : Int) → a2 = k + ((i * 3 + 2 : Nat) : Int) → Hid ((∀ j, j < (i + 1) * 3 → (putL b (off + i * 3) 0 [.int .i64 a0, .int .i64 a1, .int .i64 a2] wr).cell? ⟨b, off + j, none⟩ = some (.int .i64 (k + j))) ∧ (∀ j, j < xs.length * 3 → ∃ v, (putL b (off + i * 3) 0 [.int .i64 a0, .int .i64 a1, .int .i64 a2] wr).cell? ⟨b, off + j, none⟩ = some v) ∧ (∀ j, (putL b (off + i * 3) 0 [.int .i64 a0, .int .i64 a1, .int .i64 a2] wr).frozen? ⟨b, j, none⟩ = false) ∧ Below base w (putL b (off + i * 3) 0 [.int .i64 a0, .int .i64 a1, .int .i64 a2] wr) ∧ (putL b (off + i * 3) 0 [.int .i64 a0, .int .i64 a1, .int .i64 a2] wr).heap.size = w.heap.size) := fun a0 a1 a2 e0 e1 e2 => by
            have far : ∀ j, (j < i * 3 ∨ i * 3 + 3 ≤ j) → (putL b (off + i * 3) 0 [.int .i64 a0, .int .i64 a1, .int .i64 a2] wr).cell? ⟨b, off + j, none⟩ = wr.cell? ⟨b, off + j, none⟩ := fun j hj =>
              putL_other b (off + i * 3) 0 _ wr (fun m hm => by simp at hm; intro e; injection e; omega)
            have near := putL_same b (off + i * 3) 0 [.int .i64 a0, .int .i64 a1, .int .i64 a2] wr (fun m hm => by
              simp at hm
              obtain ⟨u, hu⟩ := r2 (i * 3 + m) (by omega)
              exact ⟨u, by rw [show off + i * 3 + 0 + m = off + (i * 3 + m) by omega]; exact hu⟩)
            have n0 := near 0 _ rfl
            have n1 := near 1 _ rfl
            have n2 := near 2 _ rfl
            refine ⟨fun j hj => ?_, fun j hj => ?_, fun j => (putL_frozen _ _ _ _ _ _).trans (r3 j), putL_below b _ hb0 0 _ r4, (putL_size _ _ _ _ _).trans r5⟩
            · rcases Nat.lt_or_ge j (i * 3) with h | h
              · exact (far j (.inl h)).trans (r1 j h)
              · obtain rfl | rfl | rfl : j = i * 3 ∨ j = i * 3 + 1 ∨ j = i * 3 + 2 := by omega
                · rw [← e0]; exact n0
                · rw [← e1]; exact n1
                · rw [← e2]; exact n2
            · by_cases h : j < i * 3 ∨ i * 3 + 3 ≤ j
              · obtain ⟨u, hu⟩ := r2 j hj
                exact ⟨u, (far j h).trans hu⟩
              · obtain rfl | rfl | rfl : j = i * 3 ∨ j = i * 3 + 1 ∨ j = i * 3 + 2 := by omega
                · exact ⟨_, n0⟩
                · exact ⟨_, n1⟩
                · exact ⟨_, n2⟩
          exact ⟨i + 1, by omega, by go_num, val_int (by omega), hP _ _ _ (by omega) (by omega) (by omega)⟩
        case measure => simp [intOf]; omega
      · go_wp2
        go_ret
        obtain ⟨r1, r2, r3, r4, r5⟩ := HR.out
        refine ⟨ret_int (by omega), fun _ => ⟨b, off, rfl, hb0, by omega, fun j x hx => ?_, r3⟩, r4, r5, trivial⟩
        have hj : j < xs.length * 3 := by
          have := (List.getElem?_eq_some_iff.1 hx).1
          rwa [marks_length] at this
        rw [marks_get k _ j hj] at hx
        injection hx with hx
        subst hx
        exact r1 j (by omega)

theorem heldRuleS_any (A : Option Addr) (c : Nat) (n : Nat) (k : Int) (w : World) (hx : Rd (Value.int .i64) w w.heap.size A (marks k (n * 3))) (hm : n ≤ 1000000000000000) (hk : 0 ≤ k) (hk' : k ≤ 1000000000) :
    Calls Try.prog 51 #[.slice A n c, .int .i64 k] w fun e w' => e = .returned (.int .i64 (k + (n * 3 : Nat))) ∧ w = w' := by
  go_enter Try.func51, Try.ntmps51
  go_wp2
  go_loop [5, 1] (fun t m => ∃ i : Nat, i ≤ n ∧ t = .int .i64 i ∧ m = .int .i64 (k + 3 * (i : Int))) (fun t _ => n - (intOf t).toNat)
  case atStart => exact ⟨0, by omega, rfl, by simp⟩
  case round =>
    obtain ⟨i, hi, rfl, rfl⟩ := hrel
    by_cases hlt : i < n
    · obtain ⟨b, off, rfl, hb, hc⟩ := hx (by rw [marks_length]; omega)
      have c0 := hc (i * 3) _ (marks_get k _ _ (by omega))
      have c1 := hc (i * 3 + 1) _ (marks_get k _ _ (by omega))
      have c2 := hc (i * 3 + 2) _ (marks_get k _ _ (by omega))
      rw [← Nat.add_assoc] at c1 c2
      have e0 : (k + 3 * (i : Int)) = k + ((i * 3 : Nat) : Int) := by omega
      have e1 : (k + 3 * (i : Int) + 1) = k + ((i * 3 + 1 : Nat) : Int) := by omega
      have e2 : (k + 3 * (i : Int) + 1 + 1) = k + ((i * 3 + 2 : Nat) : Int) := by omega
      rw [← e0] at c0
      rw [← e1] at c1
      rw [← e2] at c2
      clear hc e0 e1 e2
      have i0 : (0 : Int) ≤ (i : Int) := by omega
      have i1 : (i : Int) < (n : Int) := by omega
      go_wp2
      go_round
      case rel => exact ⟨i + 1, by omega, by go_num, val_int (by omega)⟩
      case measure => simp [intOf]; omega
    · go_wp2
      go_ret
      exact ⟨ret_int (by omega), rfl⟩
end Go.Proofs.Ytbcmjifhnpjkoaa
