/- ValidDesk: both walks. No condition but those that each theorem names. -/
import Derived.Test.YtbcmjifhnpjkoaaNamed
import Derived.Test.YtbcmjifhnpjkoaaNameW
namespace Go.Proofs.Ytbcmjifhnpjkoaa
open Go.RowKit Go.Sort

def ltB (a b : ByteArray) : Bool := Op.bytesLess a.toList b.toList
theorem bl_total : ∀ x y : List UInt8, (Op.bytesLess x y || x == y) = !Op.bytesLess y x
  | [], [] => rfl
  | _ :: _, [] => rfl
  | [], _ :: _ => rfl
  | a :: x, b :: y => by
    have ih := bl_total x y
    rw [Op.bytesLess, Op.bytesLess]
    have hc : (a :: x == b :: y) = (a == b && x == y) := rfl
    rw [hc]
    rcases Nat.lt_trichotomy a.toNat b.toNat with h | h | h
    · have h1 : a < b := UInt8.lt_iff_toNat_lt.2 h
      have h2 : ¬ b < a := fun g => by have := UInt8.lt_iff_toNat_lt.1 g; omega
      have h3 : ¬ b = a := fun g => by rw [g] at h; omega
      simp [h1, h2, h3]
    · have e : a = b := UInt8.toNat_inj.1 h
      subst e
      simpa using ih
    · have h1 : b < a := UInt8.lt_iff_toNat_lt.2 h
      have h2 : ¬ a < b := fun g => by have := UInt8.lt_iff_toNat_lt.1 g; omega
      have h3 : ¬ a = b := fun g => by rw [g] at h; omega
      simp [h1, h2, h3]

/-- Element k is valid, and its name stands behind the name of the one before it. -/
def okAt (xs : List Nd) (k : Nat) : Bool := match xs[k]? with
  | some x => nameB x.name && (termsB x.terms && (if k = 0 then true else match xs[k - 1]? with
    | some p => ltB p.name x.name
    | none => true))
  | none => true
def okTo (xs : List Nd) : Nat → Bool
  | 0 => true
  | k + 1 => okTo xs k && okAt xs k
def validN (xs : List Nd) : Bool := okTo xs xs.length && decide (xs.length ≤ 12)
theorem okTo_false {xs : List Nd} {k : Nat} (h : okAt xs k = false) : ∀ n, k < n → okTo xs n = false
  | n + 1, hn => by
    unfold okTo
    rcases Nat.lt_or_ge k n with g | g
    · rw [okTo_false h n g, Bool.false_and]
    · obtain rfl : k = n := by omega
      rw [h, Bool.and_false]
theorem okAt_zero {xs : List Nd} {x : Nd} (h : xs[0]? = some x) : okAt xs 0 = (nameB x.name && termsB x.terms) := by
  unfold okAt; rw [h]; simp
theorem okAt_pos {xs : List Nd} {k : Nat} {x p : Nd} (h0 : 0 < k) (h : xs[k]? = some x) (hp : xs[k - 1]? = some p) : okAt xs k = (nameB x.name && (termsB x.terms && ltB p.name x.name)) := by
  unfold okAt; rw [h]; simp only [hp]; rw [if_neg (by omega)]
/-- What the tests of element k come to: which of the three fails, or none. -/
theorem okAt_cases {xs : List Nd} {k : Nat} {x : Nd} (h : xs[k]? = some x) :
    (nameB x.name = false ∧ okAt xs k = false) ∨ (nameB x.name = true ∧ termsB x.terms = false ∧ okAt xs k = false) ∨
    (nameB x.name = true ∧ termsB x.terms = true ∧ k = 0 ∧ okAt xs k = true) ∨
    (nameB x.name = true ∧ termsB x.terms = true ∧ 0 < k ∧ ∃ p, xs[k - 1]? = some p ∧ okAt xs k = ltB p.name x.name) := by
  cases h1 : nameB x.name
  · left
    refine ⟨rfl, ?_⟩
    unfold okAt; rw [h]; simp [h1]
  · right
    cases h2 : termsB x.terms
    · left
      refine ⟨rfl, rfl, ?_⟩
      unfold okAt; rw [h]; simp [h1, h2]
    · right
      rcases Nat.eq_zero_or_pos k with h0 | h0
      · left
        subst h0
        refine ⟨rfl, rfl, rfl, ?_⟩
        rw [okAt_zero h, h1, h2]; rfl
      · right
        have hl := (List.getElem?_eq_some_iff.1 h).1
        have hp : xs[k - 1]? = some (xs[k - 1]'(by omega)) := List.getElem?_eq_getElem (by omega)
        refine ⟨rfl, rfl, h0, _, hp, ?_⟩
        rw [okAt_pos h0 h hp, h1, h2]; rfl

set_option maxHeartbeats 2000000 in
theorem l28Ok_any (g : Nat) (A : Option Addr) (c : Nat) (xs : List Nd) (w : World) (hg : w.cell? ⟨g, 0, none⟩ = some (.slice A xs.length c)) (hr : RdN w w.heap.size A xs) (hf : ∀ x ∈ xs, x.fits) (hl : xs.length ≤ maxLen) :
    Calls Try.prog 100 #[.pointer (some ⟨g, 0, none⟩)] w fun e w' => e = .returned (.bool (validN xs)) ∧ Below w.heap.size w w' := by
  unfold maxLen at hl
  have HF := Lib.hid hf
  clear hf
  have hgz : g < w.heap.size := block_lt_of_cell hg
  have HGC := Lib.hid hg
  go_enter Try.func100, Try.ntmps100
  go_wp2_with fail
  go_loopw [3] (fun t wr => ∃ k : Nat, k ≤ xs.length ∧ t = .int .i64 k ∧ Hid (okTo xs k = true) ∧ Below w.heap.size w wr) (fun t _ => xs.length - (intOf t).toNat)
  case atStart => exact ⟨0, by omega, rfl, rfl, Below.refl _ _⟩
  case round =>
    obtain ⟨k, hk, rfl, HK, hbe⟩ := hrel
    have m0 := (hbe.cell (p := ⟨g, 0, none⟩) hgz).trans HGC.out
    clear hg
    by_cases hlt : k < xs.length
    · obtain ⟨b, off, rfl, hb, hc⟩ := (hr.next hbe) (by omega)
      obtain ⟨x, hxk⟩ : ∃ x, xs[k]? = some x := ⟨_, List.getElem?_eq_getElem hlt⟩
      obtain ⟨T, ct, c1, c2, c3⟩ := hc k x hxk
      have hfx := HF.out x (List.mem_of_getElem? hxk)
      have HN : Hid (∀ W, Calls Try.prog 154 #[.string x.name] W fun e w' => e = .returned (.bool (nameB x.name)) ∧ W = w') := fun W => sIsName_any x.name W hfx.1
      have HT := Lib.hid (fun V hb => l03Ok_any T ct x.terms V (c3.1.next (w' := V) hb) hfx.2)
      have i0 : (0 : Int) ≤ (k : Int) := by omega
      have i1 : (k : Int) < (xs.length : Int) := by omega
      have k0 : ∀ x os, (grow (redrawn wr x) os).cell? ⟨b, off + k * 2, none⟩ = _ := cell_regrown c1
      have k1 : ∀ x os, (grow (redrawn wr x) os).cell? ⟨b, off + k * 2 + 1, none⟩ = _ := cell_regrown c2
      have k4 : ∀ x os, (grow (redrawn wr x) os).cell? ⟨g, 0, none⟩ = _ := cell_regrown m0
      have HOK := Lib.hid (okAt_cases hxk)
      rcases HOK.out with ⟨g1, g2⟩ | ⟨g1, g2, g3⟩ | ⟨g1, g2, g3, g4⟩ | ⟨g1, g2, g3, p, g4, g5⟩
      · rw [g1] at HN
        have HE : Hid (validN xs = false) := by unfold Hid; rw [validN, okTo_false g2 _ hlt]; rfl
        clear g1 g2 hc hxk c3 hfx
        go_wp2_with fail
        refine wp_region_quiet_below (by kernel_rfl) (by kernel_rfl) ?_
        repeat (first | go_big_quiet_step ((first | (with_reducible exact regrown_same (HN.out _)) | (with_reducible exact regrown_same (HT.out _ (below_regrown _ _ _))))) | quiet_step ((first | (with_reducible exact regrown_same (HN.out _)) | (with_reducible exact regrown_same (HT.out _ (below_regrown _ _ _))))))
        refine wpQuiet_nil ?_
        intro _ hw'
        obtain ⟨⟨dq, oq⟩, hw''⟩ := hw'
        subst hw''
        go_wp2
        go_ret
        exact ⟨ret_bool HE.out.symm, ext_trans hbe (below_regrown _ _ _)⟩
      · rw [g1] at HN
        rw [g2] at HT
        have HE : Hid (validN xs = false) := by unfold Hid; rw [validN, okTo_false g3 _ hlt]; rfl
        clear g1 g2 g3 hc hxk c3 hfx
        go_wp2_with fail
        refine wp_region_quiet_below (by kernel_rfl) (by kernel_rfl) ?_
        repeat (first | go_big_quiet_step ((first | (with_reducible exact regrown_same (HN.out _)) | (with_reducible exact regrown_same (HT.out _ (below_regrown _ _ _))))) | quiet_step ((first | (with_reducible exact regrown_same (HN.out _)) | (with_reducible exact regrown_same (HT.out _ (below_regrown _ _ _))))))
        refine wpQuiet_nil ?_
        intro _ hw'
        obtain ⟨⟨dq, oq⟩, hw''⟩ := hw'
        subst hw''
        go_wp2
        go_ret
        exact ⟨ret_bool HE.out.symm, ext_trans hbe (below_regrown _ _ _)⟩
      · rw [g1] at HN
        rw [g2] at HT
        have HE : Hid (okTo xs (k + 1) = true) := by unfold Hid; rw [okTo, HK.out, g4]; rfl
        have hk0 : decide (0 < k) = false := by simp [g3]
        clear g1 g2 g3 g4 hc hxk c3 hfx
        go_wp2_with fail
        refine wp_region_quiet_below (by kernel_rfl) (by kernel_rfl) ?_
        repeat (first | go_big_quiet_step ((first | (with_reducible exact regrown_same (HN.out _)) | (with_reducible exact regrown_same (HT.out _ (below_regrown _ _ _))))) | quiet_step ((first | (with_reducible exact regrown_same (HN.out _)) | (with_reducible exact regrown_same (HT.out _ (below_regrown _ _ _))))))
        refine wpQuiet_nil ?_
        intro _ hw'
        obtain ⟨⟨dq, oq⟩, hw''⟩ := hw'
        subst hw''
        go_wp2
        go_roundw
        case rel => exact ⟨k + 1, by omega, by go_num, HE.out, ext_trans hbe (below_regrown _ _ _)⟩
        case measure => simp [intOf]; omega
      · rw [g1] at HN
        rw [g2] at HT
        obtain ⟨T', ct', d1, _, _⟩ := hc (k - 1) p g4
        have k5 : ∀ x os, (grow (redrawn wr x) os).cell? ⟨b, off + (k - 1) * 2, none⟩ = _ := cell_regrown d1
        have hk0 : decide (0 < k) = true := by simp [g3]
        have i2 : (0 : Int) ≤ (k : Int) - 1 := by omega
        have i3 : (k : Int) - 1 < (xs.length : Int) := by omega
        have i4 : (1 : Int) ≤ (k : Int) := by omega
        cases hlb : ltB p.name x.name
        · rw [hlb] at g5
          have HE : Hid (validN xs = false) := by unfold Hid; rw [validN, okTo_false g5 _ hlt]; rfl
          unfold ltB at hlb
          clear g1 g2 g4 g5 hc hxk c3 hfx
          go_wp2_with fail
          refine wp_region_quiet_below (by kernel_rfl) (by kernel_rfl) ?_
          repeat (first | go_big_quiet_step ((first | (with_reducible exact regrown_same (HN.out _)) | (with_reducible exact regrown_same (HT.out _ (below_regrown _ _ _))))) | quiet_step ((first | (with_reducible exact regrown_same (HN.out _)) | (with_reducible exact regrown_same (HT.out _ (below_regrown _ _ _))))))
          refine wpQuiet_nil ?_
          intro _ hw'
          obtain ⟨⟨dq, oq⟩, hw''⟩ := hw'
          subst hw''
          go_wp2
          go_ret
          exact ⟨ret_bool HE.out.symm, ext_trans hbe (below_regrown _ _ _)⟩
        · rw [hlb] at g5
          have HE : Hid (okTo xs (k + 1) = true) := by unfold Hid; rw [okTo, HK.out, g5]; rfl
          unfold ltB at hlb
          clear g1 g2 g4 g5 hc hxk c3 hfx
          go_wp2_with fail
          refine wp_region_quiet_below (by kernel_rfl) (by kernel_rfl) ?_
          repeat (first | go_big_quiet_step ((first | (with_reducible exact regrown_same (HN.out _)) | (with_reducible exact regrown_same (HT.out _ (below_regrown _ _ _))))) | quiet_step ((first | (with_reducible exact regrown_same (HN.out _)) | (with_reducible exact regrown_same (HT.out _ (below_regrown _ _ _))))))
          refine wpQuiet_nil ?_
          intro _ hw'
          obtain ⟨⟨dq, oq⟩, hw''⟩ := hw'
          subst hw''
          go_wp2
          go_roundw
          case rel => exact ⟨k + 1, by omega, by go_num, HE.out, ext_trans hbe (below_regrown _ _ _)⟩
          case measure => simp [intOf]; omega
    · have HE : Hid (decide (xs.length ≤ 12) = validN xs) := by
        have h := HK.out
        rw [show k = xs.length by omega] at h
        unfold Hid
        rw [validN, h, Bool.true_and]
      go_wp2
      go_ret
      exact ⟨ret_bool (HE.out ▸ (by rw [Bool.eq_iff_iff]; simp; omega)), hbe⟩
theorem sValidDesk_any (A : Option Addr) (c : Nat) (xs : List Nd) (w : World) (hr : RdN w w.heap.size A xs) (hf : ∀ x ∈ xs, x.fits) (hl : xs.length ≤ maxLen) :
    Calls Try.prog 35 #[.agg #[.slice A xs.length c]] w fun e w' => e = .returned (.bool (validN xs)) ∧ Below w.heap.size w w' := by
  have HC := Lib.hid (l28Ok_any w.heap.size A c xs (w.alloc (.cells #[.slice A xs.length c] 52)) (by rw [cell_one]; rfl) (hr.next (ext1 _ _)) hf hl)
  go_enter Try.func35, Try.ntmps35
  go_wp2_with fail
  refine HC.out.mono ?_
  rintro e w1 ⟨rfl, hb1⟩
  go_wp2
  go_ret
  exact ⟨rfl, ext_trans (ext1 _ _) hb1⟩
set_option maxHeartbeats 2000000 in
theorem iValidDesk_any (A : Option Addr) (c : Nat) (xs : List Nd) (w : World) (hr : RdN w w.heap.size A xs) (hf : ∀ x ∈ xs, x.fits) (hl : xs.length ≤ maxLen) :
    Calls Try.prog 36 #[.agg #[.slice A xs.length c]] w fun e w' => e = .returned (.bool (validN xs)) ∧ Below w.heap.size w w' := by
  unfold maxLen at hl
  have HF := Lib.hid hf
  clear hf
  go_enter Try.func36, Try.ntmps36
  go_wp2_with fail
  have hg : (w.alloc (.cells #[.slice A xs.length c] 52)).cell? ⟨w.heap.size, 0, none⟩ = some (.slice A xs.length c) := by rw [cell_one]; rfl
  have hb0 : Below w.heap.size w (w.alloc (.cells #[.slice A xs.length c] 52)) := ext1 _ _
  have hgz : w.heap.size < (w.alloc (.cells #[.slice A xs.length c] 52)).heap.size := by simp
  generalize w.alloc (.cells #[.slice A xs.length c] 52) = W0 at *
  have HGC := Lib.hid hg
  clear hg
  go_loopw [8] (fun t wr => ∃ k : Nat, k ≤ xs.length ∧ t = .int .i64 k ∧ Hid (okTo xs k = true) ∧ Below W0.heap.size W0 wr) (fun t _ => xs.length - (intOf t).toNat)
  case atStart => exact ⟨0, by omega, rfl, rfl, Below.refl _ _⟩
  case round =>
    obtain ⟨k, hk, rfl, HK, hbe⟩ := hrel
    have m0 := (hbe.cell (p := ⟨w.heap.size, 0, none⟩) hgz).trans HGC.out
    by_cases hlt : k < xs.length
    · obtain ⟨b, off, rfl, hb, hc⟩ := (hr.next (ext_trans hb0 hbe)) (by omega)
      obtain ⟨x, hxk⟩ : ∃ x, xs[k]? = some x := ⟨_, List.getElem?_eq_getElem hlt⟩
      obtain ⟨T, ct, c1, c2, c3⟩ := hc k x hxk
      have hfx := HF.out x (List.mem_of_getElem? hxk)
      have HN : Hid (∀ W, Calls Try.prog 101 #[.string x.name] W fun e w' => e = .returned (.bool (nameB x.name)) ∧ W = w') := fun W => iIsName_any x.name W hfx.1
      have HT := Lib.hid (fun V hb => ValidTerms_any T ct x.terms V (c3.next (w' := V) hb) hfx.2)
      have i0 : (0 : Int) ≤ (k : Int) := by omega
      have i1 : (k : Int) < (xs.length : Int) := by omega
      have hbx := ext1 wr (.cells #[.string x.name, .slice T x.terms.length ct] 109)
      have k0 : ∀ y os, (grow (redrawn (wr.alloc (.cells #[.string x.name, .slice T x.terms.length ct] 109)) y) os).cell? ⟨wr.heap.size, 0, none⟩ = some (.string x.name) := cell_regrown (by rw [cell_one]; rfl)
      have k1 : ∀ y os, (grow (redrawn (wr.alloc (.cells #[.string x.name, .slice T x.terms.length ct] 109)) y) os).cell? ⟨wr.heap.size, 1, none⟩ = some (.slice T x.terms.length ct) := cell_regrown (by rw [cell_one]; rfl)
      have k4 : ∀ y os, (grow (redrawn (wr.alloc (.cells #[.string x.name, .slice T x.terms.length ct] 109)) y) os).cell? ⟨w.heap.size, 0, none⟩ = _ := cell_regrown ((hbx.cell (p := ⟨w.heap.size, 0, none⟩) (Nat.lt_of_lt_of_le hgz hbe.size)).trans m0)
      have HOK := Lib.hid (okAt_cases hxk)
      generalize hWx : wr.alloc (.cells #[.string x.name, .slice T x.terms.length ct] 109) = Wx at *
      have HWX := Lib.hid hWx
      clear hWx
      rcases HOK.out with ⟨g1, g2⟩ | ⟨g1, g2, g3⟩ | ⟨g1, g2, g3, g4⟩ | ⟨g1, g2, g3, p, g4, g5⟩
      · rw [g1] at HN
        have HE : Hid (validN xs = false) := by unfold Hid; rw [validN, okTo_false g2 _ hlt]; rfl
        clear g1 g2 hc hxk c3 hfx
        go_wp2_with fail
        rw [HWX.out]
        refine wp_region_quiet_below (by kernel_rfl) (by kernel_rfl) ?_
        repeat (first | go_big_quiet_step ((first | (with_reducible exact regrown_same (HN.out _)) | (with_reducible exact regrown_same (HT.out _ (ext_trans hbx (below_regrown _ _ _)))))) | quiet_step ((first | (with_reducible exact regrown_same (HN.out _)) | (with_reducible exact regrown_same (HT.out _ (ext_trans hbx (below_regrown _ _ _)))))))
        refine wpQuiet_nil ?_
        intro _ hw'
        obtain ⟨⟨dq, oq⟩, hw''⟩ := hw'
        subst hw''
        go_wp2
        go_ret
        exact ⟨ret_bool HE.out.symm, ext_trans hb0 (ext_trans (ext_trans hbe hbx) (below_regrown _ _ _))⟩
      · rw [g1] at HN
        rw [g2] at HT
        have HE : Hid (validN xs = false) := by unfold Hid; rw [validN, okTo_false g3 _ hlt]; rfl
        clear g1 g2 g3 hc hxk c3 hfx
        go_wp2_with fail
        rw [HWX.out]
        refine wp_region_quiet_below (by kernel_rfl) (by kernel_rfl) ?_
        repeat (first | go_big_quiet_step ((first | (with_reducible exact regrown_same (HN.out _)) | (with_reducible exact regrown_same (HT.out _ (ext_trans hbx (below_regrown _ _ _)))))) | quiet_step ((first | (with_reducible exact regrown_same (HN.out _)) | (with_reducible exact regrown_same (HT.out _ (ext_trans hbx (below_regrown _ _ _)))))))
        refine wpQuiet_nil ?_
        intro _ hw'
        obtain ⟨⟨dq, oq⟩, hw''⟩ := hw'
        subst hw''
        go_wp2
        go_ret
        exact ⟨ret_bool HE.out.symm, ext_trans hb0 (ext_trans (ext_trans hbe hbx) (below_regrown _ _ _))⟩
      · rw [g1] at HN
        rw [g2] at HT
        have HE : Hid (okTo xs (k + 1) = true) := by unfold Hid; rw [okTo, HK.out, g4]; rfl
        have hk0 : decide (0 < k) = false := by simp [g3]
        clear g1 g2 g3 g4 hc hxk c3 hfx
        go_wp2_with fail
        rw [HWX.out]
        refine wp_region_quiet_below (by kernel_rfl) (by kernel_rfl) ?_
        repeat (first | go_big_quiet_step ((first | (with_reducible exact regrown_same (HN.out _)) | (with_reducible exact regrown_same (HT.out _ (ext_trans hbx (below_regrown _ _ _)))))) | quiet_step ((first | (with_reducible exact regrown_same (HN.out _)) | (with_reducible exact regrown_same (HT.out _ (ext_trans hbx (below_regrown _ _ _)))))))
        refine wpQuiet_nil ?_
        intro _ hw'
        obtain ⟨⟨dq, oq⟩, hw''⟩ := hw'
        subst hw''
        go_wp2
        go_roundw
        case rel => exact ⟨k + 1, by omega, by go_num, HE.out, ext_trans (ext_trans hbe hbx) (below_regrown _ _ _)⟩
        case measure => simp [intOf]; omega
      · rw [g1] at HN
        rw [g2] at HT
        obtain ⟨T', ct', d1, _, _⟩ := hc (k - 1) p g4
        have k5 : ∀ y os, (grow (redrawn Wx y) os).cell? ⟨b, off + (k - 1) * 2, none⟩ = _ := cell_regrown ((hbx.cell (p := ⟨b, off + (k - 1) * 2, none⟩) hb).trans d1)
        have hk0 : decide (0 < k) = true := by simp [g3]
        have i2 : (0 : Int) ≤ (k : Int) - 1 := by omega
        have i3 : (k : Int) - 1 < (xs.length : Int) := by omega
        have i4 : (1 : Int) ≤ (k : Int) := by omega
        have htot := bl_total x.name.toList p.name.toList
        cases hlb : ltB p.name x.name
        · rw [hlb] at g5
          have HE : Hid (validN xs = false) := by unfold Hid; rw [validN, okTo_false g5 _ hlt]; rfl
          unfold ltB at hlb
          rw [hlb] at htot
          clear g1 g2 g4 g5 hc hxk c3 hfx hlb
          cases hl1 : Op.bytesLess x.name.toList p.name.toList
          · have hl2 : (x.name.toList == p.name.toList) = true := by rw [hl1, Bool.false_or] at htot; exact htot
            clear htot
            go_wp2_with fail
            rw [HWX.out]
            refine wp_region_quiet_below (by kernel_rfl) (by kernel_rfl) ?_
            repeat (first | go_big_quiet_step ((first | (with_reducible exact regrown_same (HN.out _)) | (with_reducible exact regrown_same (HT.out _ (ext_trans hbx (below_regrown _ _ _)))))) | quiet_step ((first | (with_reducible exact regrown_same (HN.out _)) | (with_reducible exact regrown_same (HT.out _ (ext_trans hbx (below_regrown _ _ _)))))))
            refine wpQuiet_nil ?_
            intro _ hw'
            obtain ⟨⟨dq, oq⟩, hw''⟩ := hw'
            subst hw''
            go_wp2
            go_ret
            exact ⟨ret_bool HE.out.symm, ext_trans hb0 (ext_trans (ext_trans hbe hbx) (below_regrown _ _ _))⟩
          · clear htot
            go_wp2_with fail
            rw [HWX.out]
            refine wp_region_quiet_below (by kernel_rfl) (by kernel_rfl) ?_
            repeat (first | go_big_quiet_step ((first | (with_reducible exact regrown_same (HN.out _)) | (with_reducible exact regrown_same (HT.out _ (ext_trans hbx (below_regrown _ _ _)))))) | quiet_step ((first | (with_reducible exact regrown_same (HN.out _)) | (with_reducible exact regrown_same (HT.out _ (ext_trans hbx (below_regrown _ _ _)))))))
            refine wpQuiet_nil ?_
            intro _ hw'
            obtain ⟨⟨dq, oq⟩, hw''⟩ := hw'
            subst hw''
            go_wp2
            go_ret
            exact ⟨ret_bool HE.out.symm, ext_trans hb0 (ext_trans (ext_trans hbe hbx) (below_regrown _ _ _))⟩
        · rw [hlb] at g5
          have HE : Hid (okTo xs (k + 1) = true) := by unfold Hid; rw [okTo, HK.out, g5]; rfl
          unfold ltB at hlb
          rw [hlb] at htot
          clear g1 g2 g4 g5 hc hxk c3 hfx hlb
          obtain ⟨hl1, hl2⟩ : Op.bytesLess x.name.toList p.name.toList = false ∧ (x.name.toList == p.name.toList) = false := by simpa using htot
          clear htot
          go_wp2_with fail
          rw [HWX.out]
          refine wp_region_quiet_below (by kernel_rfl) (by kernel_rfl) ?_
          repeat (first | go_big_quiet_step ((first | (with_reducible exact regrown_same (HN.out _)) | (with_reducible exact regrown_same (HT.out _ (ext_trans hbx (below_regrown _ _ _)))))) | quiet_step ((first | (with_reducible exact regrown_same (HN.out _)) | (with_reducible exact regrown_same (HT.out _ (ext_trans hbx (below_regrown _ _ _)))))))
          refine wpQuiet_nil ?_
          intro _ hw'
          obtain ⟨⟨dq, oq⟩, hw''⟩ := hw'
          subst hw''
          go_wp2
          go_roundw
          case rel => exact ⟨k + 1, by omega, by go_num, HE.out, ext_trans (ext_trans hbe hbx) (below_regrown _ _ _)⟩
          case measure => simp [intOf]; omega
    · have HE : Hid (decide (xs.length ≤ 12) = validN xs) := by
        have h := HK.out
        rw [show k = xs.length by omega] at h
        unfold Hid
        rw [validN, h, Bool.true_and]
      go_wp2
      go_ret
      exact ⟨ret_bool (HE.out ▸ (by rw [Bool.eq_iff_iff]; simp; omega)), ext_trans hb0 hbe⟩
end Go.Proofs.Ytbcmjifhnpjkoaa
