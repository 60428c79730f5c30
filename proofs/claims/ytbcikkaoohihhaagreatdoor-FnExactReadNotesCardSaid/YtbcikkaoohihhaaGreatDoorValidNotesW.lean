/- Valid notes: the lists, both tests. No condition but those that each theorem names. -/
import Derived.Test.YtbcikkaoohihhaaGreatDoorNoteOkI
import Derived.Test.YtbcikkaoohihhaaGreatDoorNoteOkS
namespace Go.Proofs.YtbcikkaoohihhaaGreatDoor
open Go.RowKit Go.Sort

theorem isNote_any (x : Nt) (T : Option Addr) (c : Nat) (w : World) (hx : RdT w w.heap.size T c x.terms) (hf : x.fits) :
    Calls Tryz.prog 47 #[ntV x.name x.kind x.num x.den T x.terms.length c x.sp x.sd x.sq] w fun e w' => e = .returned (.bool (ntOk x)) ∧ Below w.heap.size w w' := by
  rcases ntOk_ways x with ⟨h0, hR⟩ | ⟨h0, h1, hR⟩ | ⟨h0, h1, hR⟩ | ⟨h0, h1, hR⟩ | ⟨h0, h1, h2, h3, hR⟩
  · have HN : Hid (∀ W, Calls Tryz.prog 93 #[.string x.name] W fun e w' => e = .returned (.bool (nameB x.name)) ∧ W = w') := fun W => iIsName_any x.name W hf.1
    clear hx hf
    rw [h0] at HN
    rw [hR]
    clear hR
    unfold ntV
    go_enter Tryz.func47, Tryz.ntmps47
    go_wp2_with (go_at_call 93; refine (HN.out _).mono ?_; rintro e w' ⟨rfl, rfl⟩)
    go_ret
    exact ⟨rfl, ext1 _ _⟩
  · rw [hR]; exact isNote_1 x T c w hx hf h0 _ rfl h1
  · rw [hR]; exact isNote_2 x T c w hx hf h0 _ rfl h1
  · rw [hR]; exact isNote_3 x T c w hx hf h0 _ rfl h1
  · rw [hR]; exact isNote_0 x T c w hx hf h0 _ rfl ⟨h1, h2, h3⟩
theorem l27One_any (x : Nt) (b o : Nat) (T : Option Addr) (c : Nat) (w : World) (hx : RdT w w.heap.size T c x.terms) (hf : x.fits) (ha : NtAt w b o x T c) :
    Calls Tryz.prog 52 #[.pointer (some ⟨b, o, none⟩)] w fun e w' => e = .returned (.bool (ntOk x)) ∧ Below w.heap.size w w' := by
  obtain ⟨c0, c1, c2, c3, c4, c5, c6, c7⟩ := ha
  rcases ntOk_ways x with ⟨h0, hR⟩ | ⟨h0, h1, hR⟩ | ⟨h0, h1, hR⟩ | ⟨h0, h1, hR⟩ | ⟨h0, h1, h2, h3, hR⟩
  · have HN : Hid (∀ W, Calls Tryz.prog 103 #[.string x.name] W fun e w' => e = .returned (.bool (nameB x.name)) ∧ W = w') := fun W => sIsName_any x.name W hf.1
    clear hx hf
    rw [h0] at HN
    rw [hR]
    clear hR
    go_enter Tryz.func52, Tryz.ntmps52
    go_wp2_with (go_at_call 103; refine (HN.out _).mono ?_; rintro e w' ⟨rfl, rfl⟩)
    go_ret
    exact ⟨rfl, Below.refl _ _⟩
  · rw [hR]; exact l27One_1 x b o T c w hx hf h0 _ rfl h1 c0 c1 c2 c3 c4 c5 c6 c7
  · rw [hR]; exact l27One_2 x b o T c w hx hf h0 _ rfl h1 c0 c1 c2 c3 c4 c5 c6 c7
  · rw [hR]; exact l27One_3 x b o T c w hx hf h0 _ rfl h1 c0 c1 c2 c3 c4 c5 c6 c7
  · rw [hR]; exact l27One_0 x b o T c w hx hf h0 _ rfl ⟨h1, h2, h3⟩ c0 c1 c2 c3 c4 c5 c6 c7

/-- Note k is valid, and its name stands behind the name of the one before it. -/
def okAtX (xs : List Nt) (k : Nat) : Bool := match xs[k]? with
  | some x => ntOk x && (if k = 0 then true else match xs[k - 1]? with
    | some p => ltB p.name x.name
    | none => true)
  | none => true
def okToX (xs : List Nt) : Nat → Bool
  | 0 => true
  | k + 1 => okToX xs k && okAtX xs k
def validNt (xs : List Nt) : Bool := okToX xs xs.length && decide (xs.length ≤ 40)
theorem okToX_false {xs : List Nt} {k : Nat} (h : okAtX xs k = false) : ∀ n, k < n → okToX xs n = false
  | n + 1, hn => by
    unfold okToX
    rcases Nat.lt_or_ge k n with g | g
    · rw [okToX_false h n g, Bool.false_and]
    · obtain rfl : k = n := by omega
      rw [h, Bool.and_false]
theorem okAtX_cases {xs : List Nt} {k : Nat} {x : Nt} (h : xs[k]? = some x) :
    (ntOk x = false ∧ okAtX xs k = false) ∨ (ntOk x = true ∧ k = 0 ∧ okAtX xs k = true) ∨
    (ntOk x = true ∧ 0 < k ∧ ∃ p, xs[k - 1]? = some p ∧ okAtX xs k = ltB p.name x.name) := by
  cases h1 : ntOk x
  · left
    refine ⟨rfl, ?_⟩
    unfold okAtX; rw [h]; simp [h1]
  · right
    rcases Nat.eq_zero_or_pos k with h0 | h0
    · left
      subst h0
      refine ⟨rfl, rfl, ?_⟩
      unfold okAtX; rw [h]; simp [h1]
    · right
      have hl := (List.getElem?_eq_some_iff.1 h).1
      have hp : xs[k - 1]? = some (xs[k - 1]'(by omega)) := List.getElem?_eq_getElem (by omega)
      refine ⟨rfl, h0, _, hp, ?_⟩
      unfold okAtX; rw [h]; simp only [hp, h1]; rw [if_neg (by omega), Bool.true_and]

set_option maxHeartbeats 2000000 in
theorem l27Ok_any (A : Option Addr) (c : Nat) (xs : List Nt) (w : World) (hr : RdNt w w.heap.size A xs) (hf : ∀ x ∈ xs, x.fits) (hl : xs.length ≤ maxLen) :
    Calls Tryz.prog 36 #[.slice A xs.length c] w fun e w' => e = .returned (.bool (validNt xs)) ∧ Below w.heap.size w w' := by
  unfold maxLen at hl
  have HF := Lib.hid hf
  clear hf
  go_enter Tryz.func36, Tryz.ntmps36
  go_wp2_with fail
  go_loopw [3] (fun t wr => ∃ k : Nat, k ≤ xs.length ∧ t = .int .i64 k ∧ Hid (okToX xs k = true) ∧ Below w.heap.size w wr) (fun t _ => xs.length - (intOf t).toNat)
  case atStart => exact ⟨0, by omega, rfl, rfl, Below.refl _ _⟩
  case round =>
    obtain ⟨k, hk, rfl, HK, hbe⟩ := hrel
    by_cases hlt : k < xs.length
    · obtain ⟨b, off, rfl, hb, hc⟩ := (hr.next hbe) (by omega)
      obtain ⟨x, hxk⟩ : ∃ x, xs[k]? = some x := ⟨_, List.getElem?_eq_getElem hlt⟩
      obtain ⟨T, ct, cr, cT⟩ := hc k x hxk
      have hfx := HF.out x (List.mem_of_getElem? hxk)
      have HN := Lib.hid (fun (V : World) (hb' : Below wr.heap.size wr V) => l27One_any x b (off + k * 8) T ct V (cT.next hb') hfx (cr.below hb' hb).nt)
      have c0 := cr.nt.c0
      have i0 : (0 : Int) ≤ (k : Int) := by omega
      have i1 : (k : Int) < (xs.length : Int) := by omega
      have k0 : ∀ x os, (grow (redrawn wr x) os).cell? ⟨b, off + k * 8, none⟩ = _ := cell_regrown c0
      have HOK := Lib.hid (okAtX_cases hxk)
      rcases HOK.out with ⟨g1, g2⟩ | ⟨g1, g3, g4⟩ | ⟨g1, g3, p, g4, g5⟩
      · rw [g1] at HN
        have HE : Hid (validNt xs = false) := by unfold Hid; rw [validNt, okToX_false g2 _ hlt]; rfl
        clear g1 g2 hc hxk cr cT hfx
        go_wp2_with fail
        refine wp_region_quiet_below (by kernel_rfl) (by kernel_rfl) ?_
        repeat (first | go_big_quiet_step ((with_reducible exact Calls.regrown_of (HN.out _ (below_regrown _ _ _)))) | quiet_step ((with_reducible exact Calls.regrown_of (HN.out _ (below_regrown _ _ _)))))
        refine wpQuiet_nil ?_
        intro _ hw'
        obtain ⟨⟨dq, oq⟩, hw''⟩ := hw'
        subst hw''
        go_wp2
        go_ret
        exact ⟨ret_bool HE.out.symm, ext_trans hbe (below_regrown _ _ _)⟩
      · rw [g1] at HN
        have HE : Hid (okToX xs (k + 1) = true) := by unfold Hid; rw [okToX, HK.out, g4]; rfl
        have hk0 : decide (0 < k) = false := by simp [g3]
        clear g1 g3 g4 hc hxk cr cT hfx
        go_wp2_with fail
        refine wp_region_quiet_below (by kernel_rfl) (by kernel_rfl) ?_
        repeat (first | go_big_quiet_step ((with_reducible exact Calls.regrown_of (HN.out _ (below_regrown _ _ _)))) | quiet_step ((with_reducible exact Calls.regrown_of (HN.out _ (below_regrown _ _ _)))))
        refine wpQuiet_nil ?_
        intro _ hw'
        obtain ⟨⟨dq, oq⟩, hw''⟩ := hw'
        subst hw''
        go_wp2
        go_roundw
        case rel => exact ⟨k + 1, by omega, by go_num, HE.out, ext_trans hbe (below_regrown _ _ _)⟩
        case measure => simp [intOf]; omega
      · rw [g1] at HN
        obtain ⟨T', ct', dr, _⟩ := hc (k - 1) p g4
        have d1 := dr.nt.c0
        have k5 : ∀ x os, (grow (redrawn wr x) os).cell? ⟨b, off + (k - 1) * 8, none⟩ = _ := cell_regrown d1
        have hk0 : decide (0 < k) = true := by simp [g3]
        have i2 : (0 : Int) ≤ (k : Int) - 1 := by omega
        have i3 : (k : Int) - 1 < (xs.length : Int) := by omega
        have i4 : (1 : Int) ≤ (k : Int) := by omega
        cases hlb : ltB p.name x.name
        · rw [hlb] at g5
          have HE : Hid (validNt xs = false) := by unfold Hid; rw [validNt, okToX_false g5 _ hlt]; rfl
          unfold ltB at hlb
          clear g1 g4 g5 hc hxk cr cT dr hfx
          go_wp2_with fail
          refine wp_region_quiet_below (by kernel_rfl) (by kernel_rfl) ?_
          repeat (first | go_big_quiet_step ((with_reducible exact Calls.regrown_of (HN.out _ (below_regrown _ _ _)))) | quiet_step ((with_reducible exact Calls.regrown_of (HN.out _ (below_regrown _ _ _)))))
          refine wpQuiet_nil ?_
          intro _ hw'
          obtain ⟨⟨dq, oq⟩, hw''⟩ := hw'
          subst hw''
          go_wp2
          go_ret
          exact ⟨ret_bool HE.out.symm, ext_trans hbe (below_regrown _ _ _)⟩
        · rw [hlb] at g5
          have HE : Hid (okToX xs (k + 1) = true) := by unfold Hid; rw [okToX, HK.out, g5]; rfl
          unfold ltB at hlb
          clear g1 g4 g5 hc hxk cr cT dr hfx
          go_wp2_with fail
          refine wp_region_quiet_below (by kernel_rfl) (by kernel_rfl) ?_
          repeat (first | go_big_quiet_step ((with_reducible exact Calls.regrown_of (HN.out _ (below_regrown _ _ _)))) | quiet_step ((with_reducible exact Calls.regrown_of (HN.out _ (below_regrown _ _ _)))))
          refine wpQuiet_nil ?_
          intro _ hw'
          obtain ⟨⟨dq, oq⟩, hw''⟩ := hw'
          subst hw''
          go_wp2
          go_roundw
          case rel => exact ⟨k + 1, by omega, by go_num, HE.out, ext_trans hbe (below_regrown _ _ _)⟩
          case measure => simp [intOf]; omega
    · have HE : Hid (decide (xs.length ≤ 40) = validNt xs) := by
        have h := HK.out
        rw [show k = xs.length by omega] at h
        unfold Hid
        rw [validNt, h, Bool.true_and]
      go_wp2
      go_ret
      exact ⟨ret_bool (HE.out ▸ (by rw [Bool.eq_iff_iff]; simp; omega)), hbe⟩
theorem sValidNotes_any (A : Option Addr) (c : Nat) (xs : List Nt) (w : World) (hr : RdNt w w.heap.size A xs) (hf : ∀ x ∈ xs, x.fits) (hl : xs.length ≤ maxLen) :
    Calls Tryz.prog 33 #[.slice A xs.length c] w fun e w' => e = .returned (.bool (validNt xs)) ∧ Below w.heap.size w w' := by
  have HC := Lib.hid (l27Ok_any A c xs w hr hf hl)
  go_enter Tryz.func33, Tryz.ntmps33
  go_wp2_with fail
  refine HC.out.mono ?_
  rintro e w1 ⟨rfl, hb1⟩
  go_wp2
  go_ret
  exact ⟨rfl, hb1⟩
set_option maxRecDepth 100000 in
set_option maxHeartbeats 4000000 in
theorem iValidNotes_any (A : Option Addr) (c : Nat) (xs : List Nt) (w : World) (hr : RdNt w w.heap.size A xs) (hf : ∀ x ∈ xs, x.fits) (hl : xs.length ≤ maxLen) :
    Calls Tryz.prog 32 #[.slice A xs.length c] w fun e w' => e = .returned (.bool (validNt xs)) ∧ Below w.heap.size w w' := by
  unfold maxLen at hl
  have HF := Lib.hid hf
  clear hf
  go_enter Tryz.func32, Tryz.ntmps32
  go_wp2_with fail
  go_loopw [7] (fun t wr => ∃ k : Nat, k ≤ xs.length ∧ t = .int .i64 k ∧ Hid (okToX xs k = true) ∧ Below w.heap.size w wr) (fun t _ => xs.length - (intOf t).toNat)
  case atStart => exact ⟨0, by omega, rfl, rfl, Below.refl _ _⟩
  case round =>
    obtain ⟨k, hk, rfl, HK, hbe⟩ := hrel
    by_cases hlt : k < xs.length
    · obtain ⟨b, off, rfl, hb, hc⟩ := (hr.next hbe) (by omega)
      obtain ⟨x, hxk⟩ : ∃ x, xs[k]? = some x := ⟨_, List.getElem?_eq_getElem hlt⟩
      obtain ⟨T, ct, cr, cT⟩ := hc k x hxk
      have hfx := HF.out x (List.mem_of_getElem? hxk)
      have HN := Lib.hid (fun (V : World) (hb' : Below wr.heap.size wr V) => isNote_any x T ct V (cT.next hb') hfx)
      have rx := cr.nt
      obtain ⟨c0, c1, c2, c3, c4, c5, c6, c7⟩ := rx
      have i0 : (0 : Int) ≤ (k : Int) := by omega
      have i1 : (k : Int) < (xs.length : Int) := by omega
      have hbx := ext1 wr (.cells #[.string x.name, .int .i64 x.kind, .int .i64 x.num, .int .i64 x.den, .slice T x.terms.length ct, .int .i64 x.sp, .int .i64 x.sd, .int .i64 x.sq] 36)
      have KX : ∀ j v, (ntC x T ct)[j]? = some v → ∀ y os, (grow (redrawn (wr.alloc (.cells #[.string x.name, .int .i64 x.kind, .int .i64 x.num, .int .i64 x.den, .slice T x.terms.length ct, .int .i64 x.sp, .int .i64 x.sd, .int .i64 x.sq] 36)) y) os).cell? ⟨wr.heap.size, j, none⟩ = some v := fun j v hv => cell_regrown (by rw [cell_one]; simpa [ntC] using hv)
      have k0 := KX 0 _ rfl
      have k1 := KX 1 _ rfl
      have k2 := KX 2 _ rfl
      have k3 := KX 3 _ rfl
      have k4 := KX 4 _ rfl
      have k5 := KX 5 _ rfl
      have k6 := KX 6 _ rfl
      have k7 := KX 7 _ rfl
      have HOK := Lib.hid (okAtX_cases hxk)
      clear KX
      generalize hWx : wr.alloc (.cells #[.string x.name, .int .i64 x.kind, .int .i64 x.num, .int .i64 x.den, .slice T x.terms.length ct, .int .i64 x.sp, .int .i64 x.sd, .int .i64 x.sq] 36) = Wx at *
      have HWX := Lib.hid hWx
      clear hWx
      rcases HOK.out with ⟨g1, g2⟩ | ⟨g1, g3, g4⟩ | ⟨g1, g3, p, g4, g5⟩
      · rw [g1] at HN
        have HE : Hid (validNt xs = false) := by unfold Hid; rw [validNt, okToX_false g2 _ hlt]; rfl
        clear g1 g2 hc hxk cr cT hfx
        go_wp2_with fail
        rw [HWX.out]
        refine wp_region_quiet_below (by kernel_rfl) (by kernel_rfl) ?_
        repeat (first | go_big_quiet_step ((with_reducible exact Calls.regrown_of (HN.out _ (ext_trans hbx (below_regrown _ _ _))))) | quiet_step ((with_reducible exact Calls.regrown_of (HN.out _ (ext_trans hbx (below_regrown _ _ _))))))
        refine wpQuiet_nil ?_
        intro _ hw'
        obtain ⟨⟨dq, oq⟩, hw''⟩ := hw'
        subst hw''
        go_wp2
        go_ret
        exact ⟨ret_bool HE.out.symm, ext_trans (ext_trans hbe hbx) (below_regrown _ _ _)⟩
      · rw [g1] at HN
        have HE : Hid (okToX xs (k + 1) = true) := by unfold Hid; rw [okToX, HK.out, g4]; rfl
        have hk0 : decide (0 < k) = false := by simp [g3]
        clear g1 g3 g4 hc hxk cr cT hfx
        go_wp2_with fail
        rw [HWX.out]
        refine wp_region_quiet_below (by kernel_rfl) (by kernel_rfl) ?_
        repeat (first | go_big_quiet_step ((with_reducible exact Calls.regrown_of (HN.out _ (ext_trans hbx (below_regrown _ _ _))))) | quiet_step ((with_reducible exact Calls.regrown_of (HN.out _ (ext_trans hbx (below_regrown _ _ _))))))
        refine wpQuiet_nil ?_
        intro _ hw'
        obtain ⟨⟨dq, oq⟩, hw''⟩ := hw'
        subst hw''
        go_wp2
        go_roundw
        case rel => exact ⟨k + 1, by omega, by go_num, HE.out, ext_trans (ext_trans hbe hbx) (below_regrown _ _ _)⟩
        case measure => simp [intOf]; omega
      · rw [g1] at HN
        obtain ⟨T', ct', dr, _⟩ := hc (k - 1) p g4
        have d1 := dr.nt.c0
        have k8 : ∀ y os, (grow (redrawn Wx y) os).cell? ⟨b, off + (k - 1) * 8, none⟩ = _ := cell_regrown ((hbx.cell (p := ⟨b, off + (k - 1) * 8, none⟩) hb).trans d1)
        have hk0 : decide (0 < k) = true := by simp [g3]
        have i2 : (0 : Int) ≤ (k : Int) - 1 := by omega
        have i3 : (k : Int) - 1 < (xs.length : Int) := by omega
        have i4 : (1 : Int) ≤ (k : Int) := by omega
        have htot := bl_total x.name.toList p.name.toList
        cases hlb : ltB p.name x.name
        · rw [hlb] at g5
          have HE : Hid (validNt xs = false) := by unfold Hid; rw [validNt, okToX_false g5 _ hlt]; rfl
          unfold ltB at hlb
          rw [hlb] at htot
          clear g1 g4 g5 hc hxk cr cT dr hfx hlb
          cases hl1 : Op.bytesLess x.name.toList p.name.toList
          · have hl2 : (x.name.toList == p.name.toList) = true := by rw [hl1, Bool.false_or] at htot; exact htot
            clear htot
            go_wp2_with fail
            rw [HWX.out]
            refine wp_region_quiet_below (by kernel_rfl) (by kernel_rfl) ?_
            repeat (first | go_big_quiet_step ((with_reducible exact Calls.regrown_of (HN.out _ (ext_trans hbx (below_regrown _ _ _))))) | quiet_step ((with_reducible exact Calls.regrown_of (HN.out _ (ext_trans hbx (below_regrown _ _ _))))))
            refine wpQuiet_nil ?_
            intro _ hw'
            obtain ⟨⟨dq, oq⟩, hw''⟩ := hw'
            subst hw''
            go_wp2
            go_ret
            exact ⟨ret_bool HE.out.symm, ext_trans (ext_trans hbe hbx) (below_regrown _ _ _)⟩
          · clear htot
            go_wp2_with fail
            rw [HWX.out]
            refine wp_region_quiet_below (by kernel_rfl) (by kernel_rfl) ?_
            repeat (first | go_big_quiet_step ((with_reducible exact Calls.regrown_of (HN.out _ (ext_trans hbx (below_regrown _ _ _))))) | quiet_step ((with_reducible exact Calls.regrown_of (HN.out _ (ext_trans hbx (below_regrown _ _ _))))))
            refine wpQuiet_nil ?_
            intro _ hw'
            obtain ⟨⟨dq, oq⟩, hw''⟩ := hw'
            subst hw''
            go_wp2
            go_ret
            exact ⟨ret_bool HE.out.symm, ext_trans (ext_trans hbe hbx) (below_regrown _ _ _)⟩
        · rw [hlb] at g5
          have HE : Hid (okToX xs (k + 1) = true) := by unfold Hid; rw [okToX, HK.out, g5]; rfl
          unfold ltB at hlb
          rw [hlb] at htot
          clear g1 g4 g5 hc hxk cr cT dr hfx hlb
          obtain ⟨hl1, hl2⟩ : Op.bytesLess x.name.toList p.name.toList = false ∧ (x.name.toList == p.name.toList) = false := by simpa using htot
          clear htot
          go_wp2_with fail
          rw [HWX.out]
          refine wp_region_quiet_below (by kernel_rfl) (by kernel_rfl) ?_
          repeat (first | go_big_quiet_step ((with_reducible exact Calls.regrown_of (HN.out _ (ext_trans hbx (below_regrown _ _ _))))) | quiet_step ((with_reducible exact Calls.regrown_of (HN.out _ (ext_trans hbx (below_regrown _ _ _))))))
          refine wpQuiet_nil ?_
          intro _ hw'
          obtain ⟨⟨dq, oq⟩, hw''⟩ := hw'
          subst hw''
          go_wp2
          go_roundw
          case rel => exact ⟨k + 1, by omega, by go_num, HE.out, ext_trans (ext_trans hbe hbx) (below_regrown _ _ _)⟩
          case measure => simp [intOf]; omega
    · have HE : Hid (decide (xs.length ≤ 40) = validNt xs) := by
        have h := HK.out
        rw [show k = xs.length by omega] at h
        unfold Hid
        rw [validNt, h, Bool.true_and]
      go_wp2
      go_ret
      exact ⟨ret_bool (HE.out ▸ (by rw [Bool.eq_iff_iff]; simp; omega)), hbe⟩
end Go.Proofs.YtbcikkaoohihhaaGreatDoor
