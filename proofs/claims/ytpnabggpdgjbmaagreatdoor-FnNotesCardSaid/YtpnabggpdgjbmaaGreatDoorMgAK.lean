/- Parts of the proof, merged: ValidNotesW DrawNoW VldP DrawLdP ConvW. No condition but those that each theorem names. -/
import Derived.Test.YtpnabggpdgjbmaaGreatDoorMgAI
import Derived.Test.YtpnabggpdgjbmaaGreatDoorMgAJ
import Derived.Test.YtpnabggpdgjbmaaGreatDoorMgAF
import Derived.Test.YtpnabggpdgjbmaaGreatDoorMgAH
import Derived.Test.YtpnabggpdgjbmaaGreatDoorMgAC
import Derived.Deep.RegionHeld3
import Derived.Deep.RegionWith
namespace Go.Proofs.YtpnabggpdgjbmaaGreatDoor
open Go.RowKit Go.Sort
theorem isNote_any (x : Nt) (T : Option Addr) (c : Nat) (w : World) (hx : RdT w w.heap.size T c x.terms) (hf : x.fits) :
    Calls Tryz.prog 34 #[ntV x.name x.kind x.num x.den T x.terms.length c x.sp x.sd x.sq] w fun e w' => e = .returned (.bool (ntOk x)) ∧ Below w.heap.size w w' := by
  rcases ntOk_ways x with ⟨h0, hR⟩ | ⟨h0, h1, hR⟩ | ⟨h0, h1, hR⟩ | ⟨h0, h1, hR⟩ | ⟨h0, h1, h2, h3, hR⟩
  · have HN : Hid (∀ W, Calls Tryz.prog 75 #[.string x.name] W fun e w' => e = .returned (.bool (nameB x.name)) ∧ W = w') := fun W => iIsName_any x.name W hf.1
    clear hx hf
    rw [h0] at HN
    rw [hR]
    clear hR
    unfold ntV
    go_enter Tryz.func34, Tryz.ntmps34
    go_wp2_with (go_at_call 75; refine (HN.out _).mono ?_; rintro e w' ⟨rfl, rfl⟩)
    go_ret
    exact ⟨rfl, ext1 _ _⟩
  · rw [hR]; exact isNote_1 x T c w hx hf h0 _ rfl h1
  · rw [hR]; exact isNote_2 x T c w hx hf h0 _ rfl h1
  · rw [hR]; exact isNote_3 x T c w hx hf h0 _ rfl h1
  · rw [hR]; exact isNote_0 x T c w hx hf h0 _ rfl ⟨h1, h2, h3⟩
theorem l27One_any (x : Nt) (b o : Nat) (T : Option Addr) (c : Nat) (w : World) (hx : RdT w w.heap.size T c x.terms) (hf : x.fits) (ha : NtAt w b o x T c) :
    Calls Tryz.prog 40 #[.pointer (some ⟨b, o, none⟩)] w fun e w' => e = .returned (.bool (ntOk x)) ∧ Below w.heap.size w w' := by
  obtain ⟨c0, c1, c2, c3, c4, c5, c6, c7⟩ := ha
  rcases ntOk_ways x with ⟨h0, hR⟩ | ⟨h0, h1, hR⟩ | ⟨h0, h1, hR⟩ | ⟨h0, h1, hR⟩ | ⟨h0, h1, h2, h3, hR⟩
  · have HN : Hid (∀ W, Calls Tryz.prog 85 #[.string x.name] W fun e w' => e = .returned (.bool (nameB x.name)) ∧ W = w') := fun W => sIsName_any x.name W hf.1
    clear hx hf
    rw [h0] at HN
    rw [hR]
    clear hR
    go_enter Tryz.func40, Tryz.ntmps40
    go_wp2_with (go_at_call 85; refine (HN.out _).mono ?_; rintro e w' ⟨rfl, rfl⟩)
    go_ret
    exact ⟨rfl, Below.refl _ _⟩
  · rw [hR]; exact l27One_1 x b o T c w hx hf h0 _ rfl h1 c0 c1 c2 c3 c4 c5 c6 c7
  · rw [hR]; exact l27One_2 x b o T c w hx hf h0 _ rfl h1 c0 c1 c2 c3 c4 c5 c6 c7
  · rw [hR]; exact l27One_3 x b o T c w hx hf h0 _ rfl h1 c0 c1 c2 c3 c4 c5 c6 c7
  · rw [hR]; exact l27One_0 x b o T c w hx hf h0 _ rfl ⟨h1, h2, h3⟩ c0 c1 c2 c3 c4 c5 c6 c7
/-- Note k is valid, and its name stands behind the name of the one before it. -/
def okAtX (xs : List Nt) (k : Nat) : Bool := match xs[k]? with
  | some x => ntOk x && (if k = 0 then true else match xs[k - 1]? with
    | some p => ltB p.name x.name
    | none => true)
  | none => true
def okToX (xs : List Nt) : Nat → Bool
  | 0 => true
  | k + 1 => okToX xs k && okAtX xs k
def validNt (xs : List Nt) : Bool := okToX xs xs.length && decide (xs.length ≤ 40)
theorem okToX_false {xs : List Nt} {k : Nat} (h : okAtX xs k = false) : ∀ n, k < n → okToX xs n = false
  | n + 1, hn => by
    unfold okToX
    rcases Nat.lt_or_ge k n with g | g
    · rw [okToX_false h n g, Bool.false_and]
    · obtain rfl : k = n := by omega
      rw [h, Bool.and_false]
theorem okAtX_cases {xs : List Nt} {k : Nat} {x : Nt} (h : xs[k]? = some x) :
    (ntOk x = false ∧ okAtX xs k = false) ∨ (ntOk x = true ∧ k = 0 ∧ okAtX xs k = true) ∨
    (ntOk x = true ∧ 0 < k ∧ ∃ p, xs[k - 1]? = some p ∧ okAtX xs k = ltB p.name x.name) := by
  cases h1 : ntOk x
  · left
    refine ⟨rfl, ?_⟩
    unfold okAtX; rw [h]; simp [h1]
  · right
    rcases Nat.eq_zero_or_pos k with h0 | h0
    · left
      subst h0
      refine ⟨rfl, rfl, ?_⟩
      unfold okAtX; rw [h]; simp [h1]
    · right
      have hl := (List.getElem?_eq_some_iff.1 h).1
      have hp : xs[k - 1]? = some (xs[k - 1]'(by omega)) := List.getElem?_eq_getElem (by omega)
      refine ⟨rfl, h0, _, hp, ?_⟩
      unfold okAtX; rw [h]; simp only [hp, h1]; rw [if_neg (by omega), Bool.true_and]
set_option maxHeartbeats 2000000 in
theorem l27Ok_any (A : Option Addr) (c : Nat) (xs : List Nt) (w : World) (hr : RdNt w w.heap.size A xs) (hf : ∀ x ∈ xs, x.fits) (hl : xs.length ≤ maxLen) :
    Calls Tryz.prog 39 #[.slice A xs.length c] w fun e w' => e = .returned (.bool (validNt xs)) ∧ Below w.heap.size w w' := by
  unfold maxLen at hl
  have HF := Lib.hid hf
  clear hf
  go_enter Tryz.func39, Tryz.ntmps39
  go_wp2_with fail
  go_loopw [3] (fun t wr => ∃ k : Nat, k ≤ xs.length ∧ t = .int .i64 k ∧ Hid (okToX xs k = true) ∧ Below w.heap.size w wr) (fun t _ => xs.length - (intOf t).toNat)
  case atStart => exact ⟨0, by omega, rfl, rfl, Below.refl _ _⟩
  case round =>
    obtain ⟨k, hk, rfl, HK, hbe⟩ := hrel
    by_cases hlt : k < xs.length
    · obtain ⟨b, off, rfl, hb, hc⟩ := (hr.next hbe) (by omega)
      obtain ⟨x, hxk⟩ : ∃ x, xs[k]? = some x := ⟨_, List.getElem?_eq_getElem hlt⟩
      obtain ⟨T, ct, cr, cT⟩ := hc k x hxk
      have hfx := HF.out x (List.mem_of_getElem? hxk)
      have HN := Lib.hid (fun (V : World) (hb' : Below wr.heap.size wr V) => l27One_any x b (off + k * 8) T ct V (cT.next hb') hfx (cr.below hb' hb).nt)
      have c0 := cr.nt.c0
      have i0 : (0 : Int) ≤ (k : Int) := by omega
      have i1 : (k : Int) < (xs.length : Int) := by omega
      have k0 : ∀ x os, (grow (redrawn wr x) os).cell? ⟨b, off + k * 8, none⟩ = _ := cell_regrown c0
      have HOK := Lib.hid (okAtX_cases hxk)
      rcases HOK.out with ⟨g1, g2⟩ | ⟨g1, g3, g4⟩ | ⟨g1, g3, p, g4, g5⟩
      · rw [g1] at HN
        have HE : Hid (validNt xs = false) := by unfold Hid; rw [validNt, okToX_false g2 _ hlt]; rfl
        clear g1 g2 hc hxk cr cT hfx
        go_wp2_with fail
        refine wp_region_quiet_below (by kernel_rfl) (by kernel_rfl) ?_
        repeat (first | go_big_quiet_step ((with_reducible exact Calls.regrown_of (HN.out _ (below_regrown _ _ _)))) | quiet_step ((with_reducible exact Calls.regrown_of (HN.out _ (below_regrown _ _ _)))))
        refine wpQuiet_nil ?_
        intro _ hw'
        obtain ⟨⟨dq, oq⟩, hw''⟩ := hw'
        subst hw''
        go_wp2
        go_ret
        exact ⟨ret_bool HE.out.symm, ext_trans hbe (below_regrown _ _ _)⟩
      · rw [g1] at HN
        have HE : Hid (okToX xs (k + 1) = true) := by unfold Hid; rw [okToX, HK.out, g4]; rfl
        have hk0 : decide (0 < k) = false := by simp [g3]
        clear g1 g3 g4 hc hxk cr cT hfx
        go_wp2_with fail
        refine wp_region_quiet_below (by kernel_rfl) (by kernel_rfl) ?_
        repeat (first | go_big_quiet_step ((with_reducible exact Calls.regrown_of (HN.out _ (below_regrown _ _ _)))) | quiet_step ((with_reducible exact Calls.regrown_of (HN.out _ (below_regrown _ _ _)))))
        refine wpQuiet_nil ?_
        intro _ hw'
        obtain ⟨⟨dq, oq⟩, hw''⟩ := hw'
        subst hw''
        go_wp2
        go_roundw
        case rel => exact ⟨k + 1, by omega, by go_num, HE.out, ext_trans hbe (below_regrown _ _ _)⟩
        case measure => simp [intOf]; omega
      · rw [g1] at HN
        obtain ⟨T', ct', dr, _⟩ := hc (k - 1) p g4
        have d1 := dr.nt.c0
        have k5 : ∀ x os, (grow (redrawn wr x) os).cell? ⟨b, off + (k - 1) * 8, none⟩ = _ := cell_regrown d1
        have hk0 : decide (0 < k) = true := by simp [g3]
        have i2 : (0 : Int) ≤ (k : Int) - 1 := by omega
        have i3 : (k : Int) - 1 < (xs.length : Int) := by omega
        have i4 : (1 : Int) ≤ (k : Int) := by omega
        cases hlb : ltB p.name x.name
        · rw [hlb] at g5
          have HE : Hid (validNt xs = false) := by unfold Hid; rw [validNt, okToX_false g5 _ hlt]; rfl
          unfold ltB at hlb
          clear g1 g4 g5 hc hxk cr cT dr hfx
          go_wp2_with fail
          refine wp_region_quiet_below (by kernel_rfl) (by kernel_rfl) ?_
          repeat (first | go_big_quiet_step ((with_reducible exact Calls.regrown_of (HN.out _ (below_regrown _ _ _)))) | quiet_step ((with_reducible exact Calls.regrown_of (HN.out _ (below_regrown _ _ _)))))
          refine wpQuiet_nil ?_
          intro _ hw'
          obtain ⟨⟨dq, oq⟩, hw''⟩ := hw'
          subst hw''
          go_wp2
          go_ret
          exact ⟨ret_bool HE.out.symm, ext_trans hbe (below_regrown _ _ _)⟩
        · rw [hlb] at g5
          have HE : Hid (okToX xs (k + 1) = true) := by unfold Hid; rw [okToX, HK.out, g5]; rfl
          unfold ltB at hlb
          clear g1 g4 g5 hc hxk cr cT dr hfx
          go_wp2_with fail
          refine wp_region_quiet_below (by kernel_rfl) (by kernel_rfl) ?_
          repeat (first | go_big_quiet_step ((with_reducible exact Calls.regrown_of (HN.out _ (below_regrown _ _ _)))) | quiet_step ((with_reducible exact Calls.regrown_of (HN.out _ (below_regrown _ _ _)))))
          refine wpQuiet_nil ?_
          intro _ hw'
          obtain ⟨⟨dq, oq⟩, hw''⟩ := hw'
          subst hw''
          go_wp2
          go_roundw
          case rel => exact ⟨k + 1, by omega, by go_num, HE.out, ext_trans hbe (below_regrown _ _ _)⟩
          case measure => simp [intOf]; omega
    · have HE : Hid (decide (xs.length ≤ 40) = validNt xs) := by
        have h := HK.out
        rw [show k = xs.length by omega] at h
        unfold Hid
        rw [validNt, h, Bool.true_and]
      go_wp2
      go_ret
      exact ⟨ret_bool (HE.out ▸ (by rw [Bool.eq_iff_iff]; simp; omega)), hbe⟩
theorem sValidNotes_any (A : Option Addr) (c : Nat) (xs : List Nt) (w : World) (hr : RdNt w w.heap.size A xs) (hf : ∀ x ∈ xs, x.fits) (hl : xs.length ≤ maxLen) :
    Calls Tryz.prog 29 #[.slice A xs.length c] w fun e w' => e = .returned (.bool (validNt xs)) ∧ Below w.heap.size w w' := by
  have HC := Lib.hid (l27Ok_any A c xs w hr hf hl)
  go_enter Tryz.func29, Tryz.ntmps29
  go_wp2_with fail
  refine HC.out.mono ?_
  rintro e w1 ⟨rfl, hb1⟩
  go_wp2
  go_ret
  exact ⟨rfl, hb1⟩
set_option maxRecDepth 100000 in
set_option maxHeartbeats 4000000 in
theorem iValidNotes_any (A : Option Addr) (c : Nat) (xs : List Nt) (w : World) (hr : RdNt w w.heap.size A xs) (hf : ∀ x ∈ xs, x.fits) (hl : xs.length ≤ maxLen) :
    Calls Tryz.prog 28 #[.slice A xs.length c] w fun e w' => e = .returned (.bool (validNt xs)) ∧ Below w.heap.size w w' := by
  unfold maxLen at hl
  have HF := Lib.hid hf
  clear hf
  go_enter Tryz.func28, Tryz.ntmps28
  go_wp2_with fail
  go_loopw [7] (fun t wr => ∃ k : Nat, k ≤ xs.length ∧ t = .int .i64 k ∧ Hid (okToX xs k = true) ∧ Below w.heap.size w wr) (fun t _ => xs.length - (intOf t).toNat)
  case atStart => exact ⟨0, by omega, rfl, rfl, Below.refl _ _⟩
  case round =>
    obtain ⟨k, hk, rfl, HK, hbe⟩ := hrel
    by_cases hlt : k < xs.length
    · obtain ⟨b, off, rfl, hb, hc⟩ := (hr.next hbe) (by omega)
      obtain ⟨x, hxk⟩ : ∃ x, xs[k]? = some x := ⟨_, List.getElem?_eq_getElem hlt⟩
      obtain ⟨T, ct, cr, cT⟩ := hc k x hxk
      have hfx := HF.out x (List.mem_of_getElem? hxk)
      have HN := Lib.hid (fun (V : World) (hb' : Below wr.heap.size wr V) => isNote_any x T ct V (cT.next hb') hfx)
      have rx := cr.nt
      obtain ⟨c0, c1, c2, c3, c4, c5, c6, c7⟩ := rx
      have i0 : (0 : Int) ≤ (k : Int) := by omega
      have i1 : (k : Int) < (xs.length : Int) := by omega
      have hbx := ext1 wr (.cells #[.string x.name, .int .i64 x.kind, .int .i64 x.num, .int .i64 x.den, .slice T x.terms.length ct, .int .i64 x.sp, .int .i64 x.sd, .int .i64 x.sq] 31)
      have KX : ∀ j v, (ntC x T ct)[j]? = some v → ∀ y os, (grow (redrawn (wr.alloc (.cells #[.string x.name, .int .i64 x.kind, .int .i64 x.num, .int .i64 x.den, .slice T x.terms.length ct, .int .i64 x.sp, .int .i64 x.sd, .int .i64 x.sq] 31)) y) os).cell? ⟨wr.heap.size, j, none⟩ = some v := fun j v hv => cell_regrown (by rw [cell_one]; simpa [ntC] using hv)
      have k0 := KX 0 _ rfl
      have k1 := KX 1 _ rfl
      have k2 := KX 2 _ rfl
      have k3 := KX 3 _ rfl
      have k4 := KX 4 _ rfl
      have k5 := KX 5 _ rfl
      have k6 := KX 6 _ rfl
      have k7 := KX 7 _ rfl
      have HOK := Lib.hid (okAtX_cases hxk)
      clear KX
      generalize hWx : wr.alloc (.cells #[.string x.name, .int .i64 x.kind, .int .i64 x.num, .int .i64 x.den, .slice T x.terms.length ct, .int .i64 x.sp, .int .i64 x.sd, .int .i64 x.sq] 31) = Wx at *
      have HWX := Lib.hid hWx
      clear hWx
      rcases HOK.out with ⟨g1, g2⟩ | ⟨g1, g3, g4⟩ | ⟨g1, g3, p, g4, g5⟩
      · rw [g1] at HN
        have HE : Hid (validNt xs = false) := by unfold Hid; rw [validNt, okToX_false g2 _ hlt]; rfl
        clear g1 g2 hc hxk cr cT hfx
        go_wp2_with fail
        rw [HWX.out]
        refine wp_region_quiet_below (by kernel_rfl) (by kernel_rfl) ?_
        repeat (first | go_big_quiet_step ((with_reducible exact Calls.regrown_of (HN.out _ (ext_trans hbx (below_regrown _ _ _))))) | quiet_step ((with_reducible exact Calls.regrown_of (HN.out _ (ext_trans hbx (below_regrown _ _ _))))))
        refine wpQuiet_nil ?_
        intro _ hw'
        obtain ⟨⟨dq, oq⟩, hw''⟩ := hw'
        subst hw''
        go_wp2
        go_ret
        exact ⟨ret_bool HE.out.symm, ext_trans (ext_trans hbe hbx) (below_regrown _ _ _)⟩
      · rw [g1] at HN
        have HE : Hid (okToX xs (k + 1) = true) := by unfold Hid; rw [okToX, HK.out, g4]; rfl
        have hk0 : decide (0 < k) = false := by simp [g3]
        clear g1 g3 g4 hc hxk cr cT hfx
        go_wp2_with fail
        rw [HWX.out]
        refine wp_region_quiet_below (by kernel_rfl) (by kernel_rfl) ?_
        repeat (first | go_big_quiet_step ((with_reducible exact Calls.regrown_of (HN.out _ (ext_trans hbx (below_regrown _ _ _))))) | quiet_step ((with_reducible exact Calls.regrown_of (HN.out _ (ext_trans hbx (below_regrown _ _ _))))))
        refine wpQuiet_nil ?_
        intro _ hw'
        obtain ⟨⟨dq, oq⟩, hw''⟩ := hw'
        subst hw''
        go_wp2
        go_roundw
        case rel => exact ⟨k + 1, by omega, by go_num, HE.out, ext_trans (ext_trans hbe hbx) (below_regrown _ _ _)⟩
        case measure => simp [intOf]; omega
      · rw [g1] at HN
        obtain ⟨T', ct', dr, _⟩ := hc (k - 1) p g4
        have d1 := dr.nt.c0
        have k8 : ∀ y os, (grow (redrawn Wx y) os).cell? ⟨b, off + (k - 1) * 8, none⟩ = _ := cell_regrown ((hbx.cell (p := ⟨b, off + (k - 1) * 8, none⟩) hb).trans d1)
        have hk0 : decide (0 < k) = true := by simp [g3]
        have i2 : (0 : Int) ≤ (k : Int) - 1 := by omega
        have i3 : (k : Int) - 1 < (xs.length : Int) := by omega
        have i4 : (1 : Int) ≤ (k : Int) := by omega
        have htot := bl_total x.name.toList p.name.toList
        cases hlb : ltB p.name x.name
        · rw [hlb] at g5
          have HE : Hid (validNt xs = false) := by unfold Hid; rw [validNt, okToX_false g5 _ hlt]; rfl
          unfold ltB at hlb
          rw [hlb] at htot
          clear g1 g4 g5 hc hxk cr cT dr hfx hlb
          cases hl1 : Op.bytesLess x.name.toList p.name.toList
          · have hl2 : (x.name.toList == p.name.toList) = true := by rw [hl1, Bool.false_or] at htot; exact htot
            clear htot
            go_wp2_with fail
            rw [HWX.out]
            refine wp_region_quiet_below (by kernel_rfl) (by kernel_rfl) ?_
            repeat (first | go_big_quiet_step ((with_reducible exact Calls.regrown_of (HN.out _ (ext_trans hbx (below_regrown _ _ _))))) | quiet_step ((with_reducible exact Calls.regrown_of (HN.out _ (ext_trans hbx (below_regrown _ _ _))))))
            refine wpQuiet_nil ?_
            intro _ hw'
            obtain ⟨⟨dq, oq⟩, hw''⟩ := hw'
            subst hw''
            go_wp2
            go_ret
            exact ⟨ret_bool HE.out.symm, ext_trans (ext_trans hbe hbx) (below_regrown _ _ _)⟩
          · clear htot
            go_wp2_with fail
            rw [HWX.out]
            refine wp_region_quiet_below (by kernel_rfl) (by kernel_rfl) ?_
            repeat (first | go_big_quiet_step ((with_reducible exact Calls.regrown_of (HN.out _ (ext_trans hbx (below_regrown _ _ _))))) | quiet_step ((with_reducible exact Calls.regrown_of (HN.out _ (ext_trans hbx (below_regrown _ _ _))))))
            refine wpQuiet_nil ?_
            intro _ hw'
            obtain ⟨⟨dq, oq⟩, hw''⟩ := hw'
            subst hw''
            go_wp2
            go_ret
            exact ⟨ret_bool HE.out.symm, ext_trans (ext_trans hbe hbx) (below_regrown _ _ _)⟩
        · rw [hlb] at g5
          have HE : Hid (okToX xs (k + 1) = true) := by unfold Hid; rw [okToX, HK.out, g5]; rfl
          unfold ltB at hlb
          rw [hlb] at htot
          clear g1 g4 g5 hc hxk cr cT dr hfx hlb
          obtain ⟨hl1, hl2⟩ : Op.bytesLess x.name.toList p.name.toList = false ∧ (x.name.toList == p.name.toList) = false := by simpa using htot
          clear htot
          go_wp2_with fail
          rw [HWX.out]
          refine wp_region_quiet_below (by kernel_rfl) (by kernel_rfl) ?_
          repeat (first | go_big_quiet_step ((with_reducible exact Calls.regrown_of (HN.out _ (ext_trans hbx (below_regrown _ _ _))))) | quiet_step ((with_reducible exact Calls.regrown_of (HN.out _ (ext_trans hbx (below_regrown _ _ _))))))
          refine wpQuiet_nil ?_
          intro _ hw'
          obtain ⟨⟨dq, oq⟩, hw''⟩ := hw'
          subst hw''
          go_wp2
          go_roundw
          case rel => exact ⟨k + 1, by omega, by go_num, HE.out, ext_trans (ext_trans hbe hbx) (below_regrown _ _ _)⟩
          case measure => simp [intOf]; omega
    · have HE : Hid (decide (xs.length ≤ 40) = validNt xs) := by
        have h := HK.out
        rw [show k = xs.length by omega] at h
        unfold Hid
        rw [validNt, h, Bool.true_and]
      go_wp2
      go_ret
      exact ⟨ret_bool (HE.out ▸ (by rw [Bool.eq_iff_iff]; simp; omega)), hbe⟩
end Go.Proofs.YtpnabggpdgjbmaaGreatDoor
namespace Go.Proofs.YtpnabggpdgjbmaaGreatDoor
open Go.RowKit Go.Sort
theorem ntOk_f {s : ByteArray} {a c : Int} (hn : nameB s = true) (h : fracOk a c = true) : ntOk ⟨s, 1, a, c, [], 0, 0, 0⟩ = true := by
  unfold ntOk
  simp [hn, h, Nt.zT, Nt.zS]
theorem ntOk_t {s : ByteArray} {ts : List Int} (hn : nameB s = true) (h : termsB ts = true) : ntOk ⟨s, 2, 0, 0, ts, 0, 0, 0⟩ = true := by
  unfold ntOk
  simp [hn, h, Nt.zF, Nt.zS]
theorem ntOk_s {s : ByteArray} {p d q : Int} (hn : nameB s = true) (h : surdB p d q = true) : ntOk ⟨s, 3, 0, 0, [], p, d, q⟩ = true := by
  unfold ntOk
  simp [hn, h, Nt.zF, Nt.zT]
/-- What a draw of a valid note returns. -/
def RetNdo (g B N : Nat) (s : ByteArray) (w : World) (e : Ending) (w' : World) : Prop := ∃ (x : Nt) (v : Value), e = .returned (.agg #[.string x.name, .int .i64 x.kind, .int .i64 x.num, .int .i64 x.den, v, .int .i64 x.sp, .int .i64 x.sd, .int .i64 x.sq]) ∧
  x.name = s ∧ (nameB s = true → ntOk x = true) ∧ x.terms.length ≤ 9 ∧ w'.ownsRow (w.heap.size + 1) 2 1 v x.terms.length (x.terms.map (Value.int .i64)) ∧ Src g B N w' ∧ Keep g w w'
set_option maxRecDepth 100000 in
set_option maxHeartbeats 4000000 in
theorem l27New_ok (g B N : Nat) (s : ByteArray) (w : World) (h : Src g B N w) (hN : N ≤ 600000) :
    Calls Tryz.prog 71 #[.pointer (some ⟨g, 0, none⟩), .string s] w (RetNdo g B (N + 60) s w) := by
  have HG := Lib.hid h.lt
  have S := Lib.hid (h.next (ext1 w (.cells #[.string ⟨#[]⟩, .int .i64 0, .int .i64 0, .int .i64 0, .slice none 0 0, .int .i64 0, .int .i64 0, .int .i64 0] 31)))
  have K := Lib.hid (Keep.of (ext1 w (.cells #[.string ⟨#[]⟩, .int .i64 0, .int .i64 0, .int .i64 0, .slice none 0 0, .int .i64 0, .int .i64 0, .int .i64 0] 31)) h.lt)
  have R := Lib.hid (BoxV.new w #[.string ⟨#[]⟩, .int .i64 0, .int .i64 0, .int .i64 0, .slice none 0 0, .int .i64 0, .int .i64 0, .int .i64 0] 31)
  clear h
  go_enter Tryz.func71, Tryz.ntmps71
  go_wp2_with fail
  generalize w.alloc (.cells #[.string ⟨#[]⟩, .int .i64 0, .int .i64 0, .int .i64 0, .slice none 0 0, .int .i64 0, .int .i64 0, .int .i64 0] 31) = W0 at *
  refine (srcPick_any g B N 3 _ S.out (by omega) (by omega)).mono ?_
  rintro e w1 ⟨k, k1, k2, rfl, S1, K1⟩
  have R1 := Lib.hid (R.out.keepK K1 (by have := HG.out; omega))
  have KK := Lib.hid (K.out.trans K1)
  have HS1 := Lib.hid S1
  clear S1 K1 S K R
  have HT : Hid (∀ q : Int, SN g B (N + 2) (w1.heap.size + 1) ⟨s, q, 0, 0, [], 0, 0, 0⟩ (.slice (some ⟨w1.heap.size, 0, none⟩) 0 0) w ((w1.alloc (.cells #[] 2)).alloc (.cells #[.string s, .int .i64 q, .int .i64 0, .int .i64 0, .slice (some ⟨w1.heap.size, 0, none⟩) 0 0, .int .i64 0, .int .i64 0, .int .i64 0] 31))) := fun q => by
    have e1 := ext1 w1 (.cells #[] 2)
    have e2 := ext1 (w1.alloc (.cells #[] 2)) (.cells #[.string s, .int .i64 q, .int .i64 0, .int .i64 0, .slice (some ⟨w1.heap.size, 0, none⟩) 0 0, .int .i64 0, .int .i64 0, .int .i64 0] 31)
    have hl := R1.out.lt
    have hb := BoxV.new (w1.alloc (.cells #[] 2)) #[.string s, .int .i64 q, .int .i64 0, .int .i64 0, .slice (some ⟨w1.heap.size, 0, none⟩) 0 0, .int .i64 0, .int .i64 0, .int .i64 0] 31
    simp only [World.size_alloc] at hb
    refine ⟨(HS1.out.next e1).next e2, (KK.out.trans (Keep.of e1 HS1.out.lt)).trans (Keep.of e2 (HS1.out.next e1).lt), (R1.out.next e1).next e2, hb, ?_, by simp [Value.ownBlock], by omega, HG.out⟩
    have h := World.ownsRow_lit (base := w.heap.size + 1) (e := 2) (size := 1) w1 #[] 0 (by omega) (by unfold maxLen; omega) rfl
    exact World.ownsRow.alloc (by simpa using h) _
  obtain rfl | rfl | rfl : k = 0 ∨ k = 1 ∨ k = 2 := by omega
  · have T := Lib.hid (HT.out 1)
    clear HT k1 k2 R1 KK HS1
    go_wp2_with fail
    generalize (w1.alloc (.cells #[] 2)).alloc (.cells #[.string s, .int .i64 1, .int .i64 0, .int .i64 0, .slice (some ⟨w1.heap.size, 0, none⟩) 0 0, .int .i64 0, .int .i64 0, .int .i64 0] 31) = W1 at *
    refine (l02Draw_ok g B _ _ T.out.src (by omega)).mono ?_
    rintro e w2 ⟨a, c, rfl, hfo, S2, K2⟩
    have HFO := Lib.hid hfo
    clear hfo
    have T := Lib.hid (T.out.kept S2 K2)
    clear S2 K2
    generalize w1.heap.size + 1 = b at *
    have u0 := T.out.s.at 0 _ rfl
    have u1 := T.out.s.at 1 _ rfl
    have u2 := T.out.s.at 2 _ rfl
    have u3 := T.out.s.at 3 _ rfl
    have u4 := T.out.s.at 4 _ rfl
    have u5 := T.out.s.at 5 _ rfl
    have u6 := T.out.s.at 6 _ rfl
    have u7 := T.out.s.at 7 _ rfl
    have v0 := T.out.s.f 0
    have v1 := T.out.s.f 1
    have v2 := T.out.s.f 2
    have v3 := T.out.s.f 3
    have v4 := T.out.s.f 4
    have v5 := T.out.s.f 5
    have v6 := T.out.s.f 6
    have v7 := T.out.s.f 7
    have T := Lib.hid ((T.out.num a).den c)
    go_upto_region 10 with fail
    generalize (w2.setCell ⟨b, 2, none⟩ (.int .i64 a)).setCell ⟨b, 3, none⟩ (.int .i64 c) = W5 at *
    clear u0 u1 u2 u3 u4 u5 u6 u7 v0 v1 v2 v3 v4 v5 v6 v7
    have u0 := T.out.s.at 0 _ rfl
    have u1 := T.out.s.at 1 _ rfl
    have u2 := T.out.s.at 2 _ rfl
    have u3 := T.out.s.at 3 _ rfl
    have u4 := T.out.s.at 4 _ rfl
    have u5 := T.out.s.at 5 _ rfl
    have u6 := T.out.s.at 6 _ rfl
    have u7 := T.out.s.at 7 _ rfl
    have v0 := T.out.s.f 0
    have v1 := T.out.s.f 1
    have v2 := T.out.s.f 2
    have v3 := T.out.s.f 3
    have v4 := T.out.s.f 4
    have v5 := T.out.s.f 5
    have v6 := T.out.s.f 6
    have v7 := T.out.s.f 7
    have r0 := T.out.r.at 0 _ rfl
    have r1 := T.out.r.at 1 _ rfl
    have r2 := T.out.r.at 2 _ rfl
    have r3 := T.out.r.at 3 _ rfl
    have r4 := T.out.r.at 4 _ rfl
    have r5 := T.out.r.at 5 _ rfl
    have r6 := T.out.r.at 6 _ rfl
    have r7 := T.out.r.at 7 _ rfl
    have f0 := T.out.r.f 0
    have f1 := T.out.r.f 1
    have f2 := T.out.r.f 2
    have f3 := T.out.r.f 3
    have f4 := T.out.r.f 4
    have f5 := T.out.r.f 5
    have f6 := T.out.r.f 6
    have f7 := T.out.r.f 7
    have HE := Lib.hid (T.out.fin (M := N + 60) (by omega))
    clear T
    go_wp2
    refine bodyPost_ret ?_ rfl ⟨⟨s, 1, a, c, [], 0, 0, 0⟩, _, rfl, rfl, fun hn => ntOk_f hn HFO.out, by simp, HE.out _ _ _ _ _ _ _ _⟩
    simp [results, Tryz.results71, go_sem, r0, r1, r2, r3, r4, r5, r6, r7]
  · have T := Lib.hid (HT.out 2)
    clear HT k1 k2 R1 KK HS1
    go_wp2_with fail
    generalize (w1.alloc (.cells #[] 2)).alloc (.cells #[.string s, .int .i64 2, .int .i64 0, .int .i64 0, .slice (some ⟨w1.heap.size, 0, none⟩) 0 0, .int .i64 0, .int .i64 0, .int .i64 0] 31) = W1 at *
    refine (l03Draw_ok g B _ _ T.out.src (by omega)).mono ?_
    rintro e w2 ⟨ts, v, rfl, hto, hts, HL⟩
    have HTO := Lib.hid hto
    clear hto
    obtain ⟨_, A, c, rfl, _⟩ := Wr.of_own HL.row
    have HT2 := Lib.hid (T.out.terms HL)
    have T := Lib.hid (T.out.kept HL.src HL.keep)
    clear HL
    generalize w1.heap.size + 1 = b at *
    have u0 := T.out.s.at 0 _ rfl
    have u1 := T.out.s.at 1 _ rfl
    have u2 := T.out.s.at 2 _ rfl
    have u3 := T.out.s.at 3 _ rfl
    have u4 := T.out.s.at 4 _ rfl
    have u5 := T.out.s.at 5 _ rfl
    have u6 := T.out.s.at 6 _ rfl
    have u7 := T.out.s.at 7 _ rfl
    have v0 := T.out.s.f 0
    have v1 := T.out.s.f 1
    have v2 := T.out.s.f 2
    have v3 := T.out.s.f 3
    have v4 := T.out.s.f 4
    have v5 := T.out.s.f 5
    have v6 := T.out.s.f 6
    have v7 := T.out.s.f 7
    have T := HT2
    clear HT2
    go_upto_region 10 with fail
    generalize w2.setCell ⟨b, 4, none⟩ (.slice A ts.length c) = W5 at *
    clear u0 u1 u2 u3 u4 u5 u6 u7 v0 v1 v2 v3 v4 v5 v6 v7
    have u0 := T.out.s.at 0 _ rfl
    have u1 := T.out.s.at 1 _ rfl
    have u2 := T.out.s.at 2 _ rfl
    have u3 := T.out.s.at 3 _ rfl
    have u4 := T.out.s.at 4 _ rfl
    have u5 := T.out.s.at 5 _ rfl
    have u6 := T.out.s.at 6 _ rfl
    have u7 := T.out.s.at 7 _ rfl
    have v0 := T.out.s.f 0
    have v1 := T.out.s.f 1
    have v2 := T.out.s.f 2
    have v3 := T.out.s.f 3
    have v4 := T.out.s.f 4
    have v5 := T.out.s.f 5
    have v6 := T.out.s.f 6
    have v7 := T.out.s.f 7
    have r0 := T.out.r.at 0 _ rfl
    have r1 := T.out.r.at 1 _ rfl
    have r2 := T.out.r.at 2 _ rfl
    have r3 := T.out.r.at 3 _ rfl
    have r4 := T.out.r.at 4 _ rfl
    have r5 := T.out.r.at 5 _ rfl
    have r6 := T.out.r.at 6 _ rfl
    have r7 := T.out.r.at 7 _ rfl
    have f0 := T.out.r.f 0
    have f1 := T.out.r.f 1
    have f2 := T.out.r.f 2
    have f3 := T.out.r.f 3
    have f4 := T.out.r.f 4
    have f5 := T.out.r.f 5
    have f6 := T.out.r.f 6
    have f7 := T.out.r.f 7
    have HE := Lib.hid (T.out.fin (M := N + 60) (by omega))
    clear T
    go_wp2
    refine bodyPost_ret ?_ rfl ⟨⟨s, 2, 0, 0, ts, 0, 0, 0⟩, _, rfl, rfl, fun hn => ntOk_t hn HTO.out, hts, HE.out _ _ _ _ _ _ _ _⟩
    simp [results, Tryz.results71, go_sem, r0, r1, r2, r3, r4, r5, r6, r7]
  · have T := Lib.hid (HT.out 3)
    clear HT k1 k2 R1 KK HS1
    go_wp2_with fail
    generalize (w1.alloc (.cells #[] 2)).alloc (.cells #[.string s, .int .i64 3, .int .i64 0, .int .i64 0, .slice (some ⟨w1.heap.size, 0, none⟩) 0 0, .int .i64 0, .int .i64 0, .int .i64 0] 31) = W1 at *
    refine (l07Draw_any g B _ _ T.out.src (by omega)).mono ?_
    rintro e w2 ⟨p, d, q, rfl, S2, K2⟩
    have T := Lib.hid (T.out.kept S2 K2)
    clear S2 K2
    generalize w1.heap.size + 1 = b at *
    have u0 := T.out.s.at 0 _ rfl
    have u1 := T.out.s.at 1 _ rfl
    have u2 := T.out.s.at 2 _ rfl
    have u3 := T.out.s.at 3 _ rfl
    have u4 := T.out.s.at 4 _ rfl
    have u5 := T.out.s.at 5 _ rfl
    have u6 := T.out.s.at 6 _ rfl
    have u7 := T.out.s.at 7 _ rfl
    have v0 := T.out.s.f 0
    have v1 := T.out.s.f 1
    have v2 := T.out.s.f 2
    have v3 := T.out.s.f 3
    have v4 := T.out.s.f 4
    have v5 := T.out.s.f 5
    have v6 := T.out.s.f 6
    have v7 := T.out.s.f 7
    have T := Lib.hid (((T.out.sp p).sd d).sq q)
    go_upto_region 4 with fail
    generalize ((w2.setCell ⟨b, 5, none⟩ (.int .i64 p)).setCell ⟨b, 6, none⟩ (.int .i64 d)).setCell ⟨b, 7, none⟩ (.int .i64 q) = W5 at *
    clear u0 u1 u2 u3 u4 u5 u6 u7 v0 v1 v2 v3 v4 v5 v6 v7
    have u0 := T.out.s.at 0 _ rfl
    have u1 := T.out.s.at 1 _ rfl
    have u2 := T.out.s.at 2 _ rfl
    have u3 := T.out.s.at 3 _ rfl
    have u4 := T.out.s.at 4 _ rfl
    have u5 := T.out.s.at 5 _ rfl
    have u6 := T.out.s.at 6 _ rfl
    have u7 := T.out.s.at 7 _ rfl
    have v0 := T.out.s.f 0
    have v1 := T.out.s.f 1
    have v2 := T.out.s.f 2
    have v3 := T.out.s.f 3
    have v4 := T.out.s.f 4
    have v5 := T.out.s.f 5
    have v6 := T.out.s.f 6
    have v7 := T.out.s.f 7
    obtain ⟨r, hr⟩ : ∃ r, surdB p d q = r := ⟨_, rfl⟩
    go_wp2_with fail
    refine (l07Ok_any p d q _).mono ?_
    rw [hr]
    rintro e w6 ⟨rfl, hb6⟩
    have T := Lib.hid (T.out.next hb6)
    have HR := Lib.hid hr
    clear hr hb6 u0 u1 u2 u3 u4 u5 u6 u7 v0 v1 v2 v3 v4 v5 v6 v7
    cases r
    · skip
      have u0 := T.out.s.at 0 _ rfl
      have u1 := T.out.s.at 1 _ rfl
      have u2 := T.out.s.at 2 _ rfl
      have u3 := T.out.s.at 3 _ rfl
      have u4 := T.out.s.at 4 _ rfl
      have u5 := T.out.s.at 5 _ rfl
      have u6 := T.out.s.at 6 _ rfl
      have u7 := T.out.s.at 7 _ rfl
      have v0 := T.out.s.f 0
      have v1 := T.out.s.f 1
      have v2 := T.out.s.f 2
      have v3 := T.out.s.f 3
      have v4 := T.out.s.f 4
      have v5 := T.out.s.f 5
      have v6 := T.out.s.f 6
      have v7 := T.out.s.f 7
      have T := Lib.hid (((T.out.sp 1).sd 5).sq 2)
      go_upto_region 10 with fail
      generalize ((w6.setCell ⟨b, 5, none⟩ (.int .i64 1)).setCell ⟨b, 6, none⟩ (.int .i64 5)).setCell ⟨b, 7, none⟩ (.int .i64 2) = W6 at *
      clear u0 u1 u2 u3 u4 u5 u6 u7 v0 v1 v2 v3 v4 v5 v6 v7
      have u0 := T.out.s.at 0 _ rfl
      have u1 := T.out.s.at 1 _ rfl
      have u2 := T.out.s.at 2 _ rfl
      have u3 := T.out.s.at 3 _ rfl
      have u4 := T.out.s.at 4 _ rfl
      have u5 := T.out.s.at 5 _ rfl
      have u6 := T.out.s.at 6 _ rfl
      have u7 := T.out.s.at 7 _ rfl
      have v0 := T.out.s.f 0
      have v1 := T.out.s.f 1
      have v2 := T.out.s.f 2
      have v3 := T.out.s.f 3
      have v4 := T.out.s.f 4
      have v5 := T.out.s.f 5
      have v6 := T.out.s.f 6
      have v7 := T.out.s.f 7
      have r0 := T.out.r.at 0 _ rfl
      have r1 := T.out.r.at 1 _ rfl
      have r2 := T.out.r.at 2 _ rfl
      have r3 := T.out.r.at 3 _ rfl
      have r4 := T.out.r.at 4 _ rfl
      have r5 := T.out.r.at 5 _ rfl
      have r6 := T.out.r.at 6 _ rfl
      have r7 := T.out.r.at 7 _ rfl
      have f0 := T.out.r.f 0
      have f1 := T.out.r.f 1
      have f2 := T.out.r.f 2
      have f3 := T.out.r.f 3
      have f4 := T.out.r.f 4
      have f5 := T.out.r.f 5
      have f6 := T.out.r.f 6
      have f7 := T.out.r.f 7
      have HE := Lib.hid (T.out.fin (M := N + 60) (by omega))
      clear T
      go_wp2
      refine bodyPost_ret ?_ rfl ⟨⟨s, 3, 0, 0, [], 1, 5, 2⟩, _, rfl, rfl, fun hn => ntOk_s hn (by unfold surdB sqB; decide), by simp, HE.out _ _ _ _ _ _ _ _⟩
      simp [results, Tryz.results71, go_sem, r0, r1, r2, r3, r4, r5, r6, r7]
    · skip
      have u0 := T.out.s.at 0 _ rfl
      have u1 := T.out.s.at 1 _ rfl
      have u2 := T.out.s.at 2 _ rfl
      have u3 := T.out.s.at 3 _ rfl
      have u4 := T.out.s.at 4 _ rfl
      have u5 := T.out.s.at 5 _ rfl
      have u6 := T.out.s.at 6 _ rfl
      have u7 := T.out.s.at 7 _ rfl
      have v0 := T.out.s.f 0
      have v1 := T.out.s.f 1
      have v2 := T.out.s.f 2
      have v3 := T.out.s.f 3
      have v4 := T.out.s.f 4
      have v5 := T.out.s.f 5
      have v6 := T.out.s.f 6
      have v7 := T.out.s.f 7
      have r0 := T.out.r.at 0 _ rfl
      have r1 := T.out.r.at 1 _ rfl
      have r2 := T.out.r.at 2 _ rfl
      have r3 := T.out.r.at 3 _ rfl
      have r4 := T.out.r.at 4 _ rfl
      have r5 := T.out.r.at 5 _ rfl
      have r6 := T.out.r.at 6 _ rfl
      have r7 := T.out.r.at 7 _ rfl
      have f0 := T.out.r.f 0
      have f1 := T.out.r.f 1
      have f2 := T.out.r.f 2
      have f3 := T.out.r.f 3
      have f4 := T.out.r.f 4
      have f5 := T.out.r.f 5
      have f6 := T.out.r.f 6
      have f7 := T.out.r.f 7
      have HE := Lib.hid (T.out.fin (M := N + 60) (by omega))
      clear T
      go_wp2
      refine bodyPost_ret ?_ rfl ⟨⟨s, 3, 0, 0, [], p, d, q⟩, _, rfl, rfl, fun hn => ntOk_s hn HR.out, by simp, HE.out _ _ _ _ _ _ _ _⟩
      simp [results, Tryz.results71, go_sem, r0, r1, r2, r3, r4, r5, r6, r7]
end Go.Proofs.YtpnabggpdgjbmaaGreatDoor
namespace Go.Proofs.YtpnabggpdgjbmaaGreatDoor
open Go.RowKit Go.Sort
theorem okToX_allV {xs : List Nt} : ∀ n, (∀ k, k < n → okAtX xs k = true) → okToX xs n = true
  | 0, _ => rfl
  | n + 1, h => by rw [okToX, okToX_allV n (fun k hk => h k (by omega)), h n (by omega)]; rfl
theorem validNt_of {xs : List Nt} (hl : xs.length ≤ 40) (h : ∀ k, k < xs.length → okAtX xs k = true) : validNt xs = true := by
  unfold validNt
  rw [okToX_allV _ h, decide_eq_true hl]; rfl
theorem okAtX_of {xs : List Nt} {k : Nat} {x : Nt} (hx : xs[k]? = some x) (ho : ntOk x = true) (hp : ∀ p, 0 < k → xs[k - 1]? = some p → ltB p.name x.name = true) : okAtX xs k = true := by
  unfold okAtX
  rw [hx]
  simp only [ho, Bool.true_and]
  split
  · rfl
  · next h0 =>
    split
    · next p h => exact hp p (by omega) h
    · rfl
end Go.Proofs.YtpnabggpdgjbmaaGreatDoor
namespace Go.Proofs.YtpnabggpdgjbmaaGreatDoor
open Go.RowKit Go.Sort
/-- The names of the notes that are drawn. -/
def nmsD : List ByteArray := [⟨#[97]⟩, ⟨#[98, 45, 50]⟩, ⟨#[103, 111, 108, 100, 101, 110]⟩, ⟨#[112, 105]⟩, ⟨#[114, 111, 111, 116]⟩, ⟨#[120]⟩]
theorem valid_pw {xs : List Nt} (h : xs.Pairwise fun x y => ltB x.name y.name = true) (ho : ∀ x ∈ xs, ntOk x = true) (hl : xs.length ≤ 40) : validNt xs = true :=
  validNt_of hl fun k hk => okAtX_of (List.getElem?_eq_getElem hk) (ho _ (List.getElem_mem hk)) fun p h0 hp => by
    obtain ⟨hlt, rfl⟩ := List.getElem?_eq_some_iff.1 hp
    exact List.pairwise_iff_getElem.1 h (k - 1) k hlt hk (by omega)
/-- So far the notes are some of the first k. -/
def LdI (k : Nat) (xs : List Nt) : Prop := (xs.map Nt.name).Sublist (nmsD.take k) ∧ ∀ x ∈ xs, ntOk x = true
theorem LdI.start : LdI 0 [] := ⟨List.Sublist.refl _, by simp⟩
theorem LdI.skip {k : Nat} {xs : List Nt} (h : LdI k xs) : LdI (k + 1) xs := ⟨h.1.trans ((List.take_prefix_take_left (Nat.le_succ k)).sublist), h.2⟩
theorem LdI.push {k : Nat} {xs : List Nt} {x : Nt} (h : LdI k xs) (hx : nmsD[k]? = some x.name) (ho : ntOk x = true) : LdI (k + 1) (xs ++ [x]) := by
  refine ⟨?_, fun y hy => ?_⟩
  · rw [List.map_append, List.take_add_one, hx]
    exact h.1.append (List.Sublist.refl _)
  · rcases List.mem_append.1 hy with hy | hy
    · exact h.2 y hy
    · simp only [List.mem_cons, List.not_mem_nil, or_false] at hy
      subst hy
      exact ho
theorem LdI.len {k : Nat} {xs : List Nt} (h : LdI k xs) : xs.length ≤ 6 := by
  have h1 := h.1.length_le
  rw [List.length_map, List.length_take] at h1
  have : nmsD.length = 6 := rfl
  omega
theorem nmsD_pw : nmsD.Pairwise fun a b => ltB a b = true := by
  have h : nmsD.Pairwise fun a b => Op.bytesLess a.data.toList b.data.toList = true := by decide
  exact h.imp fun h => by
    unfold ltB
    rw [ByteArray.toList_eq, ByteArray.toList_eq]
    exact h
theorem LdI.valid {k : Nat} {xs : List Nt} (h : LdI k xs) : validNt xs = true := by
  have h1 := nmsD_pw.sublist (h.1.trans (List.take_sublist _ _))
  rw [List.pairwise_map] at h1
  exact valid_pw h1 h.2 (by have := h.len; omega)
theorem nmsD_ok {k : Nat} {s : ByteArray} (h : nmsD[k]? = some s) : nameB s = true := by
  have : ∀ s ∈ nmsD, nameB s = true := by decide
  exact this s (List.mem_of_getElem? h)
end Go.Proofs.YtpnabggpdgjbmaaGreatDoor
namespace Go.Proofs.YtpnabggpdgjbmaaGreatDoor
open Go.RowKit Go.Sort
/-- The cells of a new block, one by one. -/
theorem news_row (w : World) {C : Array Value} (T : TypeId) (vs : List Value) (h : C.toList = vs) : ∀ j u, vs[j]? = some u → (w.alloc (.cells C T)).cell? ((⟨w.heap.size, 0, none⟩ : Addr).add j) = some u := fun j u hu => by
  have ea : (⟨w.heap.size, 0, none⟩ : Addr).add j = ⟨w.heap.size, 0 + j, none⟩ := by
    unfold Addr.add
    by_cases hj : j = 0 <;> simp [hj]
  rw [ea, Nat.zero_add, cell_one, ← Array.getElem?_toList, h]
  exact hu
end Go.Proofs.YtpnabggpdgjbmaaGreatDoor
