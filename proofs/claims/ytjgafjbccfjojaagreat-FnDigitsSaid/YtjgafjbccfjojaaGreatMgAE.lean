/- Parts of the proof, merged: DigUW TmTW. No condition but those that each theorem names. -/
import Derived.StillTailTactics
import Derived.Test.YtjgafjbccfjojaaGreatMgAD
import Derived.Test.YtjgafjbccfjojaaGreatMgAB
namespace Go.Proofs.YtjgafjbccfjojaaGreat
open Go.RowKit Go.Sort
theorem S4.q_bd {s : S4} (hl : s.low = true) (hc : 1 ≤ s.c) : -100000000000000000 ≤ s.q ∧ s.q ≤ 100000000000000000 := by
  obtain ⟨⟨a1, a2⟩, _, _, _⟩ := S4.low_true.1 hl
  exact ediv_bd (n := s.a) (g := s.c) (M := 100000000000000000) (by omega) a1 a2
set_option maxRecDepth 100000 in
set_option maxHeartbeats 2000000 in
theorem know_any (g : Nat) (s : S4) (fed : Int) (ok : Bool) (W : World) (hb : BoxV g (sC s fed ok) W) (hl : s.low = true) (hc : 0 ≤ s.c) (hd : 0 ≤ s.d) :
    Calls Tryz.prog 60 #[.pointer (some ⟨g, 0, none⟩)] W fun e w' => e = .returned (.tuple #[.int .i64 s.q, .bool s.kn]) ∧ Below W.heap.size W w' := by
  obtain ⟨⟨a1, a2⟩, ⟨b1, b2⟩, ⟨c1, c2⟩, ⟨d1, d2⟩⟩ := S4.low_true.1 hl
  have HQ : Hid (s.q = s.a / s.c) := rfl
  have HK : Hid (s.kn = (decide (0 < s.c) && decide (s.a / s.c = (s.a + s.b) / (s.c + s.d)))) := rfl
  rw [HQ.out, HK.out]
  clear HQ HK hl
  change BoxV g [.int .i64 s.a, .int .i64 s.b, .int .i64 s.c, .int .i64 s.d, .int .i64 fed, .bool ok] W at hb
  generalize s.a = a at *
  generalize s.b = b at *
  generalize s.c = c at *
  generalize s.d = d at *
  have HB := Lib.hid hb
  have k0 := fun x os => cell_regrown (d := x) (os := os) (hb.at 0 _ rfl)
  have k1 := fun x os => cell_regrown (d := x) (os := os) (hb.at 1 _ rfl)
  have k2 := fun x os => cell_regrown (d := x) (os := os) (hb.at 2 _ rfl)
  have k3 := fun x os => cell_regrown (d := x) (os := os) (hb.at 3 _ rfl)
  clear hb
  by_cases h0 : c = 0
  · have e0 : (c == 0) = true := by simpa using h0
    have H0 := Lib.hid h0
    have v0 : IntKind.i64.wrap (c + d) = c + d := IntWalk.i64_in _ (by omega)
    clear h0
    go_enter Tryz.func60, Tryz.ntmps60
    go_wp2_with fail
    refine wp_region_quiet_below (by kernel_rfl) (by kernel_rfl) ?_
    repeat (first | go_big_quiet_step (fail) | quiet_step (fail))
    refine wpQuiet_nil ?_
    intro _ hw'
    obtain ⟨⟨dq, oq⟩, hw''⟩ := hw'
    subst hw''
    have x2 := k2 dq oq
    go_wp2
    go_ret2
    exact ⟨by rw [H0.out]; simp, below_regrown _ _ _⟩
  · have e0 : (c == 0) = false := by simpa using h0
    have e1 : (c + d == 0) = false := by simp; omega
    have e2 : decide (0 < c) = true := by simp; omega
    have e3 : decide (0 < c + d) = true := by simp; omega
    have v0 : IntKind.i64.wrap (c + d) = c + d := IntWalk.i64_in _ (by omega)
    have v1 : IntKind.i64.wrap (a + b) = a + b := IntWalk.i64_in _ (by omega)
    have HD1 := Lib.hid (fun W : World => l13Div_any a c W (by omega) (by omega) (by omega) (by omega))
    have HD2 := Lib.hid (fun W : World => l13Div_any (a + b) (c + d) W (by omega) (by omega) (by omega) (by omega))
    rw [e2]
    generalize a / c = q at *
    generalize (a + b) / (c + d) = r at *
    clear h0 hc
    go_enter Tryz.func60, Tryz.ntmps60
    go_wp2_with fail
    refine wp_region_quiet_below (by kernel_rfl) (by kernel_rfl) ?_
    repeat (first | go_big_quiet_step (fail) | quiet_step (fail))
    refine wpQuiet_nil ?_
    intro _ hw'
    obtain ⟨⟨dq, oq⟩, hw''⟩ := hw'
    subst hw''
    have B1 := Lib.hid (HB.out.next (below_regrown W dq oq))
    have E1 := Lib.hid (below_regrown W dq oq)
    clear k0 k1 k2 k3
    generalize grow (redrawn W dq) oq = W1 at *
    have x2 := B1.out.at 2 _ rfl
    have k0 := fun x os => cell_regrown (d := x) (os := os) (B1.out.at 0 _ rfl)
    have k2 := fun x os => cell_regrown (d := x) (os := os) (B1.out.at 2 _ rfl)
    go_wp2_with fail
    refine wp_region_quiet_below (by kernel_rfl) (by kernel_rfl) ?_
    repeat (first | go_big_quiet_step ((with_reducible exact regrown_same (HD1.out _))) | quiet_step ((with_reducible exact regrown_same (HD1.out _))))
    refine wpQuiet_nil ?_
    intro _ hw'
    obtain ⟨⟨dq2, oq2⟩, hw''⟩ := hw'
    subst hw''
    have B2 := Lib.hid (B1.out.next (below_regrown W1 dq2 oq2))
    have E2 := Lib.hid (ext_trans E1.out (below_regrown W1 dq2 oq2))
    clear k0 k2 x2 B1 E1
    generalize grow (redrawn W1 dq2) oq2 = W2 at *
    have k0 := fun x os => cell_regrown (d := x) (os := os) (B2.out.at 0 _ rfl)
    have k1 := fun x os => cell_regrown (d := x) (os := os) (B2.out.at 1 _ rfl)
    go_wp2_with fail
    refine wp_region_quiet_below (by kernel_rfl) (by kernel_rfl) ?_
    repeat (first | go_big_quiet_step ((with_reducible exact regrown_same (HD2.out _))) | quiet_step ((with_reducible exact regrown_same (HD2.out _))))
    refine wpQuiet_nil ?_
    intro _ hw'
    obtain ⟨⟨dq3, oq3⟩, hw''⟩ := hw'
    subst hw''
    go_wp2
    go_ret2
    exact ⟨by rw [Bool.true_and]; rfl, ext_trans E2.out (below_regrown _ _ _)⟩
theorem grown_drew {W w' : World} {row : Option Nat} (h : W.drew.grownBy w' row) : W.grownBy w' row := ⟨h.os, h.tape, h.output, h.size, h.block⟩
/-- What a step of the reference leaves: the state, or that it is full. -/
def StepTo (g : Nat) (R : Option S4) (fed : Int) (W W' : World) : Prop :=
  W.grownBy W' (some g) ∧ match R with
    | some s' => BoxV g (sC s' fed true) W'
    | none => ∃ s' f', BoxV g (sC s' f' false) W'
theorem stepTo_of {g : Nat} {s : S4} {c : Bool} {fed : Int} {W W' : World} (h : W.grownBy W' (some g)) (hb : BoxV g (sC s.nrm fed (true && s.nrm.low)) W') (hc : c = true) : StepTo g (if (c && s.nrm.low) = true then some s.nrm else none) fed W W' := by
  subst hc
  rw [Bool.true_and] at hb ⊢
  cases hl : s.nrm.low
  · rw [hl] at hb
    exact ⟨h, _, _, hb⟩
  · rw [hl] at hb
    exact ⟨h, hb⟩
set_option maxRecDepth 100000 in
set_option maxHeartbeats 2000000 in
theorem end_any (g : Nat) (s : S4) (fed : Int) (W : World) (hb : BoxV g (sC s fed true) W) (hl : s.low = true) (hc : 1 ≤ s.c) :
    Calls Tryz.prog 64 #[.pointer (some ⟨g, 0, none⟩)] W fun e w' => e = .returned (.tuple #[]) ∧ StepTo g (some s.enS.nrm) fed W w' := by
  obtain ⟨⟨a1, a2⟩, _, ⟨c1, c2⟩, _⟩ := S4.low_true.1 hl
  have hgp : 0 < s.enS.g := S4.g_pos (s := s.enS) hc
  have HLo := Lib.hid (S4.nrm_low (s := s.enS) (S4.en_low hl))
  have HS : Hid (∀ V : World, BoxV g (sC s fed true) V → Calls Tryz.prog 84 #[.pointer (some ⟨g, 0, none⟩), .int .i64 s.a, .int .i64 s.a, .int .i64 s.c, .int .i64 s.c] V fun e w' => e = .returned (.tuple #[]) ∧ BoxV g (sC s.enS.nrm fed (true && s.enS.nrm.low)) w' ∧ V.grownBy w' (some g)) := fun V h => sset_any g s.enS s fed true V h ⟨by show _ ≤ s.a; omega, by show s.a ≤ _; omega⟩ ⟨by show _ ≤ s.a; omega, by show s.a ≤ _; omega⟩ ⟨by show _ ≤ s.c; omega, by show s.c ≤ _; omega⟩ ⟨by show _ ≤ s.c; omega, by show s.c ≤ _; omega⟩ hgp
  have VD := Lib.hid hb.drew
  have HX := Lib.hid (fun (V : World) (h : BoxV g (sC s fed true) V) => And.intro (h.at 0 _ rfl) (h.at 2 _ rfl))
  clear hb hl hgp
  go_enter Tryz.func64, Tryz.ntmps64
  go_wp2_with fail
  obtain ⟨x0, x2⟩ := HX.out _ VD.out
  refine wp_region_still_tail 17 (by kernel_rfl) (by kernel_rfl) ?_
  simp only [List.take_succ_cons, List.take_zero, List.drop_succ_cons, List.drop_zero]
  repeat (first | still_step | (fail))
  refine wpStill_nil ?_
  change wpList _ _ _ _ _ (World.drew _)
  go_wp2_with fail
  refine (HS.out _ VD.out).mono ?_
  rintro e w5 ⟨rfl, hb5, hg5⟩
  have B5 := Lib.hid hb5
  clear hb5 x0 x2
  go_wp2
  go_end0
  refine ⟨rfl, grown_drew hg5, ?_⟩
  have h := B5.out
  rw [HLo.out] at h
  exact h
set_option maxRecDepth 100000 in
set_option maxHeartbeats 2000000 in
theorem feed_any (g : Nat) (s : S4) (fed t : Int) (W : World) (hb : BoxV g (sC s fed true) W) (hl : s.low = true) (hc : 1 ≤ (s.fdS t).c) (t1 : -1000000000000000 ≤ t) (t2 : t ≤ 1000000000000000) (f1 : 0 ≤ fed) (f2 : fed ≤ 1000000) :
    Calls Tryz.prog 63 #[.pointer (some ⟨g, 0, none⟩), .int .i64 t] W fun e w' => e = .returned (.tuple #[]) ∧ StepTo g (s.fd t) (fed + 1) W w' := by
  obtain ⟨⟨a1, a2⟩, ⟨b1, b2⟩, ⟨c1, c2⟩, ⟨d1, d2⟩⟩ := S4.low_true.1 hl
  have la : lowI s.a = true := lowI_true.2 ⟨a1, a2⟩
  have lc : lowI s.c = true := lowI_true.2 ⟨c1, c2⟩
  have HF1 := Lib.hid (fun V : World => fits_any (.pointer (some ⟨g, 0, none⟩)) s.a t V (by omega) (by omega) (by omega) (by omega) (.inl la))
  have HF2 := Lib.hid (fun V : World => fits_any (.pointer (some ⟨g, 0, none⟩)) s.c t V (by omega) (by omega) (by omega) (by omega) (.inl lc))
  have HB := Lib.hid hb
  have HD : Hid (s.fd t = if (s.fdF t && (s.fdS t).nrm.low) = true then some (s.fdS t).nrm else none) := rfl
  have HD2 : Hid (s.fdF t = (fitI s.a t && fitI s.c t)) := rfl
  have HG0 : Hid (W.grownBy W (some g)) := World.grownBy.refl W (some g)
  have x0 := hb.at 0 _ rfl
  have x2 := hb.at 2 _ rfl
  have x5 := hb.at 5 _ rfl
  have f5 := hb.f 5
  have hgp : 0 < (s.fdS t).g := S4.g_pos (s := s.fdS t) hc
  cases h1 : fitI s.a t
  · rw [h1] at HF1 HD2
    have HE : Hid (s.fd t = none) := by unfold Hid; rw [HD.out, HD2.out]; rfl
    rw [HE.out]
    clear h1 hb
    go_enter Tryz.func63, Tryz.ntmps63
    go_wp2_with (go_at_call 83; (with_reducible refine (HF1.out _).mono ?_); rintro e w' ⟨rfl, rfl⟩)
    exact bodyPost_ret (v := .tuple #[]) (by simp [results, Tryz.results63, go_sem]; done) rfl ⟨rfl, Go.Lib.grownBy_setB HG0.out 5 _, s, fed, HB.out.set 5 (.bool false) (by simp)⟩
  · rw [h1] at HF1 HD2
    cases h2 : fitI s.c t
    · rw [h2] at HF2 HD2
      have HE : Hid (s.fd t = none) := by unfold Hid; rw [HD.out, HD2.out]; rfl
      rw [HE.out]
      clear h1 h2 hb
      go_enter Tryz.func63, Tryz.ntmps63
      go_wp2_with (first | (go_at_call 83; (with_reducible refine (HF1.out _).mono ?_); rintro e w' ⟨rfl, rfl⟩) | (go_at_call 83; (with_reducible refine (HF2.out _).mono ?_); rintro e w' ⟨rfl, rfl⟩))
      exact bodyPost_ret (v := .tuple #[]) (by simp [results, Tryz.results63, go_sem]; done) rfl ⟨rfl, Go.Lib.grownBy_setB HG0.out 5 _, s, fed, HB.out.set 5 (.bool false) (by simp)⟩
    · rw [h2] at HF2 HD2
      obtain ⟨p1, p2⟩ := fit_bd h1
      obtain ⟨p3, p4⟩ := fit_bd h2
      have v1 : IntKind.i64.wrap (s.a * t) = s.a * t := IntWalk.i64_in _ (by omega)
      have v2 : IntKind.i64.wrap (s.c * t) = s.c * t := IntWalk.i64_in _ (by omega)
      have v3 : IntKind.i64.wrap (s.a * t + s.b) = s.a * t + s.b := IntWalk.i64_in _ (by omega)
      have v4 : IntKind.i64.wrap (s.c * t + s.d) = s.c * t + s.d := IntWalk.i64_in _ (by omega)
      have HS : Hid (∀ V : World, BoxV g (sC s fed true) V → Calls Tryz.prog 84 #[.pointer (some ⟨g, 0, none⟩), .int .i64 (s.a * t + s.b), .int .i64 s.a, .int .i64 (s.c * t + s.d), .int .i64 s.c] V fun e w' => e = .returned (.tuple #[]) ∧ BoxV g (sC (s.fdS t).nrm fed (true && (s.fdS t).nrm.low)) w' ∧ V.grownBy w' (some g)) := fun V h => sset_any g (s.fdS t) s fed true V h ⟨by show _ ≤ s.a * t + s.b; omega, by show s.a * t + s.b ≤ _; omega⟩ ⟨by show _ ≤ s.a; omega, by show s.a ≤ _; omega⟩ ⟨by show _ ≤ s.c * t + s.d; omega, by show s.c * t + s.d ≤ _; omega⟩ ⟨by show _ ≤ s.c; omega, by show s.c ≤ _; omega⟩ hgp
      have x1 := hb.at 1 _ rfl
      have x3 := hb.at 3 _ rfl
      have HE : Hid (s.fd t = if (true && (s.fdS t).nrm.low) = true then some (s.fdS t).nrm else none) := by unfold Hid; rw [HD.out, HD2.out]; rfl
      have HST : Hid (∀ V V' : World, V.grownBy V' (some g) → BoxV g (sC (s.fdS t).nrm (fed + 1) (true && (s.fdS t).nrm.low)) V' → StepTo g (s.fd t) (fed + 1) V V') := fun V V' h k => by rw [HE.out]; exact stepTo_of (c := true) (s := s.fdS t) h k rfl
      generalize s.fd t = R at *
      have hw5 : IntKind.i64.wrap (fed + 1) = fed + 1 := IntWalk.i64_in _ (by omega)
      clear h1 h2 hb hc hgp p1 p2 p3 p4
      go_enter Tryz.func63, Tryz.ntmps63
      go_wp2_with (first | (go_at_call 83; (with_reducible refine (HF1.out _).mono ?_); rintro e w' ⟨rfl, rfl⟩) | (go_at_call 83; (with_reducible refine (HF2.out _).mono ?_); rintro e w' ⟨rfl, rfl⟩))
      refine wp_region_still_tail 31 (by kernel_rfl) (by kernel_rfl) ?_
      simp only [List.take_succ_cons, List.take_zero, List.drop_succ_cons, List.drop_zero]
      repeat (first | still_step | (fail))
      refine wpStill_nil ?_
      change wpList _ _ _ _ _ (World.drew _)
      go_wp2_with fail
      refine (HS.out _ HB.out.drew).mono ?_
      rintro e w5 ⟨rfl, hb5, hg5⟩
      have B5 := Lib.hid hb5
      have y4 := hb5.at 4 _ rfl
      have g4 := hb5.f 4
      clear hb5 x0 x1 x2 x3 x5 f5
      go_wp2_with fail
      go_end0
      exact ⟨rfl, HST.out _ _ (Go.Lib.grownBy_setB (grown_drew hg5) 4 _) (B5.out.set 4 (.int .i64 (fed + 1)) (by simp))⟩
set_option maxRecDepth 100000 in
set_option maxHeartbeats 4000000 in
theorem take_any (g : Nat) (s : S4) (fed base : Int) (W : World) (hb : BoxV g (sC s fed true) W) (hl : s.low = true) (hc : 1 ≤ s.c) (b1' : 2 ≤ base) (b2' : base ≤ 36) :
    Calls Tryz.prog 61 #[.pointer (some ⟨g, 0, none⟩), .int .i64 s.q, .int .i64 base] W fun e w' => e = .returned (.tuple #[]) ∧ StepTo g (s.tk base) fed W w' := by
  obtain ⟨⟨a1, a2⟩, ⟨b1, b2⟩, ⟨c1, c2⟩, ⟨d1, d2⟩⟩ := S4.low_true.1 hl
  obtain ⟨q1, q2⟩ := S4.q_bd hl hc
  have lc : lowI s.c = true := lowI_true.2 ⟨c1, c2⟩
  have ld : lowI s.d = true := lowI_true.2 ⟨d1, d2⟩
  have HF1 := Lib.hid (fun V : World => fits_any (.pointer (some ⟨g, 0, none⟩)) s.c s.q V (by omega) (by omega) (by omega) (by omega) (.inl lc))
  have HF2 := Lib.hid (fun V : World => fits_any (.pointer (some ⟨g, 0, none⟩)) s.d s.q V (by omega) (by omega) (by omega) (by omega) (.inl ld))
  have HB := Lib.hid hb
  have HD : Hid (s.tk base = if (s.tkF base && (s.tkS base).nrm.low) = true then some (s.tkS base).nrm else none) := rfl
  have HD2 : Hid (s.tkF base = (fitI s.c s.q && fitI s.d s.q && fitI (s.a - s.q * s.c) base && fitI (s.b - s.q * s.d) base)) := by
    unfold Hid S4.tkF
    rw [fit_comm s.q s.c, fit_comm s.q s.d, fit_comm base, fit_comm base]
  have HG0 : Hid (W.grownBy W (some g)) := World.grownBy.refl W (some g)
  have x2 := hb.at 2 _ rfl
  have x3 := hb.at 3 _ rfl
  have x5 := hb.at 5 _ rfl
  have f5 := hb.f 5
  have hgp : 0 < (s.tkS base).g := S4.g_pos (s := s.tkS base) hc
  cases h1 : fitI s.c s.q
  · rw [h1] at HF1 HD2
    have HE : Hid (s.tk base = none) := by unfold Hid; rw [HD.out, HD2.out]; rfl
    rw [HE.out]
    clear h1 hb
    generalize s.q = q at *
    go_enter Tryz.func61, Tryz.ntmps61
    go_wp2_with (go_at_call 83; (with_reducible refine (HF1.out _).mono ?_); rintro e w' ⟨rfl, rfl⟩)
    exact bodyPost_ret (v := .tuple #[]) (by simp [results, Tryz.results61, go_sem]; done) rfl ⟨rfl, Go.Lib.grownBy_setB HG0.out 5 _, s, fed, HB.out.set 5 (.bool false) (by simp)⟩
  · rw [h1] at HF1 HD2
    cases h2 : fitI s.d s.q
    · rw [h2] at HF2 HD2
      have HE : Hid (s.tk base = none) := by unfold Hid; rw [HD.out, HD2.out]; rfl
      rw [HE.out]
      clear h1 h2 hb
      generalize s.q = q at *
      go_enter Tryz.func61, Tryz.ntmps61
      go_wp2_with (first | (go_at_call 83; (with_reducible refine (HF1.out _).mono ?_); rintro e w' ⟨rfl, rfl⟩) | (go_at_call 83; (with_reducible refine (HF2.out _).mono ?_); rintro e w' ⟨rfl, rfl⟩))
      exact bodyPost_ret (v := .tuple #[]) (by simp [results, Tryz.results61, go_sem]; done) rfl ⟨rfl, Go.Lib.grownBy_setB HG0.out 5 _, s, fed, HB.out.set 5 (.bool false) (by simp)⟩
    · rw [h2] at HF2 HD2
      obtain ⟨p1, p2⟩ := fit_bd (by rw [fit_comm]; exact h1 : fitI s.q s.c = true)
      obtain ⟨p3, p4⟩ := fit_bd (by rw [fit_comm]; exact h2 : fitI s.q s.d = true)
      have v1 : IntKind.i64.wrap (s.q * s.c) = s.q * s.c := IntWalk.i64_in _ (by omega)
      have v2 : IntKind.i64.wrap (s.q * s.d) = s.q * s.d := IntWalk.i64_in _ (by omega)
      have v3 : IntKind.i64.wrap (s.a - s.q * s.c) = s.a - s.q * s.c := IntWalk.i64_in _ (by omega)
      have v4 : IntKind.i64.wrap (s.b - s.q * s.d) = s.b - s.q * s.d := IntWalk.i64_in _ (by omega)
      have HF3 := Lib.hid (fun V : World => fits_any (.pointer (some ⟨g, 0, none⟩)) (s.a - s.q * s.c) base V (by omega) (by omega) (by omega) (by omega) (.inr (by omega)))
      have HF4 := Lib.hid (fun V : World => fits_any (.pointer (some ⟨g, 0, none⟩)) (s.b - s.q * s.d) base V (by omega) (by omega) (by omega) (by omega) (.inr (by omega)))
      have x0 := hb.at 0 _ rfl
      have x1 := hb.at 1 _ rfl
      cases h3 : fitI (s.a - s.q * s.c) base
      all_goals cases h4 : fitI (s.b - s.q * s.d) base
      all_goals rw [h3] at HF3 HD2
      all_goals rw [h4] at HF4 HD2
      rotate_left 3
      · obtain ⟨p5, p6⟩ := fit_bd (by rw [fit_comm]; exact h3 : fitI base (s.a - s.q * s.c) = true)
        obtain ⟨p7, p8⟩ := fit_bd (by rw [fit_comm]; exact h4 : fitI base (s.b - s.q * s.d) = true)
        have v5 : IntKind.i64.wrap (base * (s.a - s.q * s.c)) = base * (s.a - s.q * s.c) := IntWalk.i64_in _ (by omega)
        have v6 : IntKind.i64.wrap (base * (s.b - s.q * s.d)) = base * (s.b - s.q * s.d) := IntWalk.i64_in _ (by omega)
        have HS : Hid (∀ V : World, BoxV g (sC s fed true) V → Calls Tryz.prog 84 #[.pointer (some ⟨g, 0, none⟩), .int .i64 (base * (s.a - s.q * s.c)), .int .i64 (base * (s.b - s.q * s.d)), .int .i64 s.c, .int .i64 s.d] V fun e w' => e = .returned (.tuple #[]) ∧ BoxV g (sC (s.tkS base).nrm fed (true && (s.tkS base).nrm.low)) w' ∧ V.grownBy w' (some g)) := fun V h => sset_any g (s.tkS base) s fed true V h ⟨by show _ ≤ base * (s.a - s.q * s.c); omega, by show base * (s.a - s.q * s.c) ≤ _; omega⟩ ⟨by show _ ≤ base * (s.b - s.q * s.d); omega, by show base * (s.b - s.q * s.d) ≤ _; omega⟩ ⟨by show _ ≤ s.c; omega, by show s.c ≤ _; omega⟩ ⟨by show _ ≤ s.d; omega, by show s.d ≤ _; omega⟩ hgp
        have HE : Hid (s.tk base = if (true && (s.tkS base).nrm.low) = true then some (s.tkS base).nrm else none) := by unfold Hid; rw [HD.out, HD2.out]; rfl
        have HST : Hid (∀ (V V' : World), V.grownBy V' (some g) → BoxV g (sC (s.tkS base).nrm fed (true && (s.tkS base).nrm.low)) V' → StepTo g (s.tk base) fed V V') := fun V V' h k => by rw [HE.out]; exact stepTo_of (c := true) (s := s.tkS base) h k rfl
        generalize s.tk base = R at *
        clear h1 h2 h3 h4 hb hc hgp p1 p2 p3 p4 p5 p6 p7 p8 HD HD2 HE
        generalize (s.tkS base).nrm = N at *
        generalize s.q = q at *
        go_enter Tryz.func61, Tryz.ntmps61
        go_wp2_with (first | (go_at_call 83; (with_reducible refine (HF1.out _).mono ?_); rintro e w' ⟨rfl, rfl⟩) | (go_at_call 83; (with_reducible refine (HF2.out _).mono ?_); rintro e w' ⟨rfl, rfl⟩))
        go_quiet (fail)
        go_wp2_with fail
        go_quiet (fail)
        go_wp2_with (first | (go_at_call 83; (with_reducible refine (HF3.out _).mono ?_); rintro e w' ⟨rfl, rfl⟩) | (go_at_call 83; (with_reducible refine (HF4.out _).mono ?_); rintro e w' ⟨rfl, rfl⟩))
        generalize hW6 : W.drewN _ = W6
        have B6 : BoxV g (sC s fed true) W6 := hW6 ▸ ⟨HB.out.c, HB.out.f, HB.out.lt⟩
        have G6 : Hid (W.grownBy W6 (some g)) := hW6 ▸ ⟨HG0.out.os, HG0.out.tape, HG0.out.output, HG0.out.size, HG0.out.block⟩
        have HB6 := Lib.hid B6
        have y2 := B6.at 2 _ rfl
        have y3 := B6.at 3 _ rfl
        clear hW6 B6 x0 x1 x2 x3 x5 f5
        refine wp_region_still_tail 15 (by kernel_rfl) (by kernel_rfl) ?_
        simp only [List.take_succ_cons, List.take_zero, List.drop_succ_cons, List.drop_zero]
        repeat (first | still_step | (fail))
        refine wpStill_nil ?_
        change wpList _ _ _ _ _ (World.drew _)
        go_wp2_with fail
        refine (HS.out _ HB6.out.drew).mono ?_
        rintro e w5 ⟨rfl, hb5, hg5⟩
        have B5 := Lib.hid hb5
        clear hb5 y2 y3
        go_wp2_with fail
        go_end0
        exact ⟨rfl, HST.out _ _ (Go.Lib.grownBy_trans G6.out (grown_drew hg5)) B5.out⟩
      all_goals
        have HE : Hid (s.tk base = none) := by unfold Hid; rw [HD.out, HD2.out]; rfl
        rw [HE.out]
        clear h1 h2 h3 h4 hb hc hgp p1 p2 p3 p4 HD HD2 HE
        generalize s.q = q at *
        go_enter Tryz.func61, Tryz.ntmps61
        go_wp2_with (first | (go_at_call 83; (with_reducible refine (HF1.out _).mono ?_); rintro e w' ⟨rfl, rfl⟩) | (go_at_call 83; (with_reducible refine (HF2.out _).mono ?_); rintro e w' ⟨rfl, rfl⟩))
        go_quiet (fail)
        go_wp2_with fail
        go_quiet (fail)
        go_wp2_with (first | (go_at_call 83; (with_reducible refine (HF3.out _).mono ?_); rintro e w' ⟨rfl, rfl⟩) | (go_at_call 83; (with_reducible refine (HF4.out _).mono ?_); rintro e w' ⟨rfl, rfl⟩))
        exact bodyPost_ret (v := .tuple #[]) (by simp [results, Tryz.results61, go_sem]; done) rfl ⟨rfl, ⟨HG0.out.os, HG0.out.tape, HG0.out.output, by simp, (Go.Lib.grownBy_setB HG0.out 5 (.bool false)).block⟩, s, fed, ⟨(HB.out.set 5 (.bool false) (by simp)).c, (HB.out.set 5 (.bool false) (by simp)).f, (HB.out.set 5 (.bool false) (by simp)).lt⟩⟩
end Go.Proofs.YtjgafjbccfjojaaGreat
namespace Go.Proofs.YtjgafjbccfjojaaGreat
open Go.RowKit Go.Sort
/-- What the walks of a term ask of a source. -/
def TmB (s : So) : Prop := s.hd.length ≤ 1000 ∧ s.pd.length ≤ 1000 ∧ s.gr.length = s.pd.length ∧ ∀ k, k < s.pd.length → (-1000000000 ≤ s.pd.getD k 0 ∧ s.pd.getD k 0 ≤ 1000000000) ∧ 0 ≤ s.gr.getD k 0 ∧ s.gr.getD k 0 ≤ 1000000
theorem soB_tm {s : So} (h : soB s = true) : TmB s := by
  obtain ⟨⟨l1, l2, l3, l4⟩, _, B2⟩ := so_at h
  exact ⟨by omega, by omega, l3, fun k hk => by have := B2 k hk; omega⟩
set_option maxRecDepth 100000 in
set_option maxHeartbeats 2000000 in
theorem termAt_any (s : So) (H P G : Option Addr) (ch cp cg k : Nat) (w : World) (hr : RdSo w w.heap.size H P G s) (hs : TmB s) (hk : k ≤ 1000000) :
    Calls Tryz.prog 58 #[souV H s.hd.length ch P s.pd.length cp G s.gr.length cg, .int .i64 (k : Int)] w fun e w' => e = .returned (.tuple #[.int .i64 ((tmS s k).getD 0), .bool (tmS s k).isSome]) ∧ Below w.heap.size w w' := by
  unfold souV
  have HR := Lib.hid (hr.below (ext1 w (.cells #[.slice H s.hd.length ch, .slice P s.pd.length cp, .slice G s.gr.length cg] 26)))
  have HB := Lib.hid (ext1 w (.cells #[.slice H s.hd.length ch, .slice P s.pd.length cp, .slice G s.gr.length cg] 26))
  obtain ⟨x0, x1, x2⟩ : SoAt (w.alloc (.cells #[.slice H s.hd.length ch, .slice P s.pd.length cp, .slice G s.gr.length cg] 26)) w.heap.size H P G ch cp cg s := SoAt.of_box (BoxV.new w #[.slice H s.hd.length ch, .slice P s.pd.length cp, .slice G s.gr.length cg] 26)
  clear hr
  obtain ⟨l1, l2, l3, B2⟩ := hs
  have L3 := Lib.hid l3
  clear l3
  by_cases hlt : k < s.hd.length
  · have HE : Hid (tmS s k = some (s.hd.getD k 0)) := by unfold Hid tmS; rw [if_pos hlt]
    rw [HE.out]
    clear HE
    obtain ⟨b, off, rfl, hb, hc⟩ := HR.out.h (by omega)
    have cx := hc k _ (getD_of hlt)
    have i0 : (0 : Int) ≤ (k : Int) := by omega
    have i1 : (k : Int) < (s.hd.length : Int) := by omega
    clear hc B2
    generalize s.hd.getD k 0 = t at *
    go_enter Tryz.func58, Tryz.ntmps58
    go_wp2_with (go_at_call 55; refine (sizeT_any _ _ _ _).mono ?_; rintro e w' ⟨rfl, rfl⟩)
    go_ret2
    exact ⟨rfl, HB.out⟩
  · have i1 : ¬ (k : Int) < (s.hd.length : Int) := by omega
    by_cases hp : s.pd.length = 0
    · have HE : Hid (tmS s k = none) := by unfold Hid tmS; rw [if_neg hlt, if_pos hp]
      rw [HE.out]
      have e0 : ((s.pd.length : Int) == 0) = true := by simp; exact List.eq_nil_of_length_eq_zero hp
      have HP := Lib.hid hp
      clear HE hp B2
      go_enter Tryz.func58, Tryz.ntmps58
      go_wp2_with (go_at_call 55; refine (sizeT_any _ _ _ _).mono ?_; rintro e w' ⟨rfl, rfl⟩)
      go_ret2
      exact ⟨rfl, HB.out⟩
    · obtain ⟨j, hj⟩ : ∃ j : Nat, k = s.hd.length + j := ⟨k - s.hd.length, by omega⟩
      have HE : Hid (tmS s k = some (s.pd.getD (j % s.pd.length) 0 + ((j / s.pd.length : Nat) : Int) * s.gr.getD (j % s.pd.length) 0)) := by
        unfold Hid tmS
        rw [if_neg hlt, if_neg hp, show k - s.hd.length = j by omega]
      have hm : j % s.pd.length < s.pd.length := Nat.mod_lt _ (by omega)
      obtain ⟨⟨a1, a2⟩, a3, a4⟩ := B2 _ hm
      have hq : j / s.pd.length ≤ j := Nat.div_le_self _ _
      obtain ⟨b, off, rfl, hb, hc⟩ := HR.out.p (by omega)
      obtain ⟨b', off', rfl, hb', hc'⟩ := HR.out.g (by have := L3.out; omega)
      have cx := hc _ _ (getD_of hm)
      have cy := hc' _ _ (getD_of (show j % s.pd.length < s.gr.length by have := L3.out; omega))
      have ej : (k : Int) - (s.hd.length : Int) = (j : Int) := by omega
      have em : (j : Int) % (s.pd.length : Int) = ((j % s.pd.length : Nat) : Int) := by simp
      have em2 : (j : Int).tmod (s.pd.length : Int) = ((j % s.pd.length : Nat) : Int) := by rw [Int.tmod_eq_emod_of_nonneg (by omega)]; simp
      have eq : (j : Int) / (s.pd.length : Int) = ((j / s.pd.length : Nat) : Int) := by simp
      have eq2 : (j : Int).tdiv (s.pd.length : Int) = ((j / s.pd.length : Nat) : Int) := by rw [Int.tdiv_eq_ediv_of_nonneg (by omega)]; simp
      have e0 : ((s.pd.length : Int) == 0) = false := by simp; intro h; exact hp (by rw [h]; rfl)
      have e1 : ¬ ((s.pd.length : Int) = 0) := by omega
      have e1n : ¬ (s.pd.length = 0) := hp
      have e1l : ¬ (s.pd = []) := fun h => hp (by rw [h]; rfl)
      rw [HE.out]
      have i0 : (0 : Int) ≤ ((j % s.pd.length : Nat) : Int) := by omega
      have i2 : ((j % s.pd.length : Nat) : Int) < (s.pd.length : Int) := by omega
      have i3 : ((j % s.pd.length : Nat) : Int) < (s.gr.length : Int) := by have := L3.out; omega
      have HJ := Lib.hid hj
      have HP := Lib.hid hp
      clear hc hc' B2 HE hm hp hj
      generalize j % s.pd.length = m at *
      generalize j / s.pd.length = q at *
      generalize s.pd.getD m 0 = p at *
      generalize s.gr.getD m 0 = g' at *
      have b1 : 0 ≤ (q : Int) * g' := Int.mul_nonneg (by omega) a3
      have b2 : (q : Int) * g' ≤ 1000000 * 1000000 := Int.mul_le_mul (by omega) a4 a3 (by omega)
      have v1 : IntKind.i64.wrap ((k : Int) - (s.hd.length : Int)) = (j : Int) := by rw [ej]; exact IntWalk.i64_in _ (by omega)
      have v2 : IntKind.i64.wrap (m : Int) = (m : Int) := IntWalk.i64_in _ (by omega)
      have v3 : IntKind.i64.wrap (q : Int) = (q : Int) := IntWalk.i64_in _ (by omega)
      have v4 : IntKind.i64.wrap ((q : Int) * g') = (q : Int) * g' := IntWalk.i64_in _ (by omega)
      have v5 : IntKind.i64.wrap (p + (q : Int) * g') = p + (q : Int) * g' := IntWalk.i64_in _ (by omega)
      have v6 : IntKind.i64.wrap (j : Int) = (j : Int) := IntWalk.i64_in _ (by omega)
      go_enter Tryz.func58, Tryz.ntmps58
      go_wp2_with (go_at_call 55; refine (sizeT_any _ _ _ _).mono ?_; rintro e w' ⟨rfl, rfl⟩)
      go_quiet (fail)
      go_wp2
      go_ret2
      exact ⟨rfl, below_drewN HB.out⟩
set_option maxRecDepth 100000 in
set_option maxHeartbeats 2000000 in
theorem l15Term_any (s : So) (gg : Nat) (H P G : Option Addr) (ch cp cg k : Nat) (W : World) (hr : RdSo W W.heap.size H P G s) (ha : SoAt W gg H P G ch cp cg s) (hs : TmB s) (hk : k ≤ 1000000) :
    Calls Tryz.prog 62 #[.pointer (some ⟨gg, 0, none⟩), .int .i64 (k : Int)] W fun e w' => e = .returned (.tuple #[.int .i64 ((tmS s k).getD 0), .bool (tmS s k).isSome]) ∧ Below W.heap.size W w' := by
  obtain ⟨x0, x1, x2⟩ := ha
  have HR := Lib.hid hr
  have HB := Lib.hid (Below.refl W.heap.size W)
  clear hr
  obtain ⟨l1, l2, l3, B2⟩ := hs
  have L3 := Lib.hid l3
  clear l3
  by_cases hlt : k < s.hd.length
  · have HE : Hid (tmS s k = some (s.hd.getD k 0)) := by unfold Hid tmS; rw [if_pos hlt]
    rw [HE.out]
    clear HE
    obtain ⟨b, off, rfl, hb, hc⟩ := HR.out.h (by omega)
    have cx := hc k _ (getD_of hlt)
    have i0 : (0 : Int) ≤ (k : Int) := by omega
    have i1 : (k : Int) < (s.hd.length : Int) := by omega
    clear hc B2
    generalize s.hd.getD k 0 = t at *
    go_enter Tryz.func62, Tryz.ntmps62
    go_wp2_with (fail)
    go_ret2
    exact ⟨rfl, HB.out⟩
  · have i1 : ¬ (k : Int) < (s.hd.length : Int) := by omega
    by_cases hp : s.pd.length = 0
    · have HE : Hid (tmS s k = none) := by unfold Hid tmS; rw [if_neg hlt, if_pos hp]
      rw [HE.out]
      have e0 : ((s.pd.length : Int) == 0) = true := by simp; exact List.eq_nil_of_length_eq_zero hp
      have HP := Lib.hid hp
      clear HE hp B2
      go_enter Tryz.func62, Tryz.ntmps62
      go_wp2_with (fail)
      go_ret2
      exact ⟨rfl, HB.out⟩
    · obtain ⟨j, hj⟩ : ∃ j : Nat, k = s.hd.length + j := ⟨k - s.hd.length, by omega⟩
      have HE : Hid (tmS s k = some (s.pd.getD (j % s.pd.length) 0 + ((j / s.pd.length : Nat) : Int) * s.gr.getD (j % s.pd.length) 0)) := by
        unfold Hid tmS
        rw [if_neg hlt, if_neg hp, show k - s.hd.length = j by omega]
      have hm : j % s.pd.length < s.pd.length := Nat.mod_lt _ (by omega)
      obtain ⟨⟨a1, a2⟩, a3, a4⟩ := B2 _ hm
      have hq : j / s.pd.length ≤ j := Nat.div_le_self _ _
      obtain ⟨b, off, rfl, hb, hc⟩ := HR.out.p (by omega)
      obtain ⟨b', off', rfl, hb', hc'⟩ := HR.out.g (by have := L3.out; omega)
      have cx := hc _ _ (getD_of hm)
      have cy := hc' _ _ (getD_of (show j % s.pd.length < s.gr.length by have := L3.out; omega))
      have ej : (k : Int) - (s.hd.length : Int) = (j : Int) := by omega
      have em : (j : Int) % (s.pd.length : Int) = ((j % s.pd.length : Nat) : Int) := by simp
      have em2 : (j : Int).tmod (s.pd.length : Int) = ((j % s.pd.length : Nat) : Int) := by rw [Int.tmod_eq_emod_of_nonneg (by omega)]; simp
      have eq : (j : Int) / (s.pd.length : Int) = ((j / s.pd.length : Nat) : Int) := by simp
      have eq2 : (j : Int).tdiv (s.pd.length : Int) = ((j / s.pd.length : Nat) : Int) := by rw [Int.tdiv_eq_ediv_of_nonneg (by omega)]; simp
      have e0 : ((s.pd.length : Int) == 0) = false := by simp; intro h; exact hp (by rw [h]; rfl)
      have e1 : ¬ ((s.pd.length : Int) = 0) := by omega
      have e1n : ¬ (s.pd.length = 0) := hp
      have e1l : ¬ (s.pd = []) := fun h => hp (by rw [h]; rfl)
      rw [HE.out]
      have i0 : (0 : Int) ≤ ((j % s.pd.length : Nat) : Int) := by omega
      have i2 : ((j % s.pd.length : Nat) : Int) < (s.pd.length : Int) := by omega
      have i3 : ((j % s.pd.length : Nat) : Int) < (s.gr.length : Int) := by have := L3.out; omega
      have HJ := Lib.hid hj
      have HP := Lib.hid hp
      clear hc hc' B2 HE hm hp hj
      generalize j % s.pd.length = m at *
      generalize j / s.pd.length = q at *
      generalize s.pd.getD m 0 = p at *
      generalize s.gr.getD m 0 = g' at *
      have b1 : 0 ≤ (q : Int) * g' := Int.mul_nonneg (by omega) a3
      have b2 : (q : Int) * g' ≤ 1000000 * 1000000 := Int.mul_le_mul (by omega) a4 a3 (by omega)
      have v1 : IntKind.i64.wrap ((k : Int) - (s.hd.length : Int)) = (j : Int) := by rw [ej]; exact IntWalk.i64_in _ (by omega)
      have v2 : IntKind.i64.wrap (m : Int) = (m : Int) := IntWalk.i64_in _ (by omega)
      have v3 : IntKind.i64.wrap (q : Int) = (q : Int) := IntWalk.i64_in _ (by omega)
      have v4 : IntKind.i64.wrap ((q : Int) * g') = (q : Int) * g' := IntWalk.i64_in _ (by omega)
      have v5 : IntKind.i64.wrap (p + (q : Int) * g') = p + (q : Int) * g' := IntWalk.i64_in _ (by omega)
      have v6 : IntKind.i64.wrap (j : Int) = (j : Int) := IntWalk.i64_in _ (by omega)
      go_enter Tryz.func62, Tryz.ntmps62
      go_wp2_with (fail)
      go_quiet (fail)
      go_wp2
      go_ret2
      exact ⟨rfl, below_drewN HB.out⟩
end Go.Proofs.YtjgafjbccfjojaaGreat
