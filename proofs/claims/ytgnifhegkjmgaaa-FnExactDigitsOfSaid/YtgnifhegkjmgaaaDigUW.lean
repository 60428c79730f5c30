/- Digits out of a state of four numbers: the reference's steps. No condition but those that each theorem names. -/
import Derived.StillTailTactics
import Derived.Test.YtgnifhegkjmgaaaDigTW
namespace Go.Proofs.Ytgnifhegkjmgaaa
open Go.RowKit Go.Sort

theorem S4.q_bd {s : S4} (hl : s.low = true) (hc : 1 ≤ s.c) : -100000000000000000 ≤ s.q ∧ s.q ≤ 100000000000000000 := by
  obtain ⟨⟨a1, a2⟩, _, _, _⟩ := S4.low_true.1 hl
  exact ediv_bd (n := s.a) (g := s.c) (M := 100000000000000000) (by omega) a1 a2
set_option maxRecDepth 100000 in
set_option maxHeartbeats 2000000 in
theorem know_any (g : Nat) (s : S4) (fed : Int) (ok : Bool) (W : World) (hb : BoxV g (sC s fed ok) W) (hl : s.low = true) (hc : 0 ≤ s.c) (hd : 0 ≤ s.d) :
    Calls Try.prog 160 #[.pointer (some ⟨g, 0, none⟩)] W fun e w' => e = .returned (.tuple #[.int .i64 s.q, .bool s.kn]) ∧ Below W.heap.size W w' := by
  obtain ⟨⟨a1, a2⟩, ⟨b1, b2⟩, ⟨c1, c2⟩, ⟨d1, d2⟩⟩ := S4.low_true.1 hl
  have HQ : Hid (s.q = s.a / s.c) := rfl
  have HK : Hid (s.kn = (decide (0 < s.c) && decide (s.a / s.c = (s.a + s.b) / (s.c + s.d)))) := rfl
  rw [HQ.out, HK.out]
  clear HQ HK hl
  change BoxV g [.int .i64 s.a, .int .i64 s.b, .int .i64 s.c, .int .i64 s.d, .int .i64 fed, .bool ok] W at hb
  generalize s.a = a at *
  generalize s.b = b at *
  generalize s.c = c at *
  generalize s.d = d at *
  have HB := Lib.hid hb
  have k0 := fun x os => cell_regrown (d := x) (os := os) (hb.at 0 _ rfl)
  have k1 := fun x os => cell_regrown (d := x) (os := os) (hb.at 1 _ rfl)
  have k2 := fun x os => cell_regrown (d := x) (os := os) (hb.at 2 _ rfl)
  have k3 := fun x os => cell_regrown (d := x) (os := os) (hb.at 3 _ rfl)
  clear hb
  by_cases h0 : c = 0
  · have e0 : (c == 0) = true := by simpa using h0
    have H0 := Lib.hid h0
    have v0 : IntKind.i64.wrap (c + d) = c + d := IntWalk.i64_in _ (by omega)
    clear h0
    go_enter Try.func160, Try.ntmps160
    go_wp2_with fail
    refine wp_region_quiet_below (by kernel_rfl) (by kernel_rfl) ?_
    repeat (first | go_big_quiet_step (fail) | quiet_step (fail))
    refine wpQuiet_nil ?_
    intro _ hw'
    obtain ⟨⟨dq, oq⟩, hw''⟩ := hw'
    subst hw''
    have x2 := k2 dq oq
    go_wp2
    go_ret2
    exact ⟨by rw [H0.out]; simp, below_regrown _ _ _⟩
  · have e0 : (c == 0) = false := by simpa using h0
    have e1 : (c + d == 0) = false := by simp; omega
    have e2 : decide (0 < c) = true := by simp; omega
    have e3 : decide (0 < c + d) = true := by simp; omega
    have v0 : IntKind.i64.wrap (c + d) = c + d := IntWalk.i64_in _ (by omega)
    have v1 : IntKind.i64.wrap (a + b) = a + b := IntWalk.i64_in _ (by omega)
    have HD1 := Lib.hid (fun W : World => l13Div_any a c W (by omega) (by omega) (by omega) (by omega))
    have HD2 := Lib.hid (fun W : World => l13Div_any (a + b) (c + d) W (by omega) (by omega) (by omega) (by omega))
    rw [e2]
    generalize a / c = q at *
    generalize (a + b) / (c + d) = r at *
    clear h0 hc
    go_enter Try.func160, Try.ntmps160
    go_wp2_with fail
    refine wp_region_quiet_below (by kernel_rfl) (by kernel_rfl) ?_
    repeat (first | go_big_quiet_step (fail) | quiet_step (fail))
    refine wpQuiet_nil ?_
    intro _ hw'
    obtain ⟨⟨dq, oq⟩, hw''⟩ := hw'
    subst hw''
    have B1 := Lib.hid (HB.out.next (below_regrown W dq oq))
    have E1 := Lib.hid (below_regrown W dq oq)
    clear k0 k1 k2 k3
    generalize grow (redrawn W dq) oq = W1 at *
    have x2 := B1.out.at 2 _ rfl
    have k0 := fun x os => cell_regrown (d := x) (os := os) (B1.out.at 0 _ rfl)
    have k2 := fun x os => cell_regrown (d := x) (os := os) (B1.out.at 2 _ rfl)
    go_wp2_with fail
    refine wp_region_quiet_below (by kernel_rfl) (by kernel_rfl) ?_
    repeat (first | go_big_quiet_step ((with_reducible exact regrown_same (HD1.out _))) | quiet_step ((with_reducible exact regrown_same (HD1.out _))))
    refine wpQuiet_nil ?_
    intro _ hw'
    obtain ⟨⟨dq2, oq2⟩, hw''⟩ := hw'
    subst hw''
    have B2 := Lib.hid (B1.out.next (below_regrown W1 dq2 oq2))
    have E2 := Lib.hid (ext_trans E1.out (below_regrown W1 dq2 oq2))
    clear k0 k2 x2 B1 E1
    generalize grow (redrawn W1 dq2) oq2 = W2 at *
    have k0 := fun x os => cell_regrown (d := x) (os := os) (B2.out.at 0 _ rfl)
    have k1 := fun x os => cell_regrown (d := x) (os := os) (B2.out.at 1 _ rfl)
    go_wp2_with fail
    refine wp_region_quiet_below (by kernel_rfl) (by kernel_rfl) ?_
    repeat (first | go_big_quiet_step ((with_reducible exact regrown_same (HD2.out _))) | quiet_step ((with_reducible exact regrown_same (HD2.out _))))
    refine wpQuiet_nil ?_
    intro _ hw'
    obtain ⟨⟨dq3, oq3⟩, hw''⟩ := hw'
    subst hw''
    go_wp2
    go_ret2
    exact ⟨by rw [Bool.true_and]; rfl, ext_trans E2.out (below_regrown _ _ _)⟩
theorem grown_drew {W w' : World} {row : Option Nat} (h : W.drew.grownBy w' row) : W.grownBy w' row := ⟨h.os, h.tape, h.output, h.size, h.block⟩
/-- What a step of the reference leaves: the state, or that it is full. -/
def StepTo (g : Nat) (R : Option S4) (fed : Int) (W W' : World) : Prop :=
  W.grownBy W' (some g) ∧ match R with
    | some s' => BoxV g (sC s' fed true) W'
    | none => ∃ s' f', BoxV g (sC s' f' false) W'
theorem stepTo_of {g : Nat} {s : S4} {c : Bool} {fed : Int} {W W' : World} (h : W.grownBy W' (some g)) (hb : BoxV g (sC s.nrm fed (true && s.nrm.low)) W') (hc : c = true) : StepTo g (if (c && s.nrm.low) = true then some s.nrm else none) fed W W' := by
  subst hc
  rw [Bool.true_and] at hb ⊢
  cases hl : s.nrm.low
  · rw [hl] at hb
    exact ⟨h, _, _, hb⟩
  · rw [hl] at hb
    exact ⟨h, hb⟩
set_option maxRecDepth 100000 in
set_option maxHeartbeats 2000000 in
theorem end_any (g : Nat) (s : S4) (fed : Int) (W : World) (hb : BoxV g (sC s fed true) W) (hl : s.low = true) (hc : 1 ≤ s.c) :
    Calls Try.prog 164 #[.pointer (some ⟨g, 0, none⟩)] W fun e w' => e = .returned (.tuple #[]) ∧ StepTo g (some s.enS.nrm) fed W w' := by
  obtain ⟨⟨a1, a2⟩, _, ⟨c1, c2⟩, _⟩ := S4.low_true.1 hl
  have hgp : 0 < s.enS.g := S4.g_pos (s := s.enS) hc
  have HLo := Lib.hid (S4.nrm_low (s := s.enS) (S4.en_low hl))
  have HS : Hid (∀ V : World, BoxV g (sC s fed true) V → Calls Try.prog 199 #[.pointer (some ⟨g, 0, none⟩), .int .i64 s.a, .int .i64 s.a, .int .i64 s.c, .int .i64 s.c] V fun e w' => e = .returned (.tuple #[]) ∧ BoxV g (sC s.enS.nrm fed (true && s.enS.nrm.low)) w' ∧ V.grownBy w' (some g)) := fun V h => sset_any g s.enS s fed true V h ⟨by show _ ≤ s.a; omega, by show s.a ≤ _; omega⟩ ⟨by show _ ≤ s.a; omega, by show s.a ≤ _; omega⟩ ⟨by show _ ≤ s.c; omega, by show s.c ≤ _; omega⟩ ⟨by show _ ≤ s.c; omega, by show s.c ≤ _; omega⟩ hgp
  have VD := Lib.hid hb.drew
  have HX := Lib.hid (fun (V : World) (h : BoxV g (sC s fed true) V) => And.intro (h.at 0 _ rfl) (h.at 2 _ rfl))
  clear hb hl hgp
  go_enter Try.func164, Try.ntmps164
  go_wp2_with fail
  obtain ⟨x0, x2⟩ := HX.out _ VD.out
  refine wp_region_still_tail 17 (by kernel_rfl) (by kernel_rfl) ?_
  simp only [List.take_succ_cons, List.take_zero, List.drop_succ_cons, List.drop_zero]
  repeat (first | still_step | (fail))
  refine wpStill_nil ?_
  change wpList _ _ _ _ _ (World.drew _)
  go_wp2_with fail
  refine (HS.out _ VD.out).mono ?_
  rintro e w5 ⟨rfl, hb5, hg5⟩
  have B5 := Lib.hid hb5
  clear hb5 x0 x2
  go_wp2
  go_end0
  refine ⟨rfl, grown_drew hg5, ?_⟩
  have h := B5.out
  rw [HLo.out] at h
  exact h
set_option maxRecDepth 100000 in
set_option maxHeartbeats 2000000 in
theorem feed_any (g : Nat) (s : S4) (fed t : Int) (W : World) (hb : BoxV g (sC s fed true) W) (hl : s.low = true) (hc : 1 ≤ (s.fdS t).c) (t1 : -1000000000000000 ≤ t) (t2 : t ≤ 1000000000000000) (f1 : 0 ≤ fed) (f2 : fed ≤ 1000000) :
    Calls Try.prog 163 #[.pointer (some ⟨g, 0, none⟩), .int .i64 t] W fun e w' => e = .returned (.tuple #[]) ∧ StepTo g (s.fd t) (fed + 1) W w' := by
  obtain ⟨⟨a1, a2⟩, ⟨b1, b2⟩, ⟨c1, c2⟩, ⟨d1, d2⟩⟩ := S4.low_true.1 hl
  have la : lowI s.a = true := lowI_true.2 ⟨a1, a2⟩
  have lc : lowI s.c = true := lowI_true.2 ⟨c1, c2⟩
  have HF1 := Lib.hid (fun V : World => fits_any (.pointer (some ⟨g, 0, none⟩)) s.a t V (by omega) (by omega) (by omega) (by omega) (.inl la))
  have HF2 := Lib.hid (fun V : World => fits_any (.pointer (some ⟨g, 0, none⟩)) s.c t V (by omega) (by omega) (by omega) (by omega) (.inl lc))
  have HB := Lib.hid hb
  have HD : Hid (s.fd t = if (s.fdF t && (s.fdS t).nrm.low) = true then some (s.fdS t).nrm else none) := rfl
  have HD2 : Hid (s.fdF t = (fitI s.a t && fitI s.c t)) := rfl
  have HG0 : Hid (W.grownBy W (some g)) := World.grownBy.refl W (some g)
  have x0 := hb.at 0 _ rfl
  have x2 := hb.at 2 _ rfl
  have x5 := hb.at 5 _ rfl
  have f5 := hb.f 5
  have hgp : 0 < (s.fdS t).g := S4.g_pos (s := s.fdS t) hc
  cases h1 : fitI s.a t
  · rw [h1] at HF1 HD2
    have HE : Hid (s.fd t = none) := by unfold Hid; rw [HD.out, HD2.out]; rfl
    rw [HE.out]
    clear h1 hb
    go_enter Try.func163, Try.ntmps163
    go_wp2_with (go_at_call 198; (with_reducible refine (HF1.out _).mono ?_); rintro e w' ⟨rfl, rfl⟩)
    exact bodyPost_ret (v := .tuple #[]) (by simp [results, Try.results163, go_sem]; done) rfl ⟨rfl, Go.Lib.grownBy_setB HG0.out 5 _, s, fed, HB.out.set 5 (.bool false) (by simp)⟩
  · rw [h1] at HF1 HD2
    cases h2 : fitI s.c t
    · rw [h2] at HF2 HD2
      have HE : Hid (s.fd t = none) := by unfold Hid; rw [HD.out, HD2.out]; rfl
      rw [HE.out]
      clear h1 h2 hb
      go_enter Try.func163, Try.ntmps163
      go_wp2_with (first | (go_at_call 198; (with_reducible refine (HF1.out _).mono ?_); rintro e w' ⟨rfl, rfl⟩) | (go_at_call 198; (with_reducible refine (HF2.out _).mono ?_); rintro e w' ⟨rfl, rfl⟩))
      exact bodyPost_ret (v := .tuple #[]) (by simp [results, Try.results163, go_sem]; done) rfl ⟨rfl, Go.Lib.grownBy_setB HG0.out 5 _, s, fed, HB.out.set 5 (.bool false) (by simp)⟩
    · rw [h2] at HF2 HD2
      obtain ⟨p1, p2⟩ := fit_bd h1
      obtain ⟨p3, p4⟩ := fit_bd h2
      have v1 : IntKind.i64.wrap (s.a * t) = s.a * t := IntWalk.i64_in _ (by omega)
      have v2 : IntKind.i64.wrap (s.c * t) = s.c * t := IntWalk.i64_in _ (by omega)
      have v3 : IntKind.i64.wrap (s.a * t + s.b) = s.a * t + s.b := IntWalk.i64_in _ (by omega)
      have v4 : IntKind.i64.wrap (s.c * t + s.d) = s.c * t + s.d := IntWalk.i64_in _ (by omega)
      have HS : Hid (∀ V : World, BoxV g (sC s fed true) V → Calls Try.prog 199 #[.pointer (some ⟨g, 0, none⟩), .int .i64 (s.a * t + s.b), .int .i64 s.a, .int .i64 (s.c * t + s.d), .int .i64 s.c] V fun e w' => e = .returned (.tuple #[]) ∧ BoxV g (sC (s.fdS t).nrm fed (true && (s.fdS t).nrm.low)) w' ∧ V.grownBy w' (some g)) := fun V h => sset_any g (s.fdS t) s fed true V h ⟨by show _ ≤ s.a * t + s.b; omega, by show s.a * t + s.b ≤ _; omega⟩ ⟨by show _ ≤ s.a; omega, by show s.a ≤ _; omega⟩ ⟨by show _ ≤ s.c * t + s.d; omega, by show s.c * t + s.d ≤ _; omega⟩ ⟨by show _ ≤ s.c; omega, by show s.c ≤ _; omega⟩ hgp
      have x1 := hb.at 1 _ rfl
      have x3 := hb.at 3 _ rfl
      have HE : Hid (s.fd t = if (true && (s.fdS t).nrm.low) = true then some (s.fdS t).nrm else none) := by unfold Hid; rw [HD.out, HD2.out]; rfl
      have HST : Hid (∀ V V' : World, V.grownBy V' (some g) → BoxV g (sC (s.fdS t).nrm (fed + 1) (true && (s.fdS t).nrm.low)) V' → StepTo g (s.fd t) (fed + 1) V V') := fun V V' h k => by rw [HE.out]; exact stepTo_of (c := true) (s := s.fdS t) h k rfl
      generalize s.fd t = R at *
      have hw5 : IntKind.i64.wrap (fed + 1) = fed + 1 := IntWalk.i64_in _ (by omega)
      clear h1 h2 hb hc hgp p1 p2 p3 p4
      go_enter Try.func163, Try.ntmps163
      go_wp2_with (first | (go_at_call 198; (with_reducible refine (HF1.out _).mono ?_); rintro e w' ⟨rfl, rfl⟩) | (go_at_call 198; (with_reducible refine (HF2.out _).mono ?_); rintro e w' ⟨rfl, rfl⟩))
      refine wp_region_still_tail 31 (by kernel_rfl) (by kernel_rfl) ?_
      simp only [List.take_succ_cons, List.take_zero, List.drop_succ_cons, List.drop_zero]
      repeat (first | still_step | (fail))
      refine wpStill_nil ?_
      change wpList _ _ _ _ _ (World.drew _)
      go_wp2_with fail
      refine (HS.out _ HB.out.drew).mono ?_
      rintro e w5 ⟨rfl, hb5, hg5⟩
      have B5 := Lib.hid hb5
      have y4 := hb5.at 4 _ rfl
      have g4 := hb5.f 4
      clear hb5 x0 x1 x2 x3 x5 f5
      go_wp2_with fail
      go_end0
      exact ⟨rfl, HST.out _ _ (Go.Lib.grownBy_setB (grown_drew hg5) 4 _) (B5.out.set 4 (.int .i64 (fed + 1)) (by simp))⟩
set_option maxRecDepth 100000 in
set_option maxHeartbeats 4000000 in
theorem take_any (g : Nat) (s : S4) (fed base : Int) (W : World) (hb : BoxV g (sC s fed true) W) (hl : s.low = true) (hc : 1 ≤ s.c) (b1' : 2 ≤ base) (b2' : base ≤ 36) :
    Calls Try.prog 161 #[.pointer (some ⟨g, 0, none⟩), .int .i64 s.q, .int .i64 base] W fun e w' => e = .returned (.tuple #[]) ∧ StepTo g (s.tk base) fed W w' := by
  obtain ⟨⟨a1, a2⟩, ⟨b1, b2⟩, ⟨c1, c2⟩, ⟨d1, d2⟩⟩ := S4.low_true.1 hl
  obtain ⟨q1, q2⟩ := S4.q_bd hl hc
  have lc : lowI s.c = true := lowI_true.2 ⟨c1, c2⟩
  have ld : lowI s.d = true := lowI_true.2 ⟨d1, d2⟩
  have HF1 := Lib.hid (fun V : World => fits_any (.pointer (some ⟨g, 0, none⟩)) s.c s.q V (by omega) (by omega) (by omega) (by omega) (.inl lc))
  have HF2 := Lib.hid (fun V : World => fits_any (.pointer (some ⟨g, 0, none⟩)) s.d s.q V (by omega) (by omega) (by omega) (by omega) (.inl ld))
  have HB := Lib.hid hb
  have HD : Hid (s.tk base = if (s.tkF base && (s.tkS base).nrm.low) = true then some (s.tkS base).nrm else none) := rfl
  have HD2 : Hid (s.tkF base = (fitI s.c s.q && fitI s.d s.q && fitI (s.a - s.q * s.c) base && fitI (s.b - s.q * s.d) base)) := by
    unfold Hid S4.tkF
    rw [fit_comm s.q s.c, fit_comm s.q s.d, fit_comm base, fit_comm base]
  have HG0 : Hid (W.grownBy W (some g)) := World.grownBy.refl W (some g)
  have x2 := hb.at 2 _ rfl
  have x3 := hb.at 3 _ rfl
  have x5 := hb.at 5 _ rfl
  have f5 := hb.f 5
  have hgp : 0 < (s.tkS base).g := S4.g_pos (s := s.tkS base) hc
  cases h1 : fitI s.c s.q
  · rw [h1] at HF1 HD2
    have HE : Hid (s.tk base = none) := by unfold Hid; rw [HD.out, HD2.out]; rfl
    rw [HE.out]
    clear h1 hb
    generalize s.q = q at *
    go_enter Try.func161, Try.ntmps161
    go_wp2_with (go_at_call 198; (with_reducible refine (HF1.out _).mono ?_); rintro e w' ⟨rfl, rfl⟩)
    exact bodyPost_ret (v := .tuple #[]) (by simp [results, Try.results161, go_sem]; done) rfl ⟨rfl, Go.Lib.grownBy_setB HG0.out 5 _, s, fed, HB.out.set 5 (.bool false) (by simp)⟩
  · rw [h1] at HF1 HD2
    cases h2 : fitI s.d s.q
    · rw [h2] at HF2 HD2
      have HE : Hid (s.tk base = none) := by unfold Hid; rw [HD.out, HD2.out]; rfl
      rw [HE.out]
      clear h1 h2 hb
      generalize s.q = q at *
      go_enter Try.func161, Try.ntmps161
      go_wp2_with (first | (go_at_call 198; (with_reducible refine (HF1.out _).mono ?_); rintro e w' ⟨rfl, rfl⟩) | (go_at_call 198; (with_reducible refine (HF2.out _).mono ?_); rintro e w' ⟨rfl, rfl⟩))
      exact bodyPost_ret (v := .tuple #[]) (by simp [results, Try.results161, go_sem]; done) rfl ⟨rfl, Go.Lib.grownBy_setB HG0.out 5 _, s, fed, HB.out.set 5 (.bool false) (by simp)⟩
    · rw [h2] at HF2 HD2
      obtain ⟨p1, p2⟩ := fit_bd (by rw [fit_comm]; exact h1 : fitI s.q s.c = true)
      obtain ⟨p3, p4⟩ := fit_bd (by rw [fit_comm]; exact h2 : fitI s.q s.d = true)
      have v1 : IntKind.i64.wrap (s.q * s.c) = s.q * s.c := IntWalk.i64_in _ (by omega)
      have v2 : IntKind.i64.wrap (s.q * s.d) = s.q * s.d := IntWalk.i64_in _ (by omega)
      have v3 : IntKind.i64.wrap (s.a - s.q * s.c) = s.a - s.q * s.c := IntWalk.i64_in _ (by omega)
      have v4 : IntKind.i64.wrap (s.b - s.q * s.d) = s.b - s.q * s.d := IntWalk.i64_in _ (by omega)
      have HF3 := Lib.hid (fun V : World => fits_any (.pointer (some ⟨g, 0, none⟩)) (s.a - s.q * s.c) base V (by omega) (by omega) (by omega) (by omega) (.inr (by omega)))
      have HF4 := Lib.hid (fun V : World => fits_any (.pointer (some ⟨g, 0, none⟩)) (s.b - s.q * s.d) base V (by omega) (by omega) (by omega) (by omega) (.inr (by omega)))
      have x0 := hb.at 0 _ rfl
      have x1 := hb.at 1 _ rfl
      cases h3 : fitI (s.a - s.q * s.c) base
      all_goals cases h4 : fitI (s.b - s.q * s.d) base
      all_goals rw [h3] at HF3 HD2
      all_goals rw [h4] at HF4 HD2
      rotate_left 3
      · obtain ⟨p5, p6⟩ := fit_bd (by rw [fit_comm]; exact h3 : fitI base (s.a - s.q * s.c) = true)
        obtain ⟨p7, p8⟩ := fit_bd (by rw [fit_comm]; exact h4 : fitI base (s.b - s.q * s.d) = true)
        have v5 : IntKind.i64.wrap (base * (s.a - s.q * s.c)) = base * (s.a - s.q * s.c) := IntWalk.i64_in _ (by omega)
        have v6 : IntKind.i64.wrap (base * (s.b - s.q * s.d)) = base * (s.b - s.q * s.d) := IntWalk.i64_in _ (by omega)
        have HS : Hid (∀ V : World, BoxV g (sC s fed true) V → Calls Try.prog 199 #[.pointer (some ⟨g, 0, none⟩), .int .i64 (base * (s.a - s.q * s.c)), .int .i64 (base * (s.b - s.q * s.d)), .int .i64 s.c, .int .i64 s.d] V fun e w' => e = .returned (.tuple #[]) ∧ BoxV g (sC (s.tkS base).nrm fed (true && (s.tkS base).nrm.low)) w' ∧ V.grownBy w' (some g)) := fun V h => sset_any g (s.tkS base) s fed true V h ⟨by show _ ≤ base * (s.a - s.q * s.c); omega, by show base * (s.a - s.q * s.c) ≤ _; omega⟩ ⟨by show _ ≤ base * (s.b - s.q * s.d); omega, by show base * (s.b - s.q * s.d) ≤ _; omega⟩ ⟨by show _ ≤ s.c; omega, by show s.c ≤ _; omega⟩ ⟨by show _ ≤ s.d; omega, by show s.d ≤ _; omega⟩ hgp
        have HE : Hid (s.tk base = if (true && (s.tkS base).nrm.low) = true then some (s.tkS base).nrm else none) := by unfold Hid; rw [HD.out, HD2.out]; rfl
        have HST : Hid (∀ (V V' : World), V.grownBy V' (some g) → BoxV g (sC (s.tkS base).nrm fed (true && (s.tkS base).nrm.low)) V' → StepTo g (s.tk base) fed V V') := fun V V' h k => by rw [HE.out]; exact stepTo_of (c := true) (s := s.tkS base) h k rfl
        generalize s.tk base = R at *
        clear h1 h2 h3 h4 hb hc hgp p1 p2 p3 p4 p5 p6 p7 p8 HD HD2 HE
        generalize (s.tkS base).nrm = N at *
        generalize s.q = q at *
        go_enter Try.func161, Try.ntmps161
        go_wp2_with (first | (go_at_call 198; (with_reducible refine (HF1.out _).mono ?_); rintro e w' ⟨rfl, rfl⟩) | (go_at_call 198; (with_reducible refine (HF2.out _).mono ?_); rintro e w' ⟨rfl, rfl⟩))
        go_quiet (fail)
        go_wp2_with fail
        go_quiet (fail)
        go_wp2_with (first | (go_at_call 198; (with_reducible refine (HF3.out _).mono ?_); rintro e w' ⟨rfl, rfl⟩) | (go_at_call 198; (with_reducible refine (HF4.out _).mono ?_); rintro e w' ⟨rfl, rfl⟩))
        generalize hW6 : W.drewN _ = W6
        have B6 : BoxV g (sC s fed true) W6 := hW6 ▸ ⟨HB.out.c, HB.out.f, HB.out.lt⟩
        have G6 : Hid (W.grownBy W6 (some g)) := hW6 ▸ ⟨HG0.out.os, HG0.out.tape, HG0.out.output, HG0.out.size, HG0.out.block⟩
        have HB6 := Lib.hid B6
        have y2 := B6.at 2 _ rfl
        have y3 := B6.at 3 _ rfl
        clear hW6 B6 x0 x1 x2 x3 x5 f5
        refine wp_region_still_tail 15 (by kernel_rfl) (by kernel_rfl) ?_
        simp only [List.take_succ_cons, List.take_zero, List.drop_succ_cons, List.drop_zero]
        repeat (first | still_step | (fail))
        refine wpStill_nil ?_
        change wpList _ _ _ _ _ (World.drew _)
        go_wp2_with fail
        refine (HS.out _ HB6.out.drew).mono ?_
        rintro e w5 ⟨rfl, hb5, hg5⟩
        have B5 := Lib.hid hb5
        clear hb5 y2 y3
        go_wp2_with fail
        go_end0
        exact ⟨rfl, HST.out _ _ (Go.Lib.grownBy_trans G6.out (grown_drew hg5)) B5.out⟩
      all_goals
        have HE : Hid (s.tk base = none) := by unfold Hid; rw [HD.out, HD2.out]; rfl
        rw [HE.out]
        clear h1 h2 h3 h4 hb hc hgp p1 p2 p3 p4 HD HD2 HE
        generalize s.q = q at *
        go_enter Try.func161, Try.ntmps161
        go_wp2_with (first | (go_at_call 198; (with_reducible refine (HF1.out _).mono ?_); rintro e w' ⟨rfl, rfl⟩) | (go_at_call 198; (with_reducible refine (HF2.out _).mono ?_); rintro e w' ⟨rfl, rfl⟩))
        go_quiet (fail)
        go_wp2_with fail
        go_quiet (fail)
        go_wp2_with (first | (go_at_call 198; (with_reducible refine (HF3.out _).mono ?_); rintro e w' ⟨rfl, rfl⟩) | (go_at_call 198; (with_reducible refine (HF4.out _).mono ?_); rintro e w' ⟨rfl, rfl⟩))
        exact bodyPost_ret (v := .tuple #[]) (by simp [results, Try.results161, go_sem]; done) rfl ⟨rfl, ⟨HG0.out.os, HG0.out.tape, HG0.out.output, by simp, (Go.Lib.grownBy_setB HG0.out 5 (.bool false)).block⟩, s, fed, ⟨(HB.out.set 5 (.bool false) (by simp)).c, (HB.out.set 5 (.bool false) (by simp)).f, (HB.out.set 5 (.bool false) (by simp)).lt⟩⟩
end Go.Proofs.Ytgnifhegkjmgaaa
