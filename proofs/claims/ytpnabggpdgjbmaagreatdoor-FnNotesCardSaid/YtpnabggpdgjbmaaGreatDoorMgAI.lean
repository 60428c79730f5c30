/- Valid notes: one note, the program's test. No condition but those that each theorem names. -/
import Derived.Test.YtpnabggpdgjbmaaGreatDoorMgAH
namespace Go.Proofs.YtpnabggpdgjbmaaGreatDoor
open Go.RowKit Go.Sort
set_option maxRecDepth 100000 in
set_option maxHeartbeats 8000000 in
theorem isNote_1 (x : Nt) (T : Option Addr) (c : Nat) (w : World) (hx : RdT w w.heap.size T c x.terms) (hf : x.fits) (h0 : nameB x.name = true) (k : Int) (_ : k = x.kind) (h1 : NtKind 1 k) :
    Calls Tryz.prog 34 #[ntV x.name k x.num x.den T x.terms.length c x.sp x.sd x.sq] w fun e w' => e = .returned (.bool (ntRes 1 x)) ∧ Below w.heap.size w w' := by
  have HN : Hid (∀ W, Calls Tryz.prog 75 #[.string x.name] W fun e w' => e = .returned (.bool (nameB x.name)) ∧ W = w') := fun W => iIsName_any x.name W hf.1
  have HT := Lib.hid (fun V hb => ValidTerms_any T c x.terms V (hx.next (w' := V) hb) hf.2)
  have HF := Lib.hid (ValidFraction_any x.num x.den)
  have HS := Lib.hid (ValidSurd_any x.sp x.sd x.sq)
  have hl2 : x.terms.length ≤ 9223372036854775807 := by have := hf.2; unfold maxLen at this; omega
  have q1 := Tryz.eqGuardType26
  have q2 := Tryz.stoodInHeld26
  have q3 := Tryz.eqGuardType29
  have q4 := Tryz.stoodInHeld29
  clear hx hf
  rw [h0] at HN
  clear h0
  unfold NtKind at h1
  unfold ntRes
  simp only at h1 ⊢
  unfold ntV
  have HZ := Lib.hid (zeroNil x)
  first | (subst h1; skip) | obtain ⟨h1, h2, h3⟩ := h1
  rcases zF_ways x with ⟨f1, fR⟩ | ⟨f1, f2, fR⟩ | ⟨f1, f2, fR⟩
  all_goals
   rcases zS_ways x with ⟨s1, sR⟩ | ⟨s1, s2, sR⟩ | ⟨s1, s2, s3, sR⟩ | ⟨s1, s2, s3, sR⟩
   all_goals
    go_enter Tryz.func34, Tryz.ntmps34
    go_wp2_with (go_at_call 75; refine (HN.out _).mono ?_; rintro e w' ⟨rfl, rfl⟩)
    generalize hW : w.alloc _ = W
    have hb0 : Below w.heap.size w W := by rw [← hW]; exact ext1 _ _
    have k1 : ∀ d' os, (grow (redrawn W d') os).cell? ⟨w.heap.size, 1, none⟩ = _ := cell_regrown (by rw [← hW, cell_one]; rfl)
    have k2 : ∀ d' os, (grow (redrawn W d') os).cell? ⟨w.heap.size, 2, none⟩ = _ := cell_regrown (by rw [← hW, cell_one]; rfl)
    have k3 : ∀ d' os, (grow (redrawn W d') os).cell? ⟨w.heap.size, 3, none⟩ = _ := cell_regrown (by rw [← hW, cell_one]; rfl)
    have k4 : ∀ d' os, (grow (redrawn W d') os).cell? ⟨w.heap.size, 4, none⟩ = _ := cell_regrown (by rw [← hW, cell_one]; rfl)
    have k5 : ∀ d' os, (grow (redrawn W d') os).cell? ⟨w.heap.size, 5, none⟩ = _ := cell_regrown (by rw [← hW, cell_one]; rfl)
    have k6 : ∀ d' os, (grow (redrawn W d') os).cell? ⟨w.heap.size, 6, none⟩ = _ := cell_regrown (by rw [← hW, cell_one]; rfl)
    have k7 : ∀ d' os, (grow (redrawn W d') os).cell? ⟨w.heap.size, 7, none⟩ = _ := cell_regrown (by rw [← hW, cell_one]; rfl)
    clear hW
    refine wp_region_quiet_below (by kernel_rfl) (by kernel_rfl) ?_
    repeat (first | go_big_quiet_step ((fail)) | quiet_step ((fail)))
    refine wpQuiet_nil ?_
    intro _ hw'
    obtain ⟨⟨dq, oq⟩, hw''⟩ := hw'
    subst hw''
    have hb2 := ext_trans hb0 (below_regrown W dq oq)
    have HT2 := HT.out _ hb2
    go_wp2_with (first | (go_at_call 76; refine (HF.out _).mono ?_; rintro e w2 ⟨rfl, hb3⟩) | (go_at_call 77; refine HT2.mono ?_; rintro e w2 ⟨rfl, rfl⟩) | (go_at_call 78; refine (HS.out _).mono ?_; rintro e w2 ⟨rfl, hb3⟩))
    all_goals go_ret
    all_goals exact ⟨ret_bool (by first | (simp [*]; done) | (rw [HZ.out]; simp [*]; done) | (simp [*, Nt.zT]; done) | (simp_all [Nt.zT]; done)), by first | exact hb2 | exact ext_trans hb2 hb3⟩
set_option maxRecDepth 100000 in
set_option maxHeartbeats 8000000 in
theorem isNote_2 (x : Nt) (T : Option Addr) (c : Nat) (w : World) (hx : RdT w w.heap.size T c x.terms) (hf : x.fits) (h0 : nameB x.name = true) (k : Int) (_ : k = x.kind) (h1 : NtKind 2 k) :
    Calls Tryz.prog 34 #[ntV x.name k x.num x.den T x.terms.length c x.sp x.sd x.sq] w fun e w' => e = .returned (.bool (ntRes 2 x)) ∧ Below w.heap.size w w' := by
  have HN : Hid (∀ W, Calls Tryz.prog 75 #[.string x.name] W fun e w' => e = .returned (.bool (nameB x.name)) ∧ W = w') := fun W => iIsName_any x.name W hf.1
  have HT := Lib.hid (fun V hb => ValidTerms_any T c x.terms V (hx.next (w' := V) hb) hf.2)
  have HF := Lib.hid (ValidFraction_any x.num x.den)
  have HS := Lib.hid (ValidSurd_any x.sp x.sd x.sq)
  have hl2 : x.terms.length ≤ 9223372036854775807 := by have := hf.2; unfold maxLen at this; omega
  have q1 := Tryz.eqGuardType26
  have q2 := Tryz.stoodInHeld26
  have q3 := Tryz.eqGuardType29
  have q4 := Tryz.stoodInHeld29
  clear hx hf
  rw [h0] at HN
  clear h0
  unfold NtKind at h1
  unfold ntRes
  simp only at h1 ⊢
  unfold ntV
  have HZ := Lib.hid (zeroNil x)
  first | (subst h1; skip) | obtain ⟨h1, h2, h3⟩ := h1
  rcases zF_ways x with ⟨f1, fR⟩ | ⟨f1, f2, fR⟩ | ⟨f1, f2, fR⟩
  all_goals
   rcases zS_ways x with ⟨s1, sR⟩ | ⟨s1, s2, sR⟩ | ⟨s1, s2, s3, sR⟩ | ⟨s1, s2, s3, sR⟩
   all_goals
    go_enter Tryz.func34, Tryz.ntmps34
    go_wp2_with (go_at_call 75; refine (HN.out _).mono ?_; rintro e w' ⟨rfl, rfl⟩)
    generalize hW : w.alloc _ = W
    have hb0 : Below w.heap.size w W := by rw [← hW]; exact ext1 _ _
    have k1 : ∀ d' os, (grow (redrawn W d') os).cell? ⟨w.heap.size, 1, none⟩ = _ := cell_regrown (by rw [← hW, cell_one]; rfl)
    have k2 : ∀ d' os, (grow (redrawn W d') os).cell? ⟨w.heap.size, 2, none⟩ = _ := cell_regrown (by rw [← hW, cell_one]; rfl)
    have k3 : ∀ d' os, (grow (redrawn W d') os).cell? ⟨w.heap.size, 3, none⟩ = _ := cell_regrown (by rw [← hW, cell_one]; rfl)
    have k4 : ∀ d' os, (grow (redrawn W d') os).cell? ⟨w.heap.size, 4, none⟩ = _ := cell_regrown (by rw [← hW, cell_one]; rfl)
    have k5 : ∀ d' os, (grow (redrawn W d') os).cell? ⟨w.heap.size, 5, none⟩ = _ := cell_regrown (by rw [← hW, cell_one]; rfl)
    have k6 : ∀ d' os, (grow (redrawn W d') os).cell? ⟨w.heap.size, 6, none⟩ = _ := cell_regrown (by rw [← hW, cell_one]; rfl)
    have k7 : ∀ d' os, (grow (redrawn W d') os).cell? ⟨w.heap.size, 7, none⟩ = _ := cell_regrown (by rw [← hW, cell_one]; rfl)
    clear hW
    refine wp_region_quiet_below (by kernel_rfl) (by kernel_rfl) ?_
    repeat (first | go_big_quiet_step ((fail)) | quiet_step ((fail)))
    refine wpQuiet_nil ?_
    intro _ hw'
    obtain ⟨⟨dq, oq⟩, hw''⟩ := hw'
    subst hw''
    have hb2 := ext_trans hb0 (below_regrown W dq oq)
    have HT2 := HT.out _ hb2
    go_wp2_with (first | (go_at_call 76; refine (HF.out _).mono ?_; rintro e w2 ⟨rfl, hb3⟩) | (go_at_call 77; refine HT2.mono ?_; rintro e w2 ⟨rfl, rfl⟩) | (go_at_call 78; refine (HS.out _).mono ?_; rintro e w2 ⟨rfl, hb3⟩))
    all_goals go_ret
    all_goals exact ⟨ret_bool (by first | (simp [*]; done) | (rw [HZ.out]; simp [*]; done) | (simp [*, Nt.zT]; done) | (simp_all [Nt.zT]; done)), by first | exact hb2 | exact ext_trans hb2 hb3⟩
set_option maxRecDepth 100000 in
set_option maxHeartbeats 8000000 in
theorem isNote_3 (x : Nt) (T : Option Addr) (c : Nat) (w : World) (hx : RdT w w.heap.size T c x.terms) (hf : x.fits) (h0 : nameB x.name = true) (k : Int) (_ : k = x.kind) (h1 : NtKind 3 k) :
    Calls Tryz.prog 34 #[ntV x.name k x.num x.den T x.terms.length c x.sp x.sd x.sq] w fun e w' => e = .returned (.bool (ntRes 3 x)) ∧ Below w.heap.size w w' := by
  have HN : Hid (∀ W, Calls Tryz.prog 75 #[.string x.name] W fun e w' => e = .returned (.bool (nameB x.name)) ∧ W = w') := fun W => iIsName_any x.name W hf.1
  have HT := Lib.hid (fun V hb => ValidTerms_any T c x.terms V (hx.next (w' := V) hb) hf.2)
  have HF := Lib.hid (ValidFraction_any x.num x.den)
  have HS := Lib.hid (ValidSurd_any x.sp x.sd x.sq)
  have hl2 : x.terms.length ≤ 9223372036854775807 := by have := hf.2; unfold maxLen at this; omega
  have q1 := Tryz.eqGuardType26
  have q2 := Tryz.stoodInHeld26
  have q3 := Tryz.eqGuardType29
  have q4 := Tryz.stoodInHeld29
  clear hx hf
  rw [h0] at HN
  clear h0
  unfold NtKind at h1
  unfold ntRes
  simp only at h1 ⊢
  unfold ntV
  have HZ := Lib.hid (zeroNil x)
  first | (subst h1; skip) | obtain ⟨h1, h2, h3⟩ := h1
  rcases zF_ways x with ⟨f1, fR⟩ | ⟨f1, f2, fR⟩ | ⟨f1, f2, fR⟩
  all_goals
   rcases zS_ways x with ⟨s1, sR⟩ | ⟨s1, s2, sR⟩ | ⟨s1, s2, s3, sR⟩ | ⟨s1, s2, s3, sR⟩
   all_goals
    go_enter Tryz.func34, Tryz.ntmps34
    go_wp2_with (go_at_call 75; refine (HN.out _).mono ?_; rintro e w' ⟨rfl, rfl⟩)
    generalize hW : w.alloc _ = W
    have hb0 : Below w.heap.size w W := by rw [← hW]; exact ext1 _ _
    have k1 : ∀ d' os, (grow (redrawn W d') os).cell? ⟨w.heap.size, 1, none⟩ = _ := cell_regrown (by rw [← hW, cell_one]; rfl)
    have k2 : ∀ d' os, (grow (redrawn W d') os).cell? ⟨w.heap.size, 2, none⟩ = _ := cell_regrown (by rw [← hW, cell_one]; rfl)
    have k3 : ∀ d' os, (grow (redrawn W d') os).cell? ⟨w.heap.size, 3, none⟩ = _ := cell_regrown (by rw [← hW, cell_one]; rfl)
    have k4 : ∀ d' os, (grow (redrawn W d') os).cell? ⟨w.heap.size, 4, none⟩ = _ := cell_regrown (by rw [← hW, cell_one]; rfl)
    have k5 : ∀ d' os, (grow (redrawn W d') os).cell? ⟨w.heap.size, 5, none⟩ = _ := cell_regrown (by rw [← hW, cell_one]; rfl)
    have k6 : ∀ d' os, (grow (redrawn W d') os).cell? ⟨w.heap.size, 6, none⟩ = _ := cell_regrown (by rw [← hW, cell_one]; rfl)
    have k7 : ∀ d' os, (grow (redrawn W d') os).cell? ⟨w.heap.size, 7, none⟩ = _ := cell_regrown (by rw [← hW, cell_one]; rfl)
    clear hW
    refine wp_region_quiet_below (by kernel_rfl) (by kernel_rfl) ?_
    repeat (first | go_big_quiet_step ((fail)) | quiet_step ((fail)))
    refine wpQuiet_nil ?_
    intro _ hw'
    obtain ⟨⟨dq, oq⟩, hw''⟩ := hw'
    subst hw''
    have hb2 := ext_trans hb0 (below_regrown W dq oq)
    have HT2 := HT.out _ hb2
    go_wp2_with (first | (go_at_call 76; refine (HF.out _).mono ?_; rintro e w2 ⟨rfl, hb3⟩) | (go_at_call 77; refine HT2.mono ?_; rintro e w2 ⟨rfl, rfl⟩) | (go_at_call 78; refine (HS.out _).mono ?_; rintro e w2 ⟨rfl, hb3⟩))
    all_goals go_ret
    all_goals exact ⟨ret_bool (by first | (simp [*]; done) | (rw [HZ.out]; simp [*]; done) | (simp [*, Nt.zT]; done) | (simp_all [Nt.zT]; done)), by first | exact hb2 | exact ext_trans hb2 hb3⟩
set_option maxRecDepth 100000 in
set_option maxHeartbeats 8000000 in
theorem isNote_0 (x : Nt) (T : Option Addr) (c : Nat) (w : World) (hx : RdT w w.heap.size T c x.terms) (hf : x.fits) (h0 : nameB x.name = true) (k : Int) (_ : k = x.kind) (h1 : NtKind 0 k) :
    Calls Tryz.prog 34 #[ntV x.name k x.num x.den T x.terms.length c x.sp x.sd x.sq] w fun e w' => e = .returned (.bool (ntRes 0 x)) ∧ Below w.heap.size w w' := by
  have HN : Hid (∀ W, Calls Tryz.prog 75 #[.string x.name] W fun e w' => e = .returned (.bool (nameB x.name)) ∧ W = w') := fun W => iIsName_any x.name W hf.1
  have HT := Lib.hid (fun V hb => ValidTerms_any T c x.terms V (hx.next (w' := V) hb) hf.2)
  have HF := Lib.hid (ValidFraction_any x.num x.den)
  have HS := Lib.hid (ValidSurd_any x.sp x.sd x.sq)
  have hl2 : x.terms.length ≤ 9223372036854775807 := by have := hf.2; unfold maxLen at this; omega
  have q1 := Tryz.eqGuardType26
  have q2 := Tryz.stoodInHeld26
  have q3 := Tryz.eqGuardType29
  have q4 := Tryz.stoodInHeld29
  clear hx hf
  rw [h0] at HN
  clear h0
  unfold NtKind at h1
  unfold ntRes
  simp only at h1 ⊢
  unfold ntV
  have HZ := Lib.hid (zeroNil x)
  first | (subst h1; skip) | obtain ⟨h1, h2, h3⟩ := h1
  rcases zF_ways x with ⟨f1, fR⟩ | ⟨f1, f2, fR⟩ | ⟨f1, f2, fR⟩
  all_goals
   rcases zS_ways x with ⟨s1, sR⟩ | ⟨s1, s2, sR⟩ | ⟨s1, s2, s3, sR⟩ | ⟨s1, s2, s3, sR⟩
   all_goals
    go_enter Tryz.func34, Tryz.ntmps34
    go_wp2_with (go_at_call 75; refine (HN.out _).mono ?_; rintro e w' ⟨rfl, rfl⟩)
    generalize hW : w.alloc _ = W
    have hb0 : Below w.heap.size w W := by rw [← hW]; exact ext1 _ _
    have k1 : ∀ d' os, (grow (redrawn W d') os).cell? ⟨w.heap.size, 1, none⟩ = _ := cell_regrown (by rw [← hW, cell_one]; rfl)
    have k2 : ∀ d' os, (grow (redrawn W d') os).cell? ⟨w.heap.size, 2, none⟩ = _ := cell_regrown (by rw [← hW, cell_one]; rfl)
    have k3 : ∀ d' os, (grow (redrawn W d') os).cell? ⟨w.heap.size, 3, none⟩ = _ := cell_regrown (by rw [← hW, cell_one]; rfl)
    have k4 : ∀ d' os, (grow (redrawn W d') os).cell? ⟨w.heap.size, 4, none⟩ = _ := cell_regrown (by rw [← hW, cell_one]; rfl)
    have k5 : ∀ d' os, (grow (redrawn W d') os).cell? ⟨w.heap.size, 5, none⟩ = _ := cell_regrown (by rw [← hW, cell_one]; rfl)
    have k6 : ∀ d' os, (grow (redrawn W d') os).cell? ⟨w.heap.size, 6, none⟩ = _ := cell_regrown (by rw [← hW, cell_one]; rfl)
    have k7 : ∀ d' os, (grow (redrawn W d') os).cell? ⟨w.heap.size, 7, none⟩ = _ := cell_regrown (by rw [← hW, cell_one]; rfl)
    clear hW
    refine wp_region_quiet_below (by kernel_rfl) (by kernel_rfl) ?_
    repeat (first | go_big_quiet_step ((fail)) | quiet_step ((fail)))
    refine wpQuiet_nil ?_
    intro _ hw'
    obtain ⟨⟨dq, oq⟩, hw''⟩ := hw'
    subst hw''
    have hb2 := ext_trans hb0 (below_regrown W dq oq)
    have HT2 := HT.out _ hb2
    go_wp2_with (first | (go_at_call 76; refine (HF.out _).mono ?_; rintro e w2 ⟨rfl, hb3⟩) | (go_at_call 77; refine HT2.mono ?_; rintro e w2 ⟨rfl, rfl⟩) | (go_at_call 78; refine (HS.out _).mono ?_; rintro e w2 ⟨rfl, hb3⟩))
    all_goals go_ret
    all_goals exact ⟨ret_bool (by first | (simp [*]; done) | (rw [HZ.out]; simp [*]; done) | (simp [*, Nt.zT]; done) | (simp_all [Nt.zT]; done)), by first | exact hb2 | exact ext_trans hb2 hb3⟩
end Go.Proofs.YtpnabggpdgjbmaaGreatDoor
