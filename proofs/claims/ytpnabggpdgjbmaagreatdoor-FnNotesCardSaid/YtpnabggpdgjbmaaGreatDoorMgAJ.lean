/- Valid notes: one note, the reference's test. No condition but those that each theorem names. -/
import Derived.Test.YtpnabggpdgjbmaaGreatDoorMgAH
namespace Go.Proofs.YtpnabggpdgjbmaaGreatDoor
open Go.RowKit Go.Sort
set_option maxRecDepth 100000 in
set_option maxHeartbeats 8000000 in
theorem l27One_1 (x : Nt) (b o : Nat) (T : Option Addr) (c : Nat) (w : World) (hx : RdT w w.heap.size T c x.terms) (hf : x.fits) (h0 : nameB x.name = true) (k : Int) (_ : k = x.kind) (h1 : NtKind 1 k)
    (c0 : w.cell? ⟨b, o, none⟩ = some (.string x.name)) (c1 : w.cell? ⟨b, o + 1, none⟩ = some (.int .i64 k)) (c2 : w.cell? ⟨b, o + 2, none⟩ = some (.int .i64 x.num)) (c3 : w.cell? ⟨b, o + 3, none⟩ = some (.int .i64 x.den)) (c4 : w.cell? ⟨b, o + 4, none⟩ = some (.slice T x.terms.length c))
    (c5 : w.cell? ⟨b, o + 5, none⟩ = some (.int .i64 x.sp)) (c6 : w.cell? ⟨b, o + 6, none⟩ = some (.int .i64 x.sd)) (c7 : w.cell? ⟨b, o + 7, none⟩ = some (.int .i64 x.sq)) :
    Calls Tryz.prog 40 #[.pointer (some ⟨b, o, none⟩)] w fun e w' => e = .returned (.bool (ntRes 1 x)) ∧ Below w.heap.size w w' := by
  have HN : Hid (∀ W, Calls Tryz.prog 85 #[.string x.name] W fun e w' => e = .returned (.bool (nameB x.name)) ∧ W = w') := fun W => sIsName_any x.name W hf.1
  have HT := Lib.hid (l03Ok_any T c x.terms w hx.1 hf.2)
  have HF := Lib.hid (l02Ok_any x.num x.den)
  have HS := Lib.hid (l07Ok_any x.sp x.sd x.sq)
  have hl2 : x.terms.length ≤ 9223372036854775807 := by have := hf.2; unfold maxLen at this; omega
  have q1 := Tryz.eqGuardType26
  have q2 := Tryz.stoodInHeld26
  have q3 := Tryz.eqGuardType29
  have q4 := Tryz.stoodInHeld29
  clear hx hf
  rw [h0] at HN
  clear h0
  unfold NtKind at h1
  unfold ntRes
  simp only at h1 ⊢
  have HZ := Lib.hid (zeroNil x)
  first | (subst h1; skip) | obtain ⟨h1, h2, h3⟩ := h1
  rcases zF_ways x with ⟨f1, fR⟩ | ⟨f1, f2, fR⟩ | ⟨f1, f2, fR⟩
  all_goals
   rcases zS_ways x with ⟨s1, sR⟩ | ⟨s1, s2, sR⟩ | ⟨s1, s2, s3, sR⟩ | ⟨s1, s2, s3, sR⟩
   all_goals
    go_enter Tryz.func40, Tryz.ntmps40
    go_wp2_with (first | (go_at_call 85; refine (HN.out _).mono ?_; rintro e w' ⟨rfl, rfl⟩) | (go_at_call 86; refine (HF.out _).mono ?_; rintro e w2 ⟨rfl, hb3⟩) | (go_at_call 87; refine HT.out.mono ?_; rintro e w2 ⟨rfl, rfl⟩) | (go_at_call 88; refine (HS.out _).mono ?_; rintro e w2 ⟨rfl, hb3⟩))
    all_goals go_ret
    all_goals exact ⟨ret_bool (by first | (simp [*]; done) | (rw [HZ.out]; simp [*]; done) | (simp [*, Nt.zT]; done) | (simp_all [Nt.zT]; done)), by first | exact Below.refl _ _ | exact hb3⟩
set_option maxRecDepth 100000 in
set_option maxHeartbeats 8000000 in
theorem l27One_2 (x : Nt) (b o : Nat) (T : Option Addr) (c : Nat) (w : World) (hx : RdT w w.heap.size T c x.terms) (hf : x.fits) (h0 : nameB x.name = true) (k : Int) (_ : k = x.kind) (h1 : NtKind 2 k)
    (c0 : w.cell? ⟨b, o, none⟩ = some (.string x.name)) (c1 : w.cell? ⟨b, o + 1, none⟩ = some (.int .i64 k)) (c2 : w.cell? ⟨b, o + 2, none⟩ = some (.int .i64 x.num)) (c3 : w.cell? ⟨b, o + 3, none⟩ = some (.int .i64 x.den)) (c4 : w.cell? ⟨b, o + 4, none⟩ = some (.slice T x.terms.length c))
    (c5 : w.cell? ⟨b, o + 5, none⟩ = some (.int .i64 x.sp)) (c6 : w.cell? ⟨b, o + 6, none⟩ = some (.int .i64 x.sd)) (c7 : w.cell? ⟨b, o + 7, none⟩ = some (.int .i64 x.sq)) :
    Calls Tryz.prog 40 #[.pointer (some ⟨b, o, none⟩)] w fun e w' => e = .returned (.bool (ntRes 2 x)) ∧ Below w.heap.size w w' := by
  have HN : Hid (∀ W, Calls Tryz.prog 85 #[.string x.name] W fun e w' => e = .returned (.bool (nameB x.name)) ∧ W = w') := fun W => sIsName_any x.name W hf.1
  have HT := Lib.hid (l03Ok_any T c x.terms w hx.1 hf.2)
  have HF := Lib.hid (l02Ok_any x.num x.den)
  have HS := Lib.hid (l07Ok_any x.sp x.sd x.sq)
  have hl2 : x.terms.length ≤ 9223372036854775807 := by have := hf.2; unfold maxLen at this; omega
  have q1 := Tryz.eqGuardType26
  have q2 := Tryz.stoodInHeld26
  have q3 := Tryz.eqGuardType29
  have q4 := Tryz.stoodInHeld29
  clear hx hf
  rw [h0] at HN
  clear h0
  unfold NtKind at h1
  unfold ntRes
  simp only at h1 ⊢
  have HZ := Lib.hid (zeroNil x)
  first | (subst h1; skip) | obtain ⟨h1, h2, h3⟩ := h1
  rcases zF_ways x with ⟨f1, fR⟩ | ⟨f1, f2, fR⟩ | ⟨f1, f2, fR⟩
  all_goals
   rcases zS_ways x with ⟨s1, sR⟩ | ⟨s1, s2, sR⟩ | ⟨s1, s2, s3, sR⟩ | ⟨s1, s2, s3, sR⟩
   all_goals
    go_enter Tryz.func40, Tryz.ntmps40
    go_wp2_with (first | (go_at_call 85; refine (HN.out _).mono ?_; rintro e w' ⟨rfl, rfl⟩) | (go_at_call 86; refine (HF.out _).mono ?_; rintro e w2 ⟨rfl, hb3⟩) | (go_at_call 87; refine HT.out.mono ?_; rintro e w2 ⟨rfl, rfl⟩) | (go_at_call 88; refine (HS.out _).mono ?_; rintro e w2 ⟨rfl, hb3⟩))
    all_goals go_ret
    all_goals exact ⟨ret_bool (by first | (simp [*]; done) | (rw [HZ.out]; simp [*]; done) | (simp [*, Nt.zT]; done) | (simp_all [Nt.zT]; done)), by first | exact Below.refl _ _ | exact hb3⟩
set_option maxRecDepth 100000 in
set_option maxHeartbeats 8000000 in
theorem l27One_3 (x : Nt) (b o : Nat) (T : Option Addr) (c : Nat) (w : World) (hx : RdT w w.heap.size T c x.terms) (hf : x.fits) (h0 : nameB x.name = true) (k : Int) (_ : k = x.kind) (h1 : NtKind 3 k)
    (c0 : w.cell? ⟨b, o, none⟩ = some (.string x.name)) (c1 : w.cell? ⟨b, o + 1, none⟩ = some (.int .i64 k)) (c2 : w.cell? ⟨b, o + 2, none⟩ = some (.int .i64 x.num)) (c3 : w.cell? ⟨b, o + 3, none⟩ = some (.int .i64 x.den)) (c4 : w.cell? ⟨b, o + 4, none⟩ = some (.slice T x.terms.length c))
    (c5 : w.cell? ⟨b, o + 5, none⟩ = some (.int .i64 x.sp)) (c6 : w.cell? ⟨b, o + 6, none⟩ = some (.int .i64 x.sd)) (c7 : w.cell? ⟨b, o + 7, none⟩ = some (.int .i64 x.sq)) :
    Calls Tryz.prog 40 #[.pointer (some ⟨b, o, none⟩)] w fun e w' => e = .returned (.bool (ntRes 3 x)) ∧ Below w.heap.size w w' := by
  have HN : Hid (∀ W, Calls Tryz.prog 85 #[.string x.name] W fun e w' => e = .returned (.bool (nameB x.name)) ∧ W = w') := fun W => sIsName_any x.name W hf.1
  have HT := Lib.hid (l03Ok_any T c x.terms w hx.1 hf.2)
  have HF := Lib.hid (l02Ok_any x.num x.den)
  have HS := Lib.hid (l07Ok_any x.sp x.sd x.sq)
  have hl2 : x.terms.length ≤ 9223372036854775807 := by have := hf.2; unfold maxLen at this; omega
  have q1 := Tryz.eqGuardType26
  have q2 := Tryz.stoodInHeld26
  have q3 := Tryz.eqGuardType29
  have q4 := Tryz.stoodInHeld29
  clear hx hf
  rw [h0] at HN
  clear h0
  unfold NtKind at h1
  unfold ntRes
  simp only at h1 ⊢
  have HZ := Lib.hid (zeroNil x)
  first | (subst h1; skip) | obtain ⟨h1, h2, h3⟩ := h1
  rcases zF_ways x with ⟨f1, fR⟩ | ⟨f1, f2, fR⟩ | ⟨f1, f2, fR⟩
  all_goals
   rcases zS_ways x with ⟨s1, sR⟩ | ⟨s1, s2, sR⟩ | ⟨s1, s2, s3, sR⟩ | ⟨s1, s2, s3, sR⟩
   all_goals
    go_enter Tryz.func40, Tryz.ntmps40
    go_wp2_with (first | (go_at_call 85; refine (HN.out _).mono ?_; rintro e w' ⟨rfl, rfl⟩) | (go_at_call 86; refine (HF.out _).mono ?_; rintro e w2 ⟨rfl, hb3⟩) | (go_at_call 87; refine HT.out.mono ?_; rintro e w2 ⟨rfl, rfl⟩) | (go_at_call 88; refine (HS.out _).mono ?_; rintro e w2 ⟨rfl, hb3⟩))
    all_goals go_ret
    all_goals exact ⟨ret_bool (by first | (simp [*]; done) | (rw [HZ.out]; simp [*]; done) | (simp [*, Nt.zT]; done) | (simp_all [Nt.zT]; done)), by first | exact Below.refl _ _ | exact hb3⟩
set_option maxRecDepth 100000 in
set_option maxHeartbeats 8000000 in
theorem l27One_0 (x : Nt) (b o : Nat) (T : Option Addr) (c : Nat) (w : World) (hx : RdT w w.heap.size T c x.terms) (hf : x.fits) (h0 : nameB x.name = true) (k : Int) (_ : k = x.kind) (h1 : NtKind 0 k)
    (c0 : w.cell? ⟨b, o, none⟩ = some (.string x.name)) (c1 : w.cell? ⟨b, o + 1, none⟩ = some (.int .i64 k)) (c2 : w.cell? ⟨b, o + 2, none⟩ = some (.int .i64 x.num)) (c3 : w.cell? ⟨b, o + 3, none⟩ = some (.int .i64 x.den)) (c4 : w.cell? ⟨b, o + 4, none⟩ = some (.slice T x.terms.length c))
    (c5 : w.cell? ⟨b, o + 5, none⟩ = some (.int .i64 x.sp)) (c6 : w.cell? ⟨b, o + 6, none⟩ = some (.int .i64 x.sd)) (c7 : w.cell? ⟨b, o + 7, none⟩ = some (.int .i64 x.sq)) :
    Calls Tryz.prog 40 #[.pointer (some ⟨b, o, none⟩)] w fun e w' => e = .returned (.bool (ntRes 0 x)) ∧ Below w.heap.size w w' := by
  have HN : Hid (∀ W, Calls Tryz.prog 85 #[.string x.name] W fun e w' => e = .returned (.bool (nameB x.name)) ∧ W = w') := fun W => sIsName_any x.name W hf.1
  have HT := Lib.hid (l03Ok_any T c x.terms w hx.1 hf.2)
  have HF := Lib.hid (l02Ok_any x.num x.den)
  have HS := Lib.hid (l07Ok_any x.sp x.sd x.sq)
  have hl2 : x.terms.length ≤ 9223372036854775807 := by have := hf.2; unfold maxLen at this; omega
  have q1 := Tryz.eqGuardType26
  have q2 := Tryz.stoodInHeld26
  have q3 := Tryz.eqGuardType29
  have q4 := Tryz.stoodInHeld29
  clear hx hf
  rw [h0] at HN
  clear h0
  unfold NtKind at h1
  unfold ntRes
  simp only at h1 ⊢
  have HZ := Lib.hid (zeroNil x)
  first | (subst h1; skip) | obtain ⟨h1, h2, h3⟩ := h1
  rcases zF_ways x with ⟨f1, fR⟩ | ⟨f1, f2, fR⟩ | ⟨f1, f2, fR⟩
  all_goals
   rcases zS_ways x with ⟨s1, sR⟩ | ⟨s1, s2, sR⟩ | ⟨s1, s2, s3, sR⟩ | ⟨s1, s2, s3, sR⟩
   all_goals
    go_enter Tryz.func40, Tryz.ntmps40
    go_wp2_with (first | (go_at_call 85; refine (HN.out _).mono ?_; rintro e w' ⟨rfl, rfl⟩) | (go_at_call 86; refine (HF.out _).mono ?_; rintro e w2 ⟨rfl, hb3⟩) | (go_at_call 87; refine HT.out.mono ?_; rintro e w2 ⟨rfl, rfl⟩) | (go_at_call 88; refine (HS.out _).mono ?_; rintro e w2 ⟨rfl, hb3⟩))
    all_goals go_ret
    all_goals exact ⟨ret_bool (by first | (simp [*]; done) | (rw [HZ.out]; simp [*]; done) | (simp [*, Nt.zT]; done) | (simp_all [Nt.zT]; done)), by first | exact Below.refl _ _ | exact hb3⟩
end Go.Proofs.YtpnabggpdgjbmaaGreatDoor
