/- Parts of the proof, merged: CheckCW BestX BestY. No condition but those that each theorem names. -/
import Derived.Test.YtpgkellmhlmjeaaGreatDoorMgAN
import Derived.Test.YtpgkellmhlmjeaaGreatDoorMgAC
import Derived.Test.YtpgkellmhlmjeaaGreatDoorMgAL
import Derived.Deep.DeepCutAuto
import Derived.Test.YtpgkellmhlmjeaaGreatDoorMgAH
import Derived.Test.YtpgkellmhlmjeaaGreatDoorMgAI
namespace Go.Proofs.YtpgkellmhlmjeaaGreatDoor
open Go.RowKit Go.Sort
theorem getD_ofC {xs : List Int} {k : Nat} (h : k < xs.length) : xs[k]? = some (xs.getD k 0) := by
  rw [List.getD_eq_getElem?_getD, List.getElem?_eq_getElem h]; rfl
theorem getD_ofL {L : List Sd} {k : Nat} (h : k < L.length) : L[k]? = some (L.getD k (0, 0, 0)) := by
  rw [List.getD_eq_getElem?_getD, List.getElem?_eq_getElem h]; rfl
theorem drop_get {xs : List Int} {j k : Nat} {x : Int} (h : (xs.drop k)[j]? = some x) : xs[k + j]? = some x := by rwa [List.getElem?_drop] at h
theorem drop_rd {w : World} {b off k B : Nat} {xs : List Int} (hb : b < B) (hc : ∀ j x, xs[j]? = some x → w.cell? ⟨b, off + j, none⟩ = some (Value.int .i64 x)) : Rd (Value.int .i64) w B (some ⟨b, off + k, none⟩) (xs.drop k) := fun _ =>
  ⟨b, off + k, rfl, hb, fun j x hx => by
    have := hc (k + j) x (drop_get hx)
    rwa [← Nat.add_assoc] at this⟩
theorem drop_bd {xs : List Int} {k : Nat} (hb : ∀ x ∈ xs, -1000000000 ≤ x ∧ x ≤ 1000000000) : ∀ x ∈ xs.drop k, bil x := fun x hx => hb x (List.mem_of_mem_drop hx)
end Go.Proofs.YtpgkellmhlmjeaaGreatDoor
namespace Go.Proofs.YtpgkellmhlmjeaaGreatDoor
open Go.RowKit Go.Sort
def frEq (a b c d : Int) : Bool := (a == c) && (b == d)
theorem frEq_true {a b c d : Int} : frEq a b c d = true ↔ a = c ∧ b = d := by simp [frEq]
/-- Is p / q one of the sides, and the nearer one? -/
def isB (p q A B C E c : Int) : Bool := (frEq p q A B && decide (c < 0)) || (frEq p q C E && decide (0 < c))
theorem small_bd {n d : Int} (h1 : smallFB n d = true) (h2 : fracOk n d = true) : -1000000 ≤ n ∧ n ≤ 1000000 ∧ 1 ≤ d ∧ d ≤ 1000000 := by
  unfold smallFB at h1
  rw [Bool.and_eq_true, inR_true, decide_eq_true_iff] at h1
  have := fracOk_true.1 h2
  omega
set_option maxHeartbeats 1000000 in
theorem l18Compare_any (n d a b c f : Int) (w : World) (hn : big6 n) (hd : big6 d) (ha : big6 a) (hb : big6 b) (hc : big6 c) (hf : big6 f) :
    Calls Tryz.prog 96 #[fracV n d, fracV a b, fracV c f] w fun e w' => e = .returned (.int .i64 (cmp3 (errV n d a b * f) (errV n d c f * b))) ∧ Below w.heap.size w w' := by
  obtain ⟨_, _, _, _, x1, x2⟩ := errV_bd hn hd ha hb
  obtain ⟨_, _, _, _, y1, y2⟩ := errV_bd hn hd hc hf
  have HX := Lib.hid (l18Off_any n d a b · hn hd ha hb)
  have HY := Lib.hid (l18Off_any n d c f · hn hd hc hf)
  obtain ⟨f1, f2⟩ := hf
  obtain ⟨b1, b2⟩ := hb
  clear hn hd ha hc
  generalize errV n d a b = x at *
  generalize errV n d c f = y at *
  obtain ⟨p1, p2⟩ := mul_bd (x := x) (y := f) (M := 2000000000000) (N := 1000000) (by omega) x2 (by omega) f2 (by omega) f1
  obtain ⟨p3, p4⟩ := mul_bd (x := y) (y := b) (M := 2000000000000) (N := 1000000) (by omega) y2 (by omega) b2 (by omega) b1
  have w1 : IntKind.i64.wrap (x * f) = x * f := IntWalk.i64_in _ (by omega)
  have w2 : IntKind.i64.wrap (y * b) = y * b := IntWalk.i64_in _ (by omega)
  have HP := Lib.hid (show cmp3 (x * f) (y * b) = if x * f < y * b then -1 else if y * b < x * f then 1 else 0 from rfl)
  generalize hv : cmp3 (x * f) (y * b) = v at *
  clear hv
  obtain ⟨X, hX⟩ : ∃ X, x * f = X := ⟨_, rfl⟩
  obtain ⟨Y, hY⟩ : ∃ Y, y * b = Y := ⟨_, rfl⟩
  rw [hX] at w1 p1 p2 HP
  rw [hY] at w2 p3 p4 HP
  unfold fracV at *
  go_enter Tryz.func96, Tryz.ntmps96
  go_wp2_with fail
  have hb0 := Lib.hid (show Below w.heap.size w (((w.alloc (.cells #[.int .i64 n, .int .i64 d] 41)).alloc (.cells #[.int .i64 a, .int .i64 b] 41)).alloc (.cells #[.int .i64 c, .int .i64 f] 41)) from ext_alloc (ext_alloc (ext_alloc (Below.refl _ _) _) _) _)
  have q1 := cell_three_1 w #[.int .i64 n, .int .i64 d] #[.int .i64 a, .int .i64 b] #[.int .i64 c, .int .i64 f] 41 41 41
  have q2 := cell_three_2 w #[.int .i64 n, .int .i64 d] #[.int .i64 a, .int .i64 b] #[.int .i64 c, .int .i64 f] 41 41 41
  have q3 := cell_three_3 w #[.int .i64 n, .int .i64 d] #[.int .i64 a, .int .i64 b] #[.int .i64 c, .int .i64 f] 41 41 41
  generalize ((w.alloc (.cells #[.int .i64 n, .int .i64 d] 41)).alloc (.cells #[.int .i64 a, .int .i64 b] 41)).alloc (.cells #[.int .i64 c, .int .i64 f] 41) = W at *
  have k0 : ∀ x os, (grow (redrawn W x) os).cell? ⟨w.heap.size, 0, none⟩ = some (.int .i64 n) := cell_regrown (q1 0)
  have k1 : ∀ x os, (grow (redrawn W x) os).cell? ⟨w.heap.size, 1, none⟩ = some (.int .i64 d) := cell_regrown (q1 1)
  have k2 : ∀ x os, (grow (redrawn W x) os).cell? ⟨w.heap.size + 1, 0, none⟩ = some (.int .i64 a) := cell_regrown (q2 0)
  have k3 : ∀ x os, (grow (redrawn W x) os).cell? ⟨w.heap.size + 1, 1, none⟩ = some (.int .i64 b) := cell_regrown (q2 1)
  have k4 : ∀ x os, (grow (redrawn W x) os).cell? ⟨w.heap.size + 1 + 1, 0, none⟩ = some (.int .i64 c) := cell_regrown (q3 0)
  have k5 : ∀ x os, (grow (redrawn W x) os).cell? ⟨w.heap.size + 1 + 1, 1, none⟩ = some (.int .i64 f) := cell_regrown (q3 1)
  have HQ := Lib.hid (And.intro (fun j => q1 j) (And.intro (fun j => q2 j) (fun j => q3 j)))
  have hsz := Lib.hid (show w.heap.size + 1 + 1 < W.heap.size from by have := block_lt_of_cell (q3 0); simpa using this)
  clear q1 q2 q3
  refine wp_region_quiet_below (by kernel_rfl) (by kernel_rfl) ?_
  repeat (first | go_big_quiet_step ((with_reducible exact Calls.regrown_of (HX.out _))) | quiet_step ((with_reducible exact Calls.regrown_of (HX.out _))))
  refine wpQuiet_nil ?_
  intro _ hw'
  obtain ⟨⟨dq, oq⟩, hw''⟩ := hw'
  subst hw''
  obtain ⟨w4, hW4⟩ : ∃ Wq, Wq = grow (redrawn W dq) oq := ⟨_, rfl⟩
  have hb4 : Below W.heap.size W w4 := by rw [hW4]; exact below_regrown _ _ _
  rw [← hW4]
  clear hW4
  obtain ⟨hc4, hf4⟩ := bcell hb4
  have hy4 := hb4.size
  clear k0 k1 k2 k3 k4 k5
  have k0 : ∀ x os, (grow (redrawn w4 x) os).cell? ⟨w.heap.size, 0, none⟩ = some (.int .i64 n) := cell_regrown ((hc4 _ _ (by have := hsz.out; omega)).trans (HQ.out.1 0))
  have k1 : ∀ x os, (grow (redrawn w4 x) os).cell? ⟨w.heap.size, 1, none⟩ = some (.int .i64 d) := cell_regrown ((hc4 _ _ (by have := hsz.out; omega)).trans (HQ.out.1 1))
  have k2 : ∀ x os, (grow (redrawn w4 x) os).cell? ⟨w.heap.size + 1, 1, none⟩ = some (.int .i64 b) := cell_regrown ((hc4 _ _ (by have := hsz.out; omega)).trans (HQ.out.2.1 1))
  have k4 : ∀ x os, (grow (redrawn w4 x) os).cell? ⟨w.heap.size + 1 + 1, 0, none⟩ = some (.int .i64 c) := cell_regrown ((hc4 _ _ (by have := hsz.out; omega)).trans (HQ.out.2.2 0))
  have k5 : ∀ x os, (grow (redrawn w4 x) os).cell? ⟨w.heap.size + 1 + 1, 1, none⟩ = some (.int .i64 f) := cell_regrown ((hc4 _ _ (by have := hsz.out; omega)).trans (HQ.out.2.2 1))
  have hbe := Lib.hid (ext_trans hb0.out hb4)
  clear hc4 hf4 hy4 hb4
  go_wp2_with fail
  refine wp_region_quiet_below (by kernel_rfl) (by kernel_rfl) ?_
  repeat (first | go_big_quiet_step ((with_reducible exact Calls.regrown_of (HY.out _))) | quiet_step ((with_reducible exact Calls.regrown_of (HY.out _))))
  refine wpQuiet_nil ?_
  intro _ hw'
  obtain ⟨⟨dq, oq⟩, hw''⟩ := hw'
  subst hw''
  obtain ⟨w5, hW5⟩ : ∃ Wq, Wq = grow (redrawn w4 dq) oq := ⟨_, rfl⟩
  have hb5 : Below w4.heap.size w4 w5 := by rw [hW5]; exact below_regrown _ _ _
  rw [← hW5]
  clear hW5
  obtain ⟨hc5, hf5⟩ := bcell hb5
  have hy5 := hb5.size
  have hbe := Lib.hid (ext_trans hbe.out hb5)
  clear k0 k1 k2 k4 k5 hc5 hf5 hy5 hb5
  have hp := HP.out
  by_cases x1 : X < Y
  · rw [if_pos x1] at hp
    have HP2 := Lib.hid hp
    clear hp
    go_wp2
    go_ret
    exact ⟨ret_int HP2.out.symm, hbe.out⟩
  · by_cases x2 : Y < X
    · rw [if_neg x1, if_pos x2] at hp
      have HP2 := Lib.hid hp
      clear hp
      go_wp2
      go_ret
      exact ⟨ret_int HP2.out.symm, hbe.out⟩
    · rw [if_neg x1, if_neg x2] at hp
      have HP2 := Lib.hid hp
      clear hp
      go_wp2
      go_ret
      exact ⟨ret_int HP2.out.symm, hbe.out⟩
set_option maxRecDepth 100000 in
set_option maxHeartbeats 2000000 in
theorem isBestFirst_far (n d p q A B C E : Int) (w : World) (F : Fr n d q) (S : Sides n d q A B C E) :
    Calls Tryz.prog 105 #[fracV n d, fracV p q] w fun e w' => e = .returned (.bool (isB p q A B C E (cmp3 (errV n d A B * E) (errV n d C E * B)))) ∧ Below w.heap.size w w' := by
  have q1 := Tryz.eqGuardType41
  have q2 := Tryz.stoodInHeld41
  have HA := Lib.hid (around_far n d q A B C E · F S)
  obtain ⟨ba, bb, bc, be⟩ := S.1.bd F
  have HC := Lib.hid (compareErrors_any n d A B C E · ⟨F.n1, F.n2⟩ ⟨by have := F.lt; have := F.most1; omega, F.d2⟩ ba bb bc be)
  have HN := Lib.hid S.1.ne
  clear F S ba bb bc be
  generalize cmp3 (errV n d A B * E) (errV n d C E * B) = c at *
  unfold fracV at *
  go_enter Tryz.func105, Tryz.ntmps105
  have G1 := Lib.hid ((B2.new w n d 41).next (ext1 _ (.cells #[.int .i64 p, .int .i64 q] 41)))
  have G2 := Lib.hid (B2.new_at (g := w.heap.size + 1) (W := w.alloc (.cells #[.int .i64 n, .int .i64 d] 41)) p q 41 (by simp))
  have hbe := Lib.hid (ext_alloc (ext1 w (.cells #[.int .i64 n, .int .i64 d] 41)) (.cells #[.int .i64 p, .int .i64 q] 41))
  go_wp2_with fail
  generalize (w.alloc (.cells #[.int .i64 n, .int .i64 d] 41)).alloc (.cells #[.int .i64 p, .int .i64 q] 41) = W0 at *
  refine (HA.out _).mono ?_
  rintro e w1 ⟨rfl, hb⟩
  have hbe := Lib.hid (ext_alloc (ext_alloc (ext_trans hbe.out hb) (.cells #[.int .i64 A, .int .i64 B] 41)) (.cells #[.int .i64 C, .int .i64 E] 41))
  have G1 := Lib.hid (((G1.out.next hb).next (ext1 _ (.cells #[.int .i64 A, .int .i64 B] 41))).next (ext1 _ (.cells #[.int .i64 C, .int .i64 E] 41)))
  have G2 := Lib.hid (((G2.out.next hb).next (ext1 _ (.cells #[.int .i64 A, .int .i64 B] 41))).next (ext1 _ (.cells #[.int .i64 C, .int .i64 E] 41)))
  have G3 := Lib.hid ((B2.new w1 A B 41).next (ext1 _ (.cells #[.int .i64 C, .int .i64 E] 41)))
  have G4 := Lib.hid (B2.new_at (g := w1.heap.size + 1) (W := w1.alloc (.cells #[.int .i64 A, .int .i64 B] 41)) C E 41 (by simp))
  obtain ⟨r0, r1, _, _⟩ := G1.out
  clear hb
  go_wp2_with fail
  generalize (w1.alloc (.cells #[.int .i64 A, .int .i64 B] 41)).alloc (.cells #[.int .i64 C, .int .i64 E] 41) = W at *
  refine (HC.out _).mono ?_
  rintro e w2 ⟨rfl, hb⟩
  have hbe := Lib.hid (ext_trans hbe.out hb)
  obtain ⟨x0, x1, _, _⟩ := G2.out.next hb
  obtain ⟨y0, y1, _, _⟩ := G3.out.next hb
  obtain ⟨z0, z1, _, _⟩ := G4.out.next hb
  clear hb r0 r1
  have hn := HN.out
  go_wp2
  all_goals
    go_ret
    refine ⟨ret_bool ?_, hbe.out⟩
    rw [Bool.eq_iff_iff]
    try unfold isB
    unfold frEq
    simp
    try omega
set_option maxRecDepth 100000 in
set_option maxHeartbeats 2000000 in
theorem isBestFirst_near (n d p q : Int) (w : World) (hd : d ≤ q) (h1 : smallFB n d = true) (h2 : fracOk n d = true) :
    Calls Tryz.prog 105 #[fracV n d, fracV p q] w fun e w' => e = .returned (.bool (frEq p q n d)) ∧ Below w.heap.size w w' := by
  have q1 := Tryz.eqGuardType41
  have q2 := Tryz.stoodInHeld41
  have HA := Lib.hid (around_near n d q · hd)
  have HN : Hid True := trivial
  have HC : Hid (∀ W, Calls Tryz.prog 75 #[fracV n d, fracV n d, fracV n d] W fun e w' => e = .returned (.int .i64 0) ∧ Below W.heap.size W w') := fun W => by
    obtain ⟨n1, n2, d1, d2⟩ := small_bd h1 h2
    have := compareErrors_any n d n d n d W ⟨n1, n2⟩ ⟨by omega, d2⟩ ⟨n1, n2⟩ ⟨by omega, d2⟩ ⟨n1, n2⟩ ⟨by omega, d2⟩
    rwa [show cmp3 (errV n d n d * d) (errV n d n d * d) = 0 by unfold cmp3; split <;> (try split) <;> omega] at this
  clear hd h1 h2
  unfold fracV at *
  go_enter Tryz.func105, Tryz.ntmps105
  have G1 := Lib.hid ((B2.new w n d 41).next (ext1 _ (.cells #[.int .i64 p, .int .i64 q] 41)))
  have G2 := Lib.hid (B2.new_at (g := w.heap.size + 1) (W := w.alloc (.cells #[.int .i64 n, .int .i64 d] 41)) p q 41 (by simp))
  have hbe := Lib.hid (ext_alloc (ext1 w (.cells #[.int .i64 n, .int .i64 d] 41)) (.cells #[.int .i64 p, .int .i64 q] 41))
  go_wp2_with fail
  generalize (w.alloc (.cells #[.int .i64 n, .int .i64 d] 41)).alloc (.cells #[.int .i64 p, .int .i64 q] 41) = W0 at *
  refine (HA.out _).mono ?_
  rintro e w1 ⟨rfl, hb⟩
  have hbe := Lib.hid (ext_alloc (ext_alloc (ext_trans hbe.out hb) (.cells #[.int .i64 n, .int .i64 d] 41)) (.cells #[.int .i64 n, .int .i64 d] 41))
  have G1 := Lib.hid (((G1.out.next hb).next (ext1 _ (.cells #[.int .i64 n, .int .i64 d] 41))).next (ext1 _ (.cells #[.int .i64 n, .int .i64 d] 41)))
  have G2 := Lib.hid (((G2.out.next hb).next (ext1 _ (.cells #[.int .i64 n, .int .i64 d] 41))).next (ext1 _ (.cells #[.int .i64 n, .int .i64 d] 41)))
  have G3 := Lib.hid ((B2.new w1 n d 41).next (ext1 _ (.cells #[.int .i64 n, .int .i64 d] 41)))
  have G4 := Lib.hid (B2.new_at (g := w1.heap.size + 1) (W := w1.alloc (.cells #[.int .i64 n, .int .i64 d] 41)) n d 41 (by simp))
  obtain ⟨r0, r1, _, _⟩ := G1.out
  clear hb
  go_wp2_with fail
  generalize (w1.alloc (.cells #[.int .i64 n, .int .i64 d] 41)).alloc (.cells #[.int .i64 n, .int .i64 d] 41) = W at *
  refine (HC.out _).mono ?_
  rintro e w2 ⟨rfl, hb⟩
  have hbe := Lib.hid (ext_trans hbe.out hb)
  obtain ⟨x0, x1, _, _⟩ := G2.out.next hb
  obtain ⟨y0, y1, _, _⟩ := G3.out.next hb
  obtain ⟨z0, z1, _, _⟩ := G4.out.next hb
  clear hb r0 r1
  have hn := HN.out
  go_wp2
  all_goals
    go_ret
    refine ⟨ret_bool ?_, hbe.out⟩
    rw [Bool.eq_iff_iff]
    try unfold isB
    unfold frEq
    simp
    try omega
end Go.Proofs.YtpgkellmhlmjeaaGreatDoor
namespace Go.Proofs.YtpgkellmhlmjeaaGreatDoor
open Go.RowKit Go.Sort
set_option maxRecDepth 100000 in
set_option maxHeartbeats 2000000 in
theorem l18First_far (n d p q A B C E : Int) (w : World) (F : Fr n d q) (S : Sides n d q A B C E) :
    Calls Tryz.prog 45 #[fracV n d, fracV p q] w fun e w' => e = .returned (.bool (isB p q A B C E (cmp3 (errV n d A B * E) (errV n d C E * B)))) ∧ Below w.heap.size w w' := by
  have q1 := Tryz.eqGuardType41
  have q2 := Tryz.stoodInHeld41
  have HA := Lib.hid (l18Sides_far n d q A B C E · F S)
  obtain ⟨ba, bb, bc, be⟩ := S.1.bd F
  have HC := Lib.hid (l18Compare_any n d A B C E · ⟨F.n1, F.n2⟩ ⟨by have := F.lt; have := F.most1; omega, F.d2⟩ ba bb bc be)
  have HN := Lib.hid S.1.ne
  clear F S ba bb bc be
  generalize cmp3 (errV n d A B * E) (errV n d C E * B) = c at *
  unfold fracV at *
  go_enter Tryz.func45, Tryz.ntmps45
  have G1 := Lib.hid ((B2.new w n d 41).next (ext1 _ (.cells #[.int .i64 p, .int .i64 q] 41)))
  have G2 := Lib.hid (B2.new_at (g := w.heap.size + 1) (W := w.alloc (.cells #[.int .i64 n, .int .i64 d] 41)) p q 41 (by simp))
  have hbe := Lib.hid (ext_alloc (ext1 w (.cells #[.int .i64 n, .int .i64 d] 41)) (.cells #[.int .i64 p, .int .i64 q] 41))
  go_wp2_with fail
  generalize (w.alloc (.cells #[.int .i64 n, .int .i64 d] 41)).alloc (.cells #[.int .i64 p, .int .i64 q] 41) = W0 at *
  refine (HA.out _).mono ?_
  rintro e w1 ⟨rfl, hb⟩
  have hbe := Lib.hid (ext_alloc (ext_alloc (ext_trans hbe.out hb) (.cells #[.int .i64 A, .int .i64 B] 41)) (.cells #[.int .i64 C, .int .i64 E] 41))
  have G1 := Lib.hid (((G1.out.next hb).next (ext1 _ (.cells #[.int .i64 A, .int .i64 B] 41))).next (ext1 _ (.cells #[.int .i64 C, .int .i64 E] 41)))
  have G2 := Lib.hid (((G2.out.next hb).next (ext1 _ (.cells #[.int .i64 A, .int .i64 B] 41))).next (ext1 _ (.cells #[.int .i64 C, .int .i64 E] 41)))
  have G3 := Lib.hid ((B2.new w1 A B 41).next (ext1 _ (.cells #[.int .i64 C, .int .i64 E] 41)))
  have G4 := Lib.hid (B2.new_at (g := w1.heap.size + 1) (W := w1.alloc (.cells #[.int .i64 A, .int .i64 B] 41)) C E 41 (by simp))
  clear hb
  have hne : (A == C) = false ∨ ((A == C) = true ∧ (B == E) = false) := by
    have := HN.out
    by_cases h : A = C
    · exact .inr ⟨by simpa using h, by simp; exact fun e => this ⟨h, e⟩⟩
    · exact .inl (by simpa using h)
  obtain ⟨r0, r1, _, _⟩ := G1.out
  obtain ⟨y0, y1, _, _⟩ := G3.out
  obtain ⟨z0, z1, _, _⟩ := G4.out
  rcases hne with e1 | ⟨e1, e2⟩
  all_goals
    go_wp2_with fail
    generalize (w1.alloc (.cells #[.int .i64 A, .int .i64 B] 41)).alloc (.cells #[.int .i64 C, .int .i64 E] 41) = W at *
    clear y0 y1 z0 z1
    refine (HC.out _).mono ?_
    rintro e w2 ⟨rfl, hb⟩
    have hbe := Lib.hid (ext_trans hbe.out hb)
    obtain ⟨x0, x1, _, _⟩ := G2.out.next hb
    obtain ⟨y0, y1, _, _⟩ := G3.out.next hb
    obtain ⟨z0, z1, _, _⟩ := G4.out.next hb
    clear hb r0 r1
    have hn := HN.out
    go_wp2
    all_goals
      go_ret
      refine ⟨ret_bool ?_, hbe.out⟩
      rw [Bool.eq_iff_iff]
      try unfold isB
      unfold frEq
      simp
      try omega
set_option maxRecDepth 100000 in
set_option maxHeartbeats 2000000 in
theorem l18First_near (n d p q : Int) (w : World) (hd : d ≤ q) :
    Calls Tryz.prog 45 #[fracV n d, fracV p q] w fun e w' => e = .returned (.bool (frEq p q n d)) ∧ Below w.heap.size w w' := by
  have q1 := Tryz.eqGuardType41
  have q2 := Tryz.stoodInHeld41
  have HA := Lib.hid (l18Sides_near n d q · hd)
  have HN : Hid True := trivial
  clear hd
  unfold fracV at *
  go_enter Tryz.func45, Tryz.ntmps45
  have G1 := Lib.hid ((B2.new w n d 41).next (ext1 _ (.cells #[.int .i64 p, .int .i64 q] 41)))
  have G2 := Lib.hid (B2.new_at (g := w.heap.size + 1) (W := w.alloc (.cells #[.int .i64 n, .int .i64 d] 41)) p q 41 (by simp))
  have hbe := Lib.hid (ext_alloc (ext1 w (.cells #[.int .i64 n, .int .i64 d] 41)) (.cells #[.int .i64 p, .int .i64 q] 41))
  go_wp2_with fail
  generalize (w.alloc (.cells #[.int .i64 n, .int .i64 d] 41)).alloc (.cells #[.int .i64 p, .int .i64 q] 41) = W0 at *
  refine (HA.out _).mono ?_
  rintro e w1 ⟨rfl, hb⟩
  have hbe := Lib.hid (ext_alloc (ext_alloc (ext_trans hbe.out hb) (.cells #[.int .i64 n, .int .i64 d] 41)) (.cells #[.int .i64 n, .int .i64 d] 41))
  have G1 := Lib.hid (((G1.out.next hb).next (ext1 _ (.cells #[.int .i64 n, .int .i64 d] 41))).next (ext1 _ (.cells #[.int .i64 n, .int .i64 d] 41)))
  have G2 := Lib.hid (((G2.out.next hb).next (ext1 _ (.cells #[.int .i64 n, .int .i64 d] 41))).next (ext1 _ (.cells #[.int .i64 n, .int .i64 d] 41)))
  have G3 := Lib.hid ((B2.new w1 n d 41).next (ext1 _ (.cells #[.int .i64 n, .int .i64 d] 41)))
  have G4 := Lib.hid (B2.new_at (g := w1.heap.size + 1) (W := w1.alloc (.cells #[.int .i64 n, .int .i64 d] 41)) n d 41 (by simp))
  clear hb
  obtain ⟨x0, x1, _, _⟩ := G2.out
  obtain ⟨r0, r1, _, _⟩ := G1.out
  obtain ⟨y0, y1, _, _⟩ := G3.out
  obtain ⟨z0, z1, _, _⟩ := G4.out
  have t1 : (n == n) = true := by simp
  have t2 : (d == d) = true := by simp
  have hn := HN.out
  go_wp2
  all_goals
    go_ret
    refine ⟨ret_bool ?_, hbe.out⟩
    rw [Bool.eq_iff_iff]
    try unfold isB
    unfold frEq
    simp
    try omega
end Go.Proofs.YtpgkellmhlmjeaaGreatDoor
