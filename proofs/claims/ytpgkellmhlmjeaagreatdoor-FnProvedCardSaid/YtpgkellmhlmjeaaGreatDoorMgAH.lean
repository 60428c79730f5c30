/- Parts of the proof, merged: SideS BestW UnitC. No condition but those that each theorem names. -/
import Derived.Test.YtpgkellmhlmjeaaGreatDoorMgAG
import Derived.Test.YtpgkellmhlmjeaaGreatDoorMgAC
import Derived.Test.YtpgkellmhlmjeaaGreatDoorMgAB
namespace Go.Proofs.YtpgkellmhlmjeaaGreatDoor
open Go.RowKit Go.Sort
theorem l18Off_any (n d a b : Int) (w : World) (hn : big6 n) (hd : big6 d) (ha : big6 a) (hb : big6 b) :
    Calls Tryz.prog 139 #[fracV n d, fracV a b] w fun e w' => e = .returned (.int .i64 (errV n d a b)) ∧ Below w.heap.size w w' := by
  obtain ⟨p1, p2, p3, p4, _, _⟩ := errV_bd hn hd ha hb
  unfold fracV
  go_enter Tryz.func139, Tryz.ntmps139
  go_wp2_with fail
  refine (l02Size_any (n * b - a * d) _ (by omega) (by omega)).mono ?_
  rintro e w' ⟨rfl, rfl⟩
  go_wp2
  go_ret
  exact ⟨rfl, ext_alloc (ext_alloc (Below.refl _ _) _) _⟩
theorem l02Sign_any (a b c d : Int) (w : World) (h1 : -1000000000000000000 ≤ a * d) (h2 : a * d ≤ 1000000000000000000) (h3 : -1000000000000000000 ≤ c * b) (h4 : c * b ≤ 1000000000000000000) :
    Calls Tryz.prog 152 #[fracV a b, fracV c d] w fun e w' => e = .returned (.int .i64 (cmp3 (a * d) (c * b))) ∧ Below w.heap.size w w' := by
  unfold fracV
  by_cases x1 : a * d < c * b
  · have e1 : cmp3 (a * d) (c * b) = -1 := by rw [cmp3, if_pos x1]
    rw [e1]
    clear e1
    go_enter Tryz.func152, Tryz.ntmps152
    go_wp2
    go_ret
    exact ⟨rfl, ext_alloc (ext_alloc (Below.refl _ _) _) _⟩
  · by_cases x2 : c * b < a * d
    · have e1 : cmp3 (a * d) (c * b) = 1 := by rw [cmp3, if_neg x1, if_pos x2]
      rw [e1]
      clear e1
      go_enter Tryz.func152, Tryz.ntmps152
      go_wp2
      go_ret
      exact ⟨rfl, ext_alloc (ext_alloc (Below.refl _ _) _) _⟩
    · have e1 : cmp3 (a * d) (c * b) = 0 := by rw [cmp3, if_neg x1, if_neg x2]
      rw [e1]
      clear e1
      go_enter Tryz.func152, Tryz.ntmps152
      go_wp2
      go_ret
      exact ⟨rfl, ext_alloc (ext_alloc (Below.refl _ _) _) _⟩
theorem l02Less_any (a b c d : Int) (w : World) (h1 : -1000000000000000000 ≤ a * d) (h2 : a * d ≤ 1000000000000000000) (h3 : -1000000000000000000 ≤ c * b) (h4 : c * b ≤ 1000000000000000000) :
    Calls Tryz.prog 131 #[fracV a b, fracV c d] w fun e w' => e = .returned (.bool (decide (a * d < c * b))) ∧ Below w.heap.size w w' := by
  have HS := Lib.hid (l02Sign_any a b c d · h1 h2 h3 h4)
  have he : decide (cmp3 (a * d) (c * b) < 0) = decide (a * d < c * b) := by rw [Bool.eq_iff_iff]; simp [cmp3_neg]
  rw [← he]
  clear he
  generalize cmp3 (a * d) (c * b) = v at *
  unfold fracV at *
  go_enter Tryz.func131, Tryz.ntmps131
  go_wp2_with fail
  refine (HS.out _).mono ?_
  rintro e w1 ⟨rfl, hb1⟩
  obtain ⟨hc1, hf1⟩ := bcell hb1
  have hy1 := hb1.size
  (try simp at hy1)
  have hz1_0 : w.heap.size < w1.heap.size := by omega
  go_wp2
  go_ret
  refine ⟨rfl, ?_⟩
  repeat (first | exact Below.refl _ _ | assumption | refine ext_alloc ?_ _ | refine ext_drew ?_ | refine ext_trans ?_ (by assumption))
set_option maxRecDepth 100000 in
set_option maxHeartbeats 4000000 in
theorem l18Sides_far (n d most A B C E : Int) (w : World) (F : Fr n d most) (S : Sides n d most A B C E) :
    Calls Tryz.prog 95 #[fracV n d, .int .i64 most] w fun e w' => e = .returned (.tuple #[fracV A B, fracV C E]) ∧ Below w.heap.size w w' := by
  obtain ⟨f1, f2, f3, f4, f5, _⟩ := id F
  have HF := Lib.hid F
  have HS := Lib.hid S
  have HN := Lib.hid (Nb.start F)
  have HQ := Lib.hid (l02Floor_any n d · (by omega) (by omega) (by omega) (by omega))
  obtain ⟨q1, q2⟩ := ediv_bd (n := n) (g := d) (M := 1000000) (by omega) (by omega) (by omega)
  clear F S
  generalize n / d = q at *
  unfold fracV at *
  go_enter Tryz.func95, Tryz.ntmps95
  go_wp2_with fail
  refine (HQ.out _).mono ?_
  rintro e w' ⟨rfl, rfl⟩
  go_wp2_with fail
  have HW := Lib.hid (SW.start w n d q 1 (q + 1) 1 41)
  generalize ((((w.alloc (.cells #[.int .i64 n, .int .i64 d] 41)).alloc (.cells #[.int .i64 0, .int .i64 0] 41)).alloc (.cells #[.int .i64 0, .int .i64 0] 41)).alloc (.cells #[.int .i64 q, .int .i64 1] 41)).alloc (.cells #[.int .i64 (q + 1), .int .i64 1] 41) = W at *
  go_loopw [9] (fun _ wr => ∃ a b c e : Int, Hid (Nb n d most a b c e) ∧ Hid (SW w n d a b c e wr)) (fun _ wr => mS w most wr)
  case atStart => exact ⟨_, _, _, _, HN.out, HW.out⟩
  case round =>
    obtain ⟨a, b, c, e, HB, HW1⟩ := hrel
    clear HW HQ HN
    obtain ⟨ba, bb, bc, be⟩ := HB.out.bd HF.out
    have nb := HB.out.b1
    have nb2 := HB.out.b2
    have ne := HB.out.e1
    have ne2 := HB.out.e2
    obtain ⟨s1, ⟨r0, r1, _, _⟩, ⟨y0, y1, yf1, _⟩, ⟨v0, v1, vf1, _⟩, ⟨r2, r3, _, _⟩, r4, r5, _, _⟩ := HW1.out
    by_cases hle : b + e ≤ most
    · clear y0 y1 yf1 v0 v1 vf1
      have HE1 := Lib.hid (l18Off_any n d a b · ⟨f1, f2⟩ ⟨by omega, by omega⟩ ba bb)
      have HE2 := Lib.hid (l18Off_any n d c e · ⟨f1, f2⟩ ⟨by omega, by omega⟩ bc be)
      obtain ⟨x1, x2, y1, y2⟩ := errV_pos HF.out HB.out
      obtain ⟨a1, a2⟩ := id ba
      obtain ⟨c1, c2⟩ := id bc
      obtain ⟨m1, m2⟩ := mul_bd (x := a + c) (y := d) (M := 2000000) (N := 1000000) (by omega) (by omega) (by omega) (by omega) (by omega) (by omega)
      obtain ⟨m3, m4⟩ := mul_bd (x := n) (y := b + e) (M := 1000000) (N := 2000000) (by omega) (by omega) (by omega) (by omega) (by omega) (by omega)
      have HL : Hid (∀ W, Calls Tryz.prog 131 #[.agg #[.int .i64 (a + c), .int .i64 (b + e)], .agg #[.int .i64 n, .int .i64 d]] W fun e' w' => e' = .returned (.bool (decide ((a + c) * d < n * (b + e)))) ∧ Below W.heap.size W w') := fun W => l02Less_any _ _ _ _ W (by omega) (by omega) (by omega) (by omega)
      clear m1 m2 m3 m4
      go_wp2_with fail
      refine (HL.out _).mono ?_
      rintro e' w3 ⟨rfl, hb3⟩
      have HW3 := Lib.hid ((HW1.out.next (ext1 wr (.cells #[.int .i64 (a + c), .int .i64 (b + e)] 41))).next hb3)
      clear s1 r0 r1 r2 r3 r4 r5 hb3 HL
      obtain ⟨s1, ⟨r0, r1, _, _⟩, _, _, ⟨r2, r3, rf1, _⟩, r4, r5, rg1, _⟩ := HW3.out
      have rf10 := rf1 0
      have rf11 := rf1 1
      have rg10 := rg1 0
      have rg11 := rg1 1
      clear rf1 rg1
      rcases HB.out.side HF.out hle with ⟨hs, hk1⟩ | ⟨hs, hk1⟩
      · obtain ⟨k, a', b', HK, hk, ha, hb, hx, k0, k1, g1, g2, l1, l2, HB2, ba', bb'⟩ := HB.out.goLow HF.out
        have HM := Lib.hid (fun W => l00Min_any (errV n d a b / errV n d c e) ((most - b) / e) k hk W)
        generalize errV n d a b = x at *
        generalize errV n d c e = y at *
        obtain ⟨u, hu⟩ : ∃ u, x / y = u := ⟨_, rfl⟩
        obtain ⟨v, hv⟩ : ∃ v, (most - b) / e = v := ⟨_, rfl⟩
        rw [hu, hv] at HM
        rw [hu] at g1
        rw [hv] at g2
        obtain ⟨a3, a4⟩ := ba'
        obtain ⟨b3, b4⟩ := bb'
        have p1 : -2000000 ≤ k * c ∧ k * c ≤ 2000000 := by omega
        have p2 : -2000000 ≤ k * e ∧ k * e ≤ 2000000 := by omega
        obtain ⟨p1, p1'⟩ := p1
        obtain ⟨p2, p2'⟩ := p2
        have HMV := Lib.hid (moves (b' := b') (e' := e) (m := 0) most hb (by omega) (HB2.out.b1) ne k0 (Int.le_refl _) (by have := HK.out; omega) HB2.out.b2 ne2)
        clear hk hle
        have q0 : ∀ x os, (grow (redrawn w3 x) os).cell? ⟨w.heap.size, 0, none⟩ = some (.int .i64 n) := cell_regrown r0
        have q1 : ∀ x os, (grow (redrawn w3 x) os).cell? ⟨w.heap.size, 1, none⟩ = some (.int .i64 d) := cell_regrown r1
        have q2 : ∀ x os, (grow (redrawn w3 x) os).cell? ⟨w.heap.size + 1 + 1 + 1, 0, none⟩ = some (.int .i64 a) := cell_regrown r2
        have q3 : ∀ x os, (grow (redrawn w3 x) os).cell? ⟨w.heap.size + 1 + 1 + 1, 1, none⟩ = some (.int .i64 b) := cell_regrown r3
        have q4 : ∀ x os, (grow (redrawn w3 x) os).cell? ⟨w.heap.size + 1 + 1 + 1 + 1, 0, none⟩ = some (.int .i64 c) := cell_regrown r4
        have q5 : ∀ x os, (grow (redrawn w3 x) os).cell? ⟨w.heap.size + 1 + 1 + 1 + 1, 1, none⟩ = some (.int .i64 e) := cell_regrown r5
        clear s1 r0 r1 r2 r3 r4 r5
        go_wp2_with fail
        refine wp_region_quiet_below (by kernel_rfl) (by kernel_rfl) ?_
        repeat (first | go_big_quiet_step ((first | (with_reducible exact Calls.regrown_of (HE1.out _)) | (with_reducible exact Calls.regrown_of (HE2.out _)) | (with_reducible exact regrown_same (HM.out _)))) | quiet_step ((first | (with_reducible exact Calls.regrown_of (HE1.out _)) | (with_reducible exact Calls.regrown_of (HE2.out _)) | (with_reducible exact regrown_same (HM.out _)))))
        refine wpQuiet_nil ?_
        intro _ hw'
        obtain ⟨⟨dq, oq⟩, hw''⟩ := hw'
        subst hw''
        obtain ⟨w4, hW4⟩ : ∃ Wq, Wq = grow (redrawn w3 dq) oq := ⟨_, rfl⟩
        have hb4 : Below w3.heap.size w3 w4 := by rw [hW4]; exact below_regrown _ _ _
        rw [← hW4]
        clear hW4
        obtain ⟨hc4, hf4⟩ := bcell hb4
        have hy4 := hb4.size
        have HW4 := Lib.hid (HW3.out.next hb4)
        clear hb4 hc4 hf4 hy4 q0 q1 q2 q3 q4 q5 HE1 HE2 HM rf10 rf11 rg10 rg11
        obtain ⟨s1, ⟨r0, r1, _, _⟩, _, _, ⟨r2, r3, rf1, _⟩, r4, r5, rg1, _⟩ := HW4.out
        have rf10 := rf1 0
        have rf11 := rf1 1
        clear rf1 rg1
        go_wp2_with fail
        refine ⟨⟨a', b', c, e, HB2.out, HW4.out.low a' b'⟩, ?_⟩
        rw [(HW4.out.low a' b').ms most, HW1.out.ms most]
        exact HMV.out
      · obtain ⟨k, a', b', HK, hk, ha, hb, k0, k1, g1, g2, HB2, ba', bb'⟩ := HB.out.goHigh HF.out
        have HM := Lib.hid (fun W => l00Min_any (errV n d c e / errV n d a b) ((most - e) / b) k hk W)
        generalize errV n d a b = x at *
        generalize errV n d c e = y at *
        obtain ⟨u, hu⟩ : ∃ u, y / x = u := ⟨_, rfl⟩
        obtain ⟨v, hv⟩ : ∃ v, (most - e) / b = v := ⟨_, rfl⟩
        rw [hu, hv] at HM
        rw [hu] at g1
        rw [hv] at g2
        obtain ⟨a3, a4⟩ := ba'
        obtain ⟨b3, b4⟩ := bb'
        have p1 : -2000000 ≤ k * a ∧ k * a ≤ 2000000 := by omega
        have p2 : -2000000 ≤ k * b ∧ k * b ≤ 2000000 := by omega
        obtain ⟨p1, p1'⟩ := p1
        obtain ⟨p2, p2'⟩ := p2
        have HMV := Lib.hid (moves (b := e) (e := b) (b' := b') (e' := b) (m := 0) most hb (by omega) (HB2.out.e1) nb k0 (Int.le_refl _) (by have := HK.out; omega) HB2.out.e2 nb2)
        clear hk hle
        have q0 : ∀ x os, (grow (redrawn w3 x) os).cell? ⟨w.heap.size, 0, none⟩ = some (.int .i64 n) := cell_regrown r0
        have q1 : ∀ x os, (grow (redrawn w3 x) os).cell? ⟨w.heap.size, 1, none⟩ = some (.int .i64 d) := cell_regrown r1
        have q2 : ∀ x os, (grow (redrawn w3 x) os).cell? ⟨w.heap.size + 1 + 1 + 1, 0, none⟩ = some (.int .i64 a) := cell_regrown r2
        have q3 : ∀ x os, (grow (redrawn w3 x) os).cell? ⟨w.heap.size + 1 + 1 + 1, 1, none⟩ = some (.int .i64 b) := cell_regrown r3
        have q4 : ∀ x os, (grow (redrawn w3 x) os).cell? ⟨w.heap.size + 1 + 1 + 1 + 1, 0, none⟩ = some (.int .i64 c) := cell_regrown r4
        have q5 : ∀ x os, (grow (redrawn w3 x) os).cell? ⟨w.heap.size + 1 + 1 + 1 + 1, 1, none⟩ = some (.int .i64 e) := cell_regrown r5
        clear s1 r0 r1 r2 r3 r4 r5
        go_wp2_with fail
        refine wp_region_quiet_below (by kernel_rfl) (by kernel_rfl) ?_
        repeat (first | go_big_quiet_step ((first | (with_reducible exact Calls.regrown_of (HE1.out _)) | (with_reducible exact Calls.regrown_of (HE2.out _)) | (with_reducible exact regrown_same (HM.out _)))) | quiet_step ((first | (with_reducible exact Calls.regrown_of (HE1.out _)) | (with_reducible exact Calls.regrown_of (HE2.out _)) | (with_reducible exact regrown_same (HM.out _)))))
        refine wpQuiet_nil ?_
        intro _ hw'
        obtain ⟨⟨dq, oq⟩, hw''⟩ := hw'
        subst hw''
        obtain ⟨w4, hW4⟩ : ∃ Wq, Wq = grow (redrawn w3 dq) oq := ⟨_, rfl⟩
        have hb4 : Below w3.heap.size w3 w4 := by rw [hW4]; exact below_regrown _ _ _
        rw [← hW4]
        clear hW4
        obtain ⟨hc4, hf4⟩ := bcell hb4
        have hy4 := hb4.size
        have HW4 := Lib.hid (HW3.out.next hb4)
        clear hb4 hc4 hf4 hy4 q0 q1 q2 q3 q4 q5 HE1 HE2 HM rf10 rf11 rg10 rg11
        obtain ⟨s1, ⟨r0, r1, _, _⟩, _, _, ⟨r2, r3, rf1, _⟩, r4, r5, rg1, _⟩ := HW4.out
        have rg10 := rg1 0
        have rg11 := rg1 1
        clear rf1 rg1
        go_wp2_with fail
        refine ⟨⟨a, b, a', b', HB2.out, HW4.out.high a' b'⟩, ?_⟩
        rw [(HW4.out.high a' b').ms most, HW1.out.ms most]
        have := HMV.out
        omega
    · have HEND := Lib.hid (HS.out.one HF.out ⟨HB.out, by omega⟩)
      have Q1 := Lib.hid (((HW1.out.2.2.1.set a b).far (i := w.heap.size + 1 + 1) (j := 0) (by omega) (.int .i64 c)).far (i := w.heap.size + 1 + 1) (j := 1) (by omega) (.int .i64 e))
      have Q2 := Lib.hid (((HW1.out.2.2.2.1.far (i := w.heap.size + 1) (j := 0) (by omega) (.int .i64 a)).far (i := w.heap.size + 1) (j := 1) (by omega) (.int .i64 b)).set c e)
      have Q3 := Lib.hid ((HW1.out.2.2.1.far (i := w.heap.size + 1 + 1) (j := 0) (by omega) (.int .i64 c)).far (i := w.heap.size + 1 + 1) (j := 1) (by omega) (.int .i64 e) |>.set a b)
      have Q4 := Lib.hid (((HW1.out.2.2.2.1.set c e).far (i := w.heap.size + 1) (j := 0) (by omega) (.int .i64 a)).far (i := w.heap.size + 1) (j := 1) (by omega) (.int .i64 b))
      have hbel := Lib.hid HW1.out.1
      have y10 := yf1 0
      have y11 := yf1 1
      have v10 := vf1 0
      have v11 := vf1 1
      clear yf1 vf1
      go_wp2_with fail
      go_region_held3 (fun w' => w'.cell? ⟨w.heap.size + 1 + 1 + 1, 0, none⟩ = some (.int .i64 a) ∧ w'.cell? ⟨w.heap.size + 1 + 1 + 1, 1, none⟩ = some (.int .i64 b) ∧ w'.cell? ⟨w.heap.size + 1 + 1 + 1 + 1, 0, none⟩ = some (.int .i64 c) ∧ w'.cell? ⟨w.heap.size + 1 + 1 + 1 + 1, 1, none⟩ = some (.int .i64 e)) (go_keep) (fail)
      all_goals
        go_wp2
        refine bodyPost_ret (v := .tuple #[.agg #[.int .i64 a, .int .i64 b], .agg #[.int .i64 c, .int .i64 e]]) ?_ rfl ⟨by obtain ⟨e1, e2, e3, e4⟩ := HEND.out; rw [e1, e2, e3, e4], ?_⟩
        · obtain ⟨z1, z2, _, _⟩ := Q1.out
          obtain ⟨z3, z4, _, _⟩ := Q2.out
          obtain ⟨z5, z6, _, _⟩ := Q3.out
          obtain ⟨z7, z8, _, _⟩ := Q4.out
          first
            | (simp [results, Tryz.results95, go_sem, z1, z2, z3, z4]; done)
            | (simp [results, Tryz.results95, go_sem, z5, z6, z7, z8]; done)
        · repeat (first | exact hbel.out | refine ext_set ?_ (by first | (simp; done) | (simp; omega)) _ | refine ext_drew ?_)
end Go.Proofs.YtpgkellmhlmjeaaGreatDoor
namespace Go.Proofs.YtpgkellmhlmjeaaGreatDoor
open Go.RowKit Go.Sort
theorem B2.drew_ {g : Nat} {x y : Int} {W : World} (h : B2 g x y W) : B2 g x y W.drew := h
set_option maxRecDepth 100000 in
set_option maxHeartbeats 1000000 in
theorem around_near (n d most : Int) (w : World) (h : d ≤ most) :
    Calls Tryz.prog 62 #[fracV n d, .int .i64 most] w fun e w' => e = .returned (.tuple #[fracV n d, fracV n d]) ∧ Below w.heap.size w w' := by
  unfold fracV
  have h1 := B2.next (B2.next (B2.new w n d 41) (ext1 _ (.cells #[.int .i64 0, .int .i64 0] 41))) (ext1 _ (.cells #[.int .i64 0, .int .i64 0] 41))
  have h2 := B2.next (B2.new_at (g := w.heap.size + 1) (W := w.alloc (.cells #[.int .i64 n, .int .i64 d] 41)) 0 0 41 (by simp)) (ext1 _ (.cells #[.int .i64 0, .int .i64 0] 41))
  have h3 := B2.new_at (g := w.heap.size + 1 + 1) (W := (w.alloc (.cells #[.int .i64 n, .int .i64 d] 41)).alloc (.cells #[.int .i64 0, .int .i64 0] 41)) 0 0 41 (by simp)
  have hbel := ext_alloc (ext_alloc (ext1 w (.cells #[.int .i64 n, .int .i64 d] 41)) (.cells #[.int .i64 0, .int .i64 0] 41)) (.cells #[.int .i64 0, .int .i64 0] 41)
  have Q1 := Lib.hid (((h2.set n d).far (i := w.heap.size + 1 + 1) (j := 0) (by omega) (.int .i64 n)).far (i := w.heap.size + 1 + 1) (j := 1) (by omega) (.int .i64 d))
  have Q2 := Lib.hid (((h3.far (i := w.heap.size + 1) (j := 0) (by omega) (.int .i64 n)).far (i := w.heap.size + 1) (j := 1) (by omega) (.int .i64 d)).set n d)
  have Q3 := Lib.hid ((h2.far (i := w.heap.size + 1 + 1) (j := 0) (by omega) (.int .i64 n)).far (i := w.heap.size + 1 + 1) (j := 1) (by omega) (.int .i64 d) |>.set n d)
  have Q4 := Lib.hid (((h3.set n d).far (i := w.heap.size + 1) (j := 0) (by omega) (.int .i64 n)).far (i := w.heap.size + 1) (j := 1) (by omega) (.int .i64 d))
  have H1 := Lib.hid h1
  have H2 := Lib.hid h2
  have H3 := Lib.hid h3
  have hbel := Lib.hid hbel
  clear h1 h2 h3
  go_enter Tryz.func62, Tryz.ntmps62
  go_wp2_with fail
  generalize ((w.alloc (.cells #[.int .i64 n, .int .i64 d] 41)).alloc (.cells #[.int .i64 0, .int .i64 0] 41)).alloc (.cells #[.int .i64 0, .int .i64 0] 41) = W at *
  obtain ⟨r0, r1, _, _⟩ := H1.out
  obtain ⟨y0, y1, yf1, _⟩ := H2.out
  obtain ⟨v0, v1, vf1, _⟩ := H3.out
  have y10 := yf1 0
  have y11 := yf1 1
  have v10 := vf1 0
  have v11 := vf1 1
  clear yf1 vf1
  have ne1 : ¬ (w.heap.size = w.heap.size + 1) := by omega
  have ne2 : ¬ (w.heap.size = w.heap.size + 1 + 1) := by omega
  have ne3 : ¬ (w.heap.size + 1 = w.heap.size) := by omega
  have ne4 : ¬ (w.heap.size + 1 + 1 = w.heap.size) := by omega
  go_region_held3 (fun w' => w'.cell? ⟨w.heap.size, 0, none⟩ = some (.int .i64 n) ∧ w'.cell? ⟨w.heap.size, 1, none⟩ = some (.int .i64 d))
    (go_keep) (fail)
  all_goals
    go_wp2
    refine bodyPost_ret (v := .tuple #[.agg #[.int .i64 n, .int .i64 d], .agg #[.int .i64 n, .int .i64 d]]) ?_ rfl ⟨rfl, ?_⟩
    · obtain ⟨z1, z2, _, _⟩ := Q1.out
      obtain ⟨z3, z4, _, _⟩ := Q2.out
      obtain ⟨z5, z6, _, _⟩ := Q3.out
      obtain ⟨z7, z8, _, _⟩ := Q4.out
      first
        | (simp [results, Tryz.results62, go_sem, z1, z2, z3, z4]; done)
        | (simp [results, Tryz.results62, go_sem, z5, z6, z7, z8]; done)
    · repeat (first | exact hbel.out | refine ext_set ?_ (by first | (simp; done) | (simp; omega)) _ | refine ext_drew ?_)
set_option maxRecDepth 100000 in
set_option maxHeartbeats 1000000 in
theorem l18Sides_near (n d most : Int) (w : World) (h : d ≤ most) :
    Calls Tryz.prog 95 #[fracV n d, .int .i64 most] w fun e w' => e = .returned (.tuple #[fracV n d, fracV n d]) ∧ Below w.heap.size w w' := by
  unfold fracV
  have h1 := B2.next (B2.next (B2.new w n d 41) (ext1 _ (.cells #[.int .i64 0, .int .i64 0] 41))) (ext1 _ (.cells #[.int .i64 0, .int .i64 0] 41))
  have h2 := B2.next (B2.new_at (g := w.heap.size + 1) (W := w.alloc (.cells #[.int .i64 n, .int .i64 d] 41)) 0 0 41 (by simp)) (ext1 _ (.cells #[.int .i64 0, .int .i64 0] 41))
  have h3 := B2.new_at (g := w.heap.size + 1 + 1) (W := (w.alloc (.cells #[.int .i64 n, .int .i64 d] 41)).alloc (.cells #[.int .i64 0, .int .i64 0] 41)) 0 0 41 (by simp)
  have hbel := ext_alloc (ext_alloc (ext1 w (.cells #[.int .i64 n, .int .i64 d] 41)) (.cells #[.int .i64 0, .int .i64 0] 41)) (.cells #[.int .i64 0, .int .i64 0] 41)
  have Q1 := Lib.hid (((h2.set n d).far (i := w.heap.size + 1 + 1) (j := 0) (by omega) (.int .i64 n)).far (i := w.heap.size + 1 + 1) (j := 1) (by omega) (.int .i64 d))
  have Q2 := Lib.hid (((h3.far (i := w.heap.size + 1) (j := 0) (by omega) (.int .i64 n)).far (i := w.heap.size + 1) (j := 1) (by omega) (.int .i64 d)).set n d)
  have Q3 := Lib.hid ((h2.far (i := w.heap.size + 1 + 1) (j := 0) (by omega) (.int .i64 n)).far (i := w.heap.size + 1 + 1) (j := 1) (by omega) (.int .i64 d) |>.set n d)
  have Q4 := Lib.hid (((h3.set n d).far (i := w.heap.size + 1) (j := 0) (by omega) (.int .i64 n)).far (i := w.heap.size + 1) (j := 1) (by omega) (.int .i64 d))
  have H1 := Lib.hid h1
  have H2 := Lib.hid h2
  have H3 := Lib.hid h3
  have hbel := Lib.hid hbel
  clear h1 h2 h3
  go_enter Tryz.func95, Tryz.ntmps95
  go_wp2_with fail
  generalize ((w.alloc (.cells #[.int .i64 n, .int .i64 d] 41)).alloc (.cells #[.int .i64 0, .int .i64 0] 41)).alloc (.cells #[.int .i64 0, .int .i64 0] 41) = W at *
  obtain ⟨r0, r1, _, _⟩ := H1.out
  obtain ⟨y0, y1, yf1, _⟩ := H2.out
  obtain ⟨v0, v1, vf1, _⟩ := H3.out
  have y10 := yf1 0
  have y11 := yf1 1
  have v10 := vf1 0
  have v11 := vf1 1
  clear yf1 vf1
  have ne1 : ¬ (w.heap.size = w.heap.size + 1) := by omega
  have ne2 : ¬ (w.heap.size = w.heap.size + 1 + 1) := by omega
  have ne3 : ¬ (w.heap.size + 1 = w.heap.size) := by omega
  have ne4 : ¬ (w.heap.size + 1 + 1 = w.heap.size) := by omega
  go_region_held3 (fun w' => w'.cell? ⟨w.heap.size, 0, none⟩ = some (.int .i64 n) ∧ w'.cell? ⟨w.heap.size, 1, none⟩ = some (.int .i64 d))
    (go_keep) (fail)
  all_goals
    go_wp2
    refine bodyPost_ret (v := .tuple #[.agg #[.int .i64 n, .int .i64 d], .agg #[.int .i64 n, .int .i64 d]]) ?_ rfl ⟨rfl, ?_⟩
    · obtain ⟨z1, z2, _, _⟩ := Q1.out
      obtain ⟨z3, z4, _, _⟩ := Q2.out
      obtain ⟨z5, z6, _, _⟩ := Q3.out
      obtain ⟨z7, z8, _, _⟩ := Q4.out
      first
        | (simp [results, Tryz.results95, go_sem, z1, z2, z3, z4]; done)
        | (simp [results, Tryz.results95, go_sem, z5, z6, z7, z8]; done)
    · repeat (first | exact hbel.out | refine ext_set ?_ (by first | (simp; done) | (simp; omega)) _ | refine ext_drew ?_)
/-- A fraction is small. -/
def smallFB (n d : Int) : Bool := inR n (-1000000) 1000000 && decide (d ≤ 1000000)
/-- The code of fractions. -/
def bestC (f : Bool) (ps : List (Int × Int)) : Int := if (ps.all fun p => fracOk p.1 p.2) = true then (if (f && ps.all fun p => smallFB p.1 p.2) = true then 0 else 2) else 1
theorem l18Small_any (n d : Int) (w : World) : Calls Tryz.prog 94 #[fracV n d] w fun e w' => e = .returned (.bool (smallFB n d)) ∧ Below w.heap.size w w' := by
  unfold fracV smallFB
  cases h1 : inR n (-1000000) 1000000
  all_goals
    go_enter Tryz.func94, Tryz.ntmps94
    go_wp2_with (go_at_call 38; (with_reducible refine (l00In_is h1 _).mono ?_); rintro e w' ⟨rfl, rfl⟩)
    go_ret
    exact ⟨rfl, ext1 _ _⟩
theorem smalls_snoc {f : Bool} {ps : List (Int × Int)} {k : Nat} {n d : Int} (h : ps[k]? = some (n, d)) : (f && (ps.take (k + 1)).all fun p => smallFB p.1 p.2) = ((f && (ps.take k).all fun p => smallFB p.1 p.2) && smallFB n d) := by
  rw [List.take_add_one, h]
  simp [Bool.and_assoc]
theorem allT {α : Type} {p : α → Bool} {xs : List α} {k : Nat} {x : α} (h : (xs.take k).all p = true) (hx : xs[k]? = some x) (hp : p x = true) : (xs.take (k + 1)).all p = true := by
  rw [List.take_add_one, hx]; simp_all
theorem allN {α : Type} {p : α → Bool} {xs : List α} {k : Nat} {x : α} (hx : xs[k]? = some x) (hp : p x = false) : xs.all p = false :=
  Bool.eq_false_iff.2 fun h => by have := List.all_eq_true.1 h x (List.mem_of_getElem? hx); simp_all
set_option maxHeartbeats 1000000 in
theorem checkBest_any (f : Bool) (A : Option Addr) (c : Nat) (ps : List (Int × Int)) (w : World) (hx : Rd (Value.int .i64) w w.heap.size A (frL ps)) (hl : ps.length ≤ 1000000) :
    Calls Tryz.prog 73 #[.bool f, .slice A ps.length c] w fun e w' => e = .returned (.int .i64 (bestC f ps)) ∧ Below w.heap.size w w' := by
  generalize hR : bestC f ps = R
  have HR := Lib.hid hR
  have hfl := frL_length ps
  have HX := Lib.hid hx
  clear hR hx
  go_enter Tryz.func73, Tryz.ntmps73
  go_wp2_with fail
  go_loopw [0, 9] (fun b t wr => ∃ (k : Nat) (g : Bool), k ≤ ps.length ∧ t = .int .i64 k ∧ b = .bool g ∧ Hid (g = (f && (ps.take k).all fun p => smallFB p.1 p.2)) ∧ Hid (((ps.take k).all fun p => fracOk p.1 p.2) = true) ∧ Hid (Below w.heap.size w wr)) (fun _ t _ => ps.length - (intOf t).toNat)
  case atStart => exact ⟨0, f, by omega, rfl, rfl, by simp [Hid], by simp [Hid], Below.refl _ _⟩
  case round =>
    obtain ⟨k, g, hk, rfl, rfl, HG, HO, HB⟩ := hrel
    by_cases hlt : k < ps.length
    · obtain ⟨b, off, rfl, hb, hc⟩ := HX.out (by omega)
      obtain ⟨⟨n, d⟩, hpk⟩ : ∃ p, ps[k]? = some p := ⟨_, List.getElem?_eq_getElem hlt⟩
      obtain ⟨g0, g1⟩ := frL_get hpk
      have c0 := (HB.out.cell (p := ⟨b, off + k * 2, none⟩) hb).trans (hc _ _ g0)
      have c1 := hc _ _ g1
      rw [← Nat.add_assoc] at c1
      have c1 := (HB.out.cell (p := ⟨b, off + k * 2 + 1, none⟩) hb).trans c1
      have i0 : (0 : Int) ≤ (k : Int) := by omega
      have i1 : (k : Int) < (ps.length : Int) := by omega
      have HP := Lib.hid hpk
      clear hc hpk g0 g1 hfl
      cases hok : fracOk n d
      · have HE : Hid (R = 1) := by
          have h := HR.out
          rw [bestC, if_neg] at h
          · exact h.symm
          · rw [allN HP.out (by exact hok)]; exact Bool.false_ne_true
        have HV : Hid (∀ W, Calls Tryz.prog 122 #[fracV n d] W fun e w' => e = .returned (.bool false) ∧ Below W.heap.size W w') := fun W => by
          have := ValidFraction_any n d W
          rwa [hok] at this
        clear hok
        go_wp2_with fail
        refine (HV.out _).mono ?_
        rintro e w1 ⟨rfl, hb1⟩
        go_wp2
        go_ret
        exact ⟨ret_int HE.out.symm, HB.out.trans ((ext_trans (ext1 _ _) hb1).mono HB.out.size)⟩
      · have HV : Hid (∀ W, Calls Tryz.prog 122 #[fracV n d] W fun e w' => e = .returned (.bool true) ∧ Below W.heap.size W w') := fun W => by
          have := ValidFraction_any n d W
          rwa [hok] at this
        have HO2 : Hid (((ps.take (k + 1)).all fun p => fracOk p.1 p.2) = true) := allT HO.out HP.out hok
        clear hok
        have B0 := Lib.hid (B2.new wr n d 41)
        go_wp2_with fail
        refine (HV.out _).mono ?_
        rintro e w1 ⟨rfl, hb1⟩
        have HB1 := Lib.hid (HB.out.trans ((ext_trans (ext1 _ _) hb1).mono HB.out.size))
        obtain ⟨r0, r1, _, _⟩ := B0.out.next hb1
        clear c0 c1 hb1
        cases g
        · go_wp2
          go_roundw
          case rel => exact ⟨k + 1, false, by omega, by go_num, rfl, by unfold Hid; rw [smalls_snoc HP.out, ← HG.out]; simp, HO2.out, HB1.out⟩
          case measure => simp [intOf]; omega
        · cases h1 : inR n (-1000000) 1000000
          all_goals
            go_wp2_with (go_at_call 70; (with_reducible refine (within_is h1 _).mono ?_); rintro e w' ⟨rfl, rfl⟩)
            go_roundw
            case rel => exact ⟨k + 1, _, by omega, by go_num, rfl, by unfold Hid; rw [smalls_snoc HP.out, ← HG.out]; simp [smallFB, h1], HO2.out, HB1.out⟩
            case measure => simp [intOf]; omega
    · have HE : Hid (R = if g = true then 0 else 2) := by
        have h := HR.out
        have h2 := HO.out
        have h3 := HG.out
        rw [List.take_of_length_le (by omega)] at h2 h3
        rw [bestC, if_pos h2, ← h3] at h
        exact h.symm
      cases g
      all_goals
        go_wp2
        go_ret
        exact ⟨ret_int HE.out.symm, HB.out⟩
set_option maxHeartbeats 1000000 in
theorem l18Code_any (A : Option Addr) (c : Nat) (ps : List (Int × Int)) (w : World) (hx : Rd (Value.int .i64) w w.heap.size A (frL ps)) (hl : ps.length ≤ 1000000) :
    Calls Tryz.prog 44 #[.slice A ps.length c] w fun e w' => e = .returned (.int .i64 (bestC true ps)) ∧ Below w.heap.size w w' := by
  generalize hR : bestC true ps = R
  have HR := Lib.hid hR
  have hfl := frL_length ps
  have HX := Lib.hid hx
  clear hR hx
  go_enter Tryz.func44, Tryz.ntmps44
  go_wp2_with fail
  go_loopw [3] (fun t wr => ∃ (k : Nat), k ≤ ps.length ∧ t = .int .i64 k ∧ Hid (((ps.take k).all fun p => fracOk p.1 p.2) = true) ∧ Hid (Below w.heap.size w wr)) (fun t _ => ps.length - (intOf t).toNat)
  case atStart => exact ⟨0, by omega, rfl, by simp [Hid], Below.refl _ _⟩
  case round =>
    obtain ⟨k, hk, rfl, HO, HB⟩ := hrel
    by_cases hlt : k < ps.length
    · obtain ⟨b, off, rfl, hb, hc⟩ := HX.out (by omega)
      obtain ⟨⟨n, d⟩, hpk⟩ : ∃ p, ps[k]? = some p := ⟨_, List.getElem?_eq_getElem hlt⟩
      obtain ⟨g0, g1⟩ := frL_get hpk
      have c0 := (HB.out.cell (p := ⟨b, off + k * 2, none⟩) hb).trans (hc _ _ g0)
      have c1 := hc _ _ g1
      rw [← Nat.add_assoc] at c1
      have c1 := (HB.out.cell (p := ⟨b, off + k * 2 + 1, none⟩) hb).trans c1
      have i0 : (0 : Int) ≤ (k : Int) := by omega
      have i1 : (k : Int) < (ps.length : Int) := by omega
      have HP := Lib.hid hpk
      clear hc hpk g0 g1 hfl
      cases hok : fracOk n d
      · have HE : Hid (R = 1) := by
          have h := HR.out
          rw [bestC, if_neg] at h
          · exact h.symm
          · rw [allN HP.out (by exact hok)]; exact Bool.false_ne_true
        have HV : Hid (∀ W, Calls Tryz.prog 93 #[fracV n d] W fun e w' => e = .returned (.bool false) ∧ Below W.heap.size W w') := fun W => by
          have := l02Ok_any n d W
          rwa [hok] at this
        clear hok
        go_wp2_with fail
        refine (HV.out _).mono ?_
        rintro e w1 ⟨rfl, hb1⟩
        go_wp2
        go_ret
        exact ⟨ret_int HE.out.symm, HB.out.trans (hb1.mono HB.out.size)⟩
      · have HV : Hid (∀ W, Calls Tryz.prog 93 #[fracV n d] W fun e w' => e = .returned (.bool true) ∧ Below W.heap.size W w') := fun W => by
          have := l02Ok_any n d W
          rwa [hok] at this
        have HO2 : Hid (((ps.take (k + 1)).all fun p => fracOk p.1 p.2) = true) := allT HO.out HP.out hok
        clear hok
        go_wp2_with fail
        refine (HV.out _).mono ?_
        rintro e w1 ⟨rfl, hb1⟩
        go_wp2
        go_roundw
        case rel => exact ⟨k + 1, by omega, by go_num, HO2.out, HB.out.trans (hb1.mono HB.out.size)⟩
        case measure => simp [intOf]; omega
    · have HO1 : Hid ((ps.all fun p => fracOk p.1 p.2) = true) := by
        have h2 := HO.out
        rwa [List.take_of_length_le (by omega)] at h2
      clear HO
      obtain ⟨wo, rfl⟩ : ∃ wo : World, wo = wr := ⟨_, rfl⟩
      go_wp2_with fail
      go_loopw [4] (fun t wr => ∃ (k : Nat), k ≤ ps.length ∧ t = .int .i64 k ∧ Hid (((ps.take k).all fun p => smallFB p.1 p.2) = true) ∧ Hid (Below w.heap.size w wr)) (fun t _ => ps.length - (intOf t).toNat)
      case atStart => exact ⟨0, by omega, rfl, by simp [Hid], HB.out⟩
      case round =>
        obtain ⟨k, hk, rfl, HO, HB⟩ := hrel
        by_cases hlt : k < ps.length
        · obtain ⟨b, off, rfl, hb, hc⟩ := HX.out (by omega)
          obtain ⟨⟨n, d⟩, hpk⟩ : ∃ p, ps[k]? = some p := ⟨_, List.getElem?_eq_getElem hlt⟩
          obtain ⟨g0, g1⟩ := frL_get hpk
          have c0 := (HB.out.cell (p := ⟨b, off + k * 2, none⟩) hb).trans (hc _ _ g0)
          have c1 := hc _ _ g1
          rw [← Nat.add_assoc] at c1
          have c1 := (HB.out.cell (p := ⟨b, off + k * 2 + 1, none⟩) hb).trans c1
          have i0 : (0 : Int) ≤ (k : Int) := by omega
          have i1 : (k : Int) < (ps.length : Int) := by omega
          have HP := Lib.hid hpk
          clear hc hpk g0 g1 hfl
          cases hok : smallFB n d
          · have HE : Hid (R = 2) := by
              have h := HR.out
              rw [bestC, if_pos HO1.out, if_neg] at h
              · exact h.symm
              · rw [allN HP.out (by exact hok)]; simp
            have HV : Hid (∀ W, Calls Tryz.prog 94 #[fracV n d] W fun e w' => e = .returned (.bool false) ∧ Below W.heap.size W w') := fun W => by
              have := l18Small_any n d W
              rwa [hok] at this
            clear hok
            go_wp2_with fail
            refine (HV.out _).mono ?_
            rintro e w1 ⟨rfl, hb1⟩
            go_wp2
            go_ret
            exact ⟨ret_int HE.out.symm, HB.out.trans (hb1.mono HB.out.size)⟩
          · have HV : Hid (∀ W, Calls Tryz.prog 94 #[fracV n d] W fun e w' => e = .returned (.bool true) ∧ Below W.heap.size W w') := fun W => by
              have := l18Small_any n d W
              rwa [hok] at this
            have HO2 : Hid (((ps.take (k + 1)).all fun p => smallFB p.1 p.2) = true) := allT HO.out HP.out hok
            clear hok
            go_wp2_with fail
            refine (HV.out _).mono ?_
            rintro e w1 ⟨rfl, hb1⟩
            go_wp2
            go_roundw
            case rel => exact ⟨k + 1, by omega, by go_num, HO2.out, HB.out.trans (hb1.mono HB.out.size)⟩
            case measure => simp [intOf]; omega
        · have HE : Hid (R = 0) := by
            have h := HR.out
            have h2 := HO.out
            rw [List.take_of_length_le (by omega)] at h2
            rw [bestC, if_pos HO1.out, if_pos (by rw [h2]; rfl)] at h
            exact h.symm
          go_wp2
          go_ret
          exact ⟨ret_int HE.out.symm, HB.out⟩
end Go.Proofs.YtpgkellmhlmjeaaGreatDoor
namespace Go.Proofs.YtpgkellmhlmjeaaGreatDoor
/-- Along the surds of a root: whether the first comes again (fuel, then P - 1, Q - 1). -/
noncomputable def cyc (r d e : Nat) : Nat → Nat → Nat → Bool :=
  Nat.rec (fun _ _ => false) (fun _ ih p q =>
    Nat.rec false (fun p' _ => Nat.rec false (fun q' _ => Bool.rec (ih p' q') true (Nat.beq (p' + 1) r && Nat.beq (q' + 1) e)) ((d - (p' + 1) * (p' + 1)) / (q + 1))) ((p + 1 + r) / (q + 1) * (q + 1) - (p + 1)))
noncomputable def cycJ (r j : Nat) : Bool := Nat.rec false (fun d' _ => cyc r (d' + 1) j 398 (r - 1) (j - 1)) (r * r + j)
noncomputable def allJ (r : Nat) : Nat → Bool := Nat.rec true (fun j ih => Bool.rec false ih (cycJ r (j + 1)))
noncomputable def allR (a : Nat) : Nat → Bool := Nat.rec true (fun i ih => Bool.rec false ih (allJ (a + i) (2 * (a + i))))
theorem cy1 : allR 1 30 = true := by decide +kernel
theorem cy2 : allR 31 20 = true := by decide +kernel
theorem cy3 : allR 51 14 = true := by decide +kernel
theorem cy4 : allR 65 11 = true := by decide +kernel
theorem cy5 : allR 76 8 = true := by decide +kernel
theorem cy6 : allR 84 6 = true := by decide +kernel
theorem cy7 : allR 90 5 = true := by decide +kernel
theorem cy8 : allR 95 5 = true := by decide +kernel
theorem boolrec {c b : Bool} (h : (Bool.rec false b c : Bool) = true) : c = true ∧ b = true := by cases c <;> simp_all
theorem allR_at (a : Nat) : ∀ (n i : Nat), allR a n = true → i < n → allJ (a + i) (2 * (a + i)) = true
  | n + 1, i, h, hi => by
    obtain ⟨h1, h2⟩ := boolrec (show (Bool.rec false (allR a n) (allJ (a + n) (2 * (a + n))) : Bool) = true from h)
    by_cases e : i = n
    · subst e; exact h1
    · exact allR_at a n i h2 (by omega)
theorem allJ_at (r : Nat) : ∀ (n j : Nat), allJ r n = true → 1 ≤ j → j ≤ n → cycJ r j = true
  | 0, j, _, h1, h2 => by omega
  | n + 1, j, h, h1, h2 => by
    obtain ⟨g1, g2⟩ := boolrec (show (Bool.rec false (allJ r n) (cycJ r (n + 1)) : Bool) = true from h)
    by_cases e : j = n + 1
    · subst e; exact g1
    · exact allJ_at r n j g2 h1 (by omega)
theorem cycJ_all {r j : Nat} (h1 : 1 ≤ r) (h2 : r ≤ 99) (h3 : 1 ≤ j) (h4 : j ≤ 2 * r) : cycJ r j = true := by
  refine allJ_at r (2 * r) j ?_ h3 h4
  by_cases c1 : r ≤ 30
  · have := allR_at 1 30 (r - 1) cy1 (by omega); rwa [show 1 + (r - 1) = r by omega] at this
  by_cases c2 : r ≤ 50
  · have := allR_at 31 20 (r - 31) cy2 (by omega); rwa [show 31 + (r - 31) = r by omega] at this
  by_cases c3 : r ≤ 64
  · have := allR_at 51 14 (r - 51) cy3 (by omega); rwa [show 51 + (r - 51) = r by omega] at this
  by_cases c4 : r ≤ 75
  · have := allR_at 65 11 (r - 65) cy4 (by omega); rwa [show 65 + (r - 65) = r by omega] at this
  by_cases c5 : r ≤ 83
  · have := allR_at 76 8 (r - 76) cy5 (by omega); rwa [show 76 + (r - 76) = r by omega] at this
  by_cases c6 : r ≤ 89
  · have := allR_at 84 6 (r - 84) cy6 (by omega); rwa [show 84 + (r - 84) = r by omega] at this
  by_cases c7 : r ≤ 94
  · have := allR_at 90 5 (r - 90) cy7 (by omega); rwa [show 90 + (r - 90) = r by omega] at this
  · have := allR_at 95 5 (r - 95) cy8 (by omega); rwa [show 95 + (r - 95) = r by omega] at this
end Go.Proofs.YtpgkellmhlmjeaaGreatDoor
