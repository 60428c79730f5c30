/- The nearest fractions on both sides, the reference's: the walks. No condition but those that each theorem names. -/
import Derived.Test.YtnpdpippnhikkaaSideW
import Derived.Test.YtnpdpippnhikkaaMinW
namespace Go.Proofs.Ytnpdpippnhikkaa
open Go.RowKit Go.Sort

theorem l18Off_any (n d a b : Int) (w : World) (hn : big6 n) (hd : big6 d) (ha : big6 a) (hb : big6 b) :
    Calls Try.prog 156 #[fracV n d, fracV a b] w fun e w' => e = .returned (.int .i64 (errV n d a b)) ∧ Below w.heap.size w w' := by
  obtain ⟨p1, p2, p3, p4, _, _⟩ := errV_bd hn hd ha hb
  unfold fracV
  go_enter Try.func156, Try.ntmps156
  go_wp2_with fail
  refine (l02Size_any (n * b - a * d) _ (by omega) (by omega)).mono ?_
  rintro e w' ⟨rfl, rfl⟩
  go_wp2
  go_ret
  exact ⟨rfl, ext_alloc (ext_alloc (Below.refl _ _) _) _⟩
theorem l02Sign_any (a b c d : Int) (w : World) (h1 : -1000000000000000000 ≤ a * d) (h2 : a * d ≤ 1000000000000000000) (h3 : -1000000000000000000 ≤ c * b) (h4 : c * b ≤ 1000000000000000000) :
    Calls Try.prog 204 #[fracV a b, fracV c d] w fun e w' => e = .returned (.int .i64 (cmp3 (a * d) (c * b))) ∧ Below w.heap.size w w' := by
  unfold fracV
  by_cases x1 : a * d < c * b
  · have e1 : cmp3 (a * d) (c * b) = -1 := by rw [cmp3, if_pos x1]
    rw [e1]
    clear e1
    go_enter Try.func204, Try.ntmps204
    go_wp2
    go_ret
    exact ⟨rfl, ext_alloc (ext_alloc (Below.refl _ _) _) _⟩
  · by_cases x2 : c * b < a * d
    · have e1 : cmp3 (a * d) (c * b) = 1 := by rw [cmp3, if_neg x1, if_pos x2]
      rw [e1]
      clear e1
      go_enter Try.func204, Try.ntmps204
      go_wp2
      go_ret
      exact ⟨rfl, ext_alloc (ext_alloc (Below.refl _ _) _) _⟩
    · have e1 : cmp3 (a * d) (c * b) = 0 := by rw [cmp3, if_neg x1, if_neg x2]
      rw [e1]
      clear e1
      go_enter Try.func204, Try.ntmps204
      go_wp2
      go_ret
      exact ⟨rfl, ext_alloc (ext_alloc (Below.refl _ _) _) _⟩
theorem l02Less_any (a b c d : Int) (w : World) (h1 : -1000000000000000000 ≤ a * d) (h2 : a * d ≤ 1000000000000000000) (h3 : -1000000000000000000 ≤ c * b) (h4 : c * b ≤ 1000000000000000000) :
    Calls Try.prog 155 #[fracV a b, fracV c d] w fun e w' => e = .returned (.bool (decide (a * d < c * b))) ∧ Below w.heap.size w w' := by
  have HS := Lib.hid (l02Sign_any a b c d · h1 h2 h3 h4)
  have he : decide (cmp3 (a * d) (c * b) < 0) = decide (a * d < c * b) := by rw [Bool.eq_iff_iff]; simp [cmp3_neg]
  rw [← he]
  clear he
  generalize cmp3 (a * d) (c * b) = v at *
  unfold fracV at *
  go_enter Try.func155, Try.ntmps155
  go_wp2_with fail
  refine (HS.out _).mono ?_
  rintro e w1 ⟨rfl, hb1⟩
  obtain ⟨hc1, hf1⟩ := bcell hb1
  have hy1 := hb1.size
  (try simp at hy1)
  have hz1_0 : w.heap.size < w1.heap.size := by omega
  go_wp2
  go_ret
  refine ⟨rfl, ?_⟩
  repeat (first | exact Below.refl _ _ | assumption | refine ext_alloc ?_ _ | refine ext_drew ?_ | refine ext_trans ?_ (by assumption))
set_option maxRecDepth 100000 in
set_option maxHeartbeats 4000000 in
theorem l18Sides_far (n d most A B C E : Int) (w : World) (F : Fr n d most) (S : Sides n d most A B C E) :
    Calls Try.prog 80 #[fracV n d, .int .i64 most] w fun e w' => e = .returned (.tuple #[fracV A B, fracV C E]) ∧ Below w.heap.size w w' := by
  obtain ⟨f1, f2, f3, f4, f5, _⟩ := id F
  have HF := Lib.hid F
  have HS := Lib.hid S
  have HN := Lib.hid (Nb.start F)
  have HQ := Lib.hid (l02Floor_any n d · (by omega) (by omega) (by omega) (by omega))
  obtain ⟨q1, q2⟩ := ediv_bd (n := n) (g := d) (M := 1000000) (by omega) (by omega) (by omega)
  clear F S
  generalize n / d = q at *
  unfold fracV at *
  go_enter Try.func80, Try.ntmps80
  go_wp2_with fail
  refine (HQ.out _).mono ?_
  rintro e w' ⟨rfl, rfl⟩
  go_wp2_with fail
  have HW := Lib.hid (SW.start w n d q 1 (q + 1) 1 29)
  generalize ((((w.alloc (.cells #[.int .i64 n, .int .i64 d] 29)).alloc (.cells #[.int .i64 0, .int .i64 0] 29)).alloc (.cells #[.int .i64 0, .int .i64 0] 29)).alloc (.cells #[.int .i64 q, .int .i64 1] 29)).alloc (.cells #[.int .i64 (q + 1), .int .i64 1] 29) = W at *
  go_loopw [9] (fun _ wr => ∃ a b c e : Int, Hid (Nb n d most a b c e) ∧ Hid (SW w n d a b c e wr)) (fun _ wr => mS w most wr)
  case atStart => exact ⟨_, _, _, _, HN.out, HW.out⟩
  case round =>
    obtain ⟨a, b, c, e, HB, HW1⟩ := hrel
    clear HW HQ HN
    obtain ⟨ba, bb, bc, be⟩ := HB.out.bd HF.out
    have nb := HB.out.b1
    have nb2 := HB.out.b2
    have ne := HB.out.e1
    have ne2 := HB.out.e2
    obtain ⟨s1, ⟨r0, r1, _, _⟩, ⟨y0, y1, yf1, _⟩, ⟨v0, v1, vf1, _⟩, ⟨r2, r3, _, _⟩, r4, r5, _, _⟩ := HW1.out
    by_cases hle : b + e ≤ most
    · clear y0 y1 yf1 v0 v1 vf1
      have HE1 := Lib.hid (l18Off_any n d a b · ⟨f1, f2⟩ ⟨by omega, by omega⟩ ba bb)
      have HE2 := Lib.hid (l18Off_any n d c e · ⟨f1, f2⟩ ⟨by omega, by omega⟩ bc be)
      obtain ⟨x1, x2, y1, y2⟩ := errV_pos HF.out HB.out
      obtain ⟨a1, a2⟩ := id ba
      obtain ⟨c1, c2⟩ := id bc
      obtain ⟨m1, m2⟩ := mul_bd (x := a + c) (y := d) (M := 2000000) (N := 1000000) (by omega) (by omega) (by omega) (by omega) (by omega) (by omega)
      obtain ⟨m3, m4⟩ := mul_bd (x := n) (y := b + e) (M := 1000000) (N := 2000000) (by omega) (by omega) (by omega) (by omega) (by omega) (by omega)
      have HL : Hid (∀ W, Calls Try.prog 155 #[.agg #[.int .i64 (a + c), .int .i64 (b + e)], .agg #[.int .i64 n, .int .i64 d]] W fun e' w' => e' = .returned (.bool (decide ((a + c) * d < n * (b + e)))) ∧ Below W.heap.size W w') := fun W => l02Less_any _ _ _ _ W (by omega) (by omega) (by omega) (by omega)
      clear m1 m2 m3 m4
      go_wp2_with fail
      refine (HL.out _).mono ?_
      rintro e' w3 ⟨rfl, hb3⟩
      have HW3 := Lib.hid ((HW1.out.next (ext1 wr (.cells #[.int .i64 (a + c), .int .i64 (b + e)] 29))).next hb3)
      clear s1 r0 r1 r2 r3 r4 r5 hb3 HL
      obtain ⟨s1, ⟨r0, r1, _, _⟩, _, _, ⟨r2, r3, rf1, _⟩, r4, r5, rg1, _⟩ := HW3.out
      have rf10 := rf1 0
      have rf11 := rf1 1
      have rg10 := rg1 0
      have rg11 := rg1 1
      clear rf1 rg1
      rcases HB.out.side HF.out hle with ⟨hs, hk1⟩ | ⟨hs, hk1⟩
      · obtain ⟨k, a', b', HK, hk, ha, hb, hx, k0, k1, g1, g2, l1, l2, HB2, ba', bb'⟩ := HB.out.goLow HF.out
        have HM := Lib.hid (fun W => l00Min_any (errV n d a b / errV n d c e) ((most - b) / e) k hk W)
        generalize errV n d a b = x at *
        generalize errV n d c e = y at *
        obtain ⟨u, hu⟩ : ∃ u, x / y = u := ⟨_, rfl⟩
        obtain ⟨v, hv⟩ : ∃ v, (most - b) / e = v := ⟨_, rfl⟩
        rw [hu, hv] at HM
        rw [hu] at g1
        rw [hv] at g2
        obtain ⟨a3, a4⟩ := ba'
        obtain ⟨b3, b4⟩ := bb'
        have p1 : -2000000 ≤ k * c ∧ k * c ≤ 2000000 := by omega
        have p2 : -2000000 ≤ k * e ∧ k * e ≤ 2000000 := by omega
        obtain ⟨p1, p1'⟩ := p1
        obtain ⟨p2, p2'⟩ := p2
        have HMV := Lib.hid (moves (b' := b') (e' := e) (m := 0) most hb (by omega) (HB2.out.b1) ne k0 (Int.le_refl _) (by have := HK.out; omega) HB2.out.b2 ne2)
        clear hk hle
        have q0 : ∀ x os, (grow (redrawn w3 x) os).cell? ⟨w.heap.size, 0, none⟩ = some (.int .i64 n) := cell_regrown r0
        have q1 : ∀ x os, (grow (redrawn w3 x) os).cell? ⟨w.heap.size, 1, none⟩ = some (.int .i64 d) := cell_regrown r1
        have q2 : ∀ x os, (grow (redrawn w3 x) os).cell? ⟨w.heap.size + 1 + 1 + 1, 0, none⟩ = some (.int .i64 a) := cell_regrown r2
        have q3 : ∀ x os, (grow (redrawn w3 x) os).cell? ⟨w.heap.size + 1 + 1 + 1, 1, none⟩ = some (.int .i64 b) := cell_regrown r3
        have q4 : ∀ x os, (grow (redrawn w3 x) os).cell? ⟨w.heap.size + 1 + 1 + 1 + 1, 0, none⟩ = some (.int .i64 c) := cell_regrown r4
        have q5 : ∀ x os, (grow (redrawn w3 x) os).cell? ⟨w.heap.size + 1 + 1 + 1 + 1, 1, none⟩ = some (.int .i64 e) := cell_regrown r5
        clear s1 r0 r1 r2 r3 r4 r5
        go_wp2_with fail
        refine wp_region_quiet_below (by kernel_rfl) (by kernel_rfl) ?_
        repeat (first | go_big_quiet_step ((first | (with_reducible exact Calls.regrown_of (HE1.out _)) | (with_reducible exact Calls.regrown_of (HE2.out _)) | (with_reducible exact regrown_same (HM.out _)))) | quiet_step ((first | (with_reducible exact Calls.regrown_of (HE1.out _)) | (with_reducible exact Calls.regrown_of (HE2.out _)) | (with_reducible exact regrown_same (HM.out _)))))
        refine wpQuiet_nil ?_
        intro _ hw'
        obtain ⟨⟨dq, oq⟩, hw''⟩ := hw'
        subst hw''
        obtain ⟨w4, hW4⟩ : ∃ Wq, Wq = grow (redrawn w3 dq) oq := ⟨_, rfl⟩
        have hb4 : Below w3.heap.size w3 w4 := by rw [hW4]; exact below_regrown _ _ _
        rw [← hW4]
        clear hW4
        obtain ⟨hc4, hf4⟩ := bcell hb4
        have hy4 := hb4.size
        have HW4 := Lib.hid (HW3.out.next hb4)
        clear hb4 hc4 hf4 hy4 q0 q1 q2 q3 q4 q5 HE1 HE2 HM rf10 rf11 rg10 rg11
        obtain ⟨s1, ⟨r0, r1, _, _⟩, _, _, ⟨r2, r3, rf1, _⟩, r4, r5, rg1, _⟩ := HW4.out
        have rf10 := rf1 0
        have rf11 := rf1 1
        clear rf1 rg1
        go_wp2_with fail
        refine ⟨⟨a', b', c, e, HB2.out, HW4.out.low a' b'⟩, ?_⟩
        rw [(HW4.out.low a' b').ms most, HW1.out.ms most]
        exact HMV.out
      · obtain ⟨k, a', b', HK, hk, ha, hb, k0, k1, g1, g2, HB2, ba', bb'⟩ := HB.out.goHigh HF.out
        have HM := Lib.hid (fun W => l00Min_any (errV n d c e / errV n d a b) ((most - e) / b) k hk W)
        generalize errV n d a b = x at *
        generalize errV n d c e = y at *
        obtain ⟨u, hu⟩ : ∃ u, y / x = u := ⟨_, rfl⟩
        obtain ⟨v, hv⟩ : ∃ v, (most - e) / b = v := ⟨_, rfl⟩
        rw [hu, hv] at HM
        rw [hu] at g1
        rw [hv] at g2
        obtain ⟨a3, a4⟩ := ba'
        obtain ⟨b3, b4⟩ := bb'
        have p1 : -2000000 ≤ k * a ∧ k * a ≤ 2000000 := by omega
        have p2 : -2000000 ≤ k * b ∧ k * b ≤ 2000000 := by omega
        obtain ⟨p1, p1'⟩ := p1
        obtain ⟨p2, p2'⟩ := p2
        have HMV := Lib.hid (moves (b := e) (e := b) (b' := b') (e' := b) (m := 0) most hb (by omega) (HB2.out.e1) nb k0 (Int.le_refl _) (by have := HK.out; omega) HB2.out.e2 nb2)
        clear hk hle
        have q0 : ∀ x os, (grow (redrawn w3 x) os).cell? ⟨w.heap.size, 0, none⟩ = some (.int .i64 n) := cell_regrown r0
        have q1 : ∀ x os, (grow (redrawn w3 x) os).cell? ⟨w.heap.size, 1, none⟩ = some (.int .i64 d) := cell_regrown r1
        have q2 : ∀ x os, (grow (redrawn w3 x) os).cell? ⟨w.heap.size + 1 + 1 + 1, 0, none⟩ = some (.int .i64 a) := cell_regrown r2
        have q3 : ∀ x os, (grow (redrawn w3 x) os).cell? ⟨w.heap.size + 1 + 1 + 1, 1, none⟩ = some (.int .i64 b) := cell_regrown r3
        have q4 : ∀ x os, (grow (redrawn w3 x) os).cell? ⟨w.heap.size + 1 + 1 + 1 + 1, 0, none⟩ = some (.int .i64 c) := cell_regrown r4
        have q5 : ∀ x os, (grow (redrawn w3 x) os).cell? ⟨w.heap.size + 1 + 1 + 1 + 1, 1, none⟩ = some (.int .i64 e) := cell_regrown r5
        clear s1 r0 r1 r2 r3 r4 r5
        go_wp2_with fail
        refine wp_region_quiet_below (by kernel_rfl) (by kernel_rfl) ?_
        repeat (first | go_big_quiet_step ((first | (with_reducible exact Calls.regrown_of (HE1.out _)) | (with_reducible exact Calls.regrown_of (HE2.out _)) | (with_reducible exact regrown_same (HM.out _)))) | quiet_step ((first | (with_reducible exact Calls.regrown_of (HE1.out _)) | (with_reducible exact Calls.regrown_of (HE2.out _)) | (with_reducible exact regrown_same (HM.out _)))))
        refine wpQuiet_nil ?_
        intro _ hw'
        obtain ⟨⟨dq, oq⟩, hw''⟩ := hw'
        subst hw''
        obtain ⟨w4, hW4⟩ : ∃ Wq, Wq = grow (redrawn w3 dq) oq := ⟨_, rfl⟩
        have hb4 : Below w3.heap.size w3 w4 := by rw [hW4]; exact below_regrown _ _ _
        rw [← hW4]
        clear hW4
        obtain ⟨hc4, hf4⟩ := bcell hb4
        have hy4 := hb4.size
        have HW4 := Lib.hid (HW3.out.next hb4)
        clear hb4 hc4 hf4 hy4 q0 q1 q2 q3 q4 q5 HE1 HE2 HM rf10 rf11 rg10 rg11
        obtain ⟨s1, ⟨r0, r1, _, _⟩, _, _, ⟨r2, r3, rf1, _⟩, r4, r5, rg1, _⟩ := HW4.out
        have rg10 := rg1 0
        have rg11 := rg1 1
        clear rf1 rg1
        go_wp2_with fail
        refine ⟨⟨a, b, a', b', HB2.out, HW4.out.high a' b'⟩, ?_⟩
        rw [(HW4.out.high a' b').ms most, HW1.out.ms most]
        have := HMV.out
        omega
    · have HEND := Lib.hid (HS.out.one HF.out ⟨HB.out, by omega⟩)
      have Q1 := Lib.hid (((HW1.out.2.2.1.set a b).far (i := w.heap.size + 1 + 1) (j := 0) (by omega) (.int .i64 c)).far (i := w.heap.size + 1 + 1) (j := 1) (by omega) (.int .i64 e))
      have Q2 := Lib.hid (((HW1.out.2.2.2.1.far (i := w.heap.size + 1) (j := 0) (by omega) (.int .i64 a)).far (i := w.heap.size + 1) (j := 1) (by omega) (.int .i64 b)).set c e)
      have Q3 := Lib.hid ((HW1.out.2.2.1.far (i := w.heap.size + 1 + 1) (j := 0) (by omega) (.int .i64 c)).far (i := w.heap.size + 1 + 1) (j := 1) (by omega) (.int .i64 e) |>.set a b)
      have Q4 := Lib.hid (((HW1.out.2.2.2.1.set c e).far (i := w.heap.size + 1) (j := 0) (by omega) (.int .i64 a)).far (i := w.heap.size + 1) (j := 1) (by omega) (.int .i64 b))
      have hbel := Lib.hid HW1.out.1
      have y10 := yf1 0
      have y11 := yf1 1
      have v10 := vf1 0
      have v11 := vf1 1
      clear yf1 vf1
      go_wp2_with fail
      go_region_held3 (fun w' => w'.cell? ⟨w.heap.size + 1 + 1 + 1, 0, none⟩ = some (.int .i64 a) ∧ w'.cell? ⟨w.heap.size + 1 + 1 + 1, 1, none⟩ = some (.int .i64 b) ∧ w'.cell? ⟨w.heap.size + 1 + 1 + 1 + 1, 0, none⟩ = some (.int .i64 c) ∧ w'.cell? ⟨w.heap.size + 1 + 1 + 1 + 1, 1, none⟩ = some (.int .i64 e)) (go_keep) (fail)
      all_goals
        go_wp2
        refine bodyPost_ret (v := .tuple #[.agg #[.int .i64 a, .int .i64 b], .agg #[.int .i64 c, .int .i64 e]]) ?_ rfl ⟨by obtain ⟨e1, e2, e3, e4⟩ := HEND.out; rw [e1, e2, e3, e4], ?_⟩
        · obtain ⟨z1, z2, _, _⟩ := Q1.out
          obtain ⟨z3, z4, _, _⟩ := Q2.out
          obtain ⟨z5, z6, _, _⟩ := Q3.out
          obtain ⟨z7, z8, _, _⟩ := Q4.out
          first
            | (simp [results, Try.results80, go_sem, z1, z2, z3, z4]; done)
            | (simp [results, Try.results80, go_sem, z5, z6, z7, z8]; done)
        · repeat (first | exact hbel.out | refine ext_set ?_ (by first | (simp; done) | (simp; omega)) _ | refine ext_drew ?_)
end Go.Proofs.Ytnpdpippnhikkaa
