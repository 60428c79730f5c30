/- Digits out of a state of four numbers: the reference's states. No condition but those that each theorem names. -/
import Derived.Test.YtgnifhegkjmgaaaDigSW
namespace Go.Proofs.Ytgnifhegkjmgaaa
open Go.RowKit Go.Sort

@[reducible] def sC (s : S4) (fed : Int) (ok : Bool) : List Value := [.int .i64 s.a, .int .i64 s.b, .int .i64 s.c, .int .i64 s.d, .int .i64 fed, .bool ok]
set_option maxRecDepth 100000 in
set_option maxHeartbeats 3000000 in
theorem sset_any (g : Nat) (s t : S4) (fed : Int) (ok : Bool) (w : World) (hb : BoxV g (sC t fed ok) w) (M : -1000000000000000000 ≤ s.a ∧ s.a ≤ 1000000000000000000) (M2 : -1000000000000000000 ≤ s.b ∧ s.b ≤ 1000000000000000000) (M3 : -1000000000000000000 ≤ s.c ∧ s.c ≤ 1000000000000000000) (M4 : -1000000000000000000 ≤ s.d ∧ s.d ≤ 1000000000000000000) (hg : 0 < s.g) :
    Calls Try.prog 199 #[.pointer (some ⟨g, 0, none⟩), .int .i64 s.a, .int .i64 s.b, .int .i64 s.c, .int .i64 s.d] w fun e w' => e = .returned (.tuple #[]) ∧ BoxV g (sC s.nrm fed (ok && s.nrm.low)) w' ∧ w.grownBy w' (some g) := by
  obtain ⟨a1, a2⟩ := M
  obtain ⟨b1, b2⟩ := M2
  obtain ⟨c1, c2⟩ := M3
  obtain ⟨d1, d2⟩ := M4
  have hg1 : Int.gcd s.a s.b ≤ 1000000000000000000 := gcd_le (by omega) (by omega)
  have hg2 : Int.gcd s.c s.d ≤ 1000000000000000000 := gcd_le (by omega) (by omega)
  have hg3 : s.g ≤ 1000000000000000000 := by
    have := Nat.gcd_le_left (m := Int.gcd s.a s.b) (Int.gcd s.c s.d)
    have e : s.g = Nat.gcd (Int.gcd s.a s.b) (Int.gcd s.c s.d) := rfl
    rcases Nat.eq_zero_or_pos (Int.gcd s.a s.b) with h0 | h0
    · rw [e, h0, Nat.gcd_zero_left]; exact hg2
    · have := this h0; omega
  obtain ⟨p1, p2⟩ := tdiv_nat_bd (g := s.g) a1 a2
  obtain ⟨p3, p4⟩ := tdiv_nat_bd (g := s.g) b1 b2
  obtain ⟨p5, p6⟩ := tdiv_nat_bd (g := s.g) c1 c2
  obtain ⟨p7, p8⟩ := tdiv_nat_bd (g := s.g) d1 d2
  have HNR : Hid (s.nrm = ⟨s.a.tdiv s.g, s.b.tdiv s.g, s.c.tdiv s.g, s.d.tdiv s.g⟩) := rfl
  have S1 := Lib.hid (fun W : World => l02Size_any s.a W (by omega) (by omega))
  have S2 := Lib.hid (fun W : World => l02Size_any s.b W (by omega) (by omega))
  have S3 := Lib.hid (fun W : World => l02Size_any s.c W (by omega) (by omega))
  have S4' := Lib.hid (fun W : World => l02Size_any s.d W (by omega) (by omega))
  have G1 : Hid (∀ W : World, Calls Try.prog 155 #[.int .i64 (s.a.natAbs : Int), .int .i64 (s.b.natAbs : Int)] W fun e w' => e = .returned (.int .i64 (Int.gcd s.a s.b : Int)) ∧ W = w') := fun W => l02Gcd_any s.a.natAbs s.b.natAbs W (by omega) (by omega)
  have G2 : Hid (∀ W : World, Calls Try.prog 155 #[.int .i64 (s.c.natAbs : Int), .int .i64 (s.d.natAbs : Int)] W fun e w' => e = .returned (.int .i64 (Int.gcd s.c s.d : Int)) ∧ W = w') := fun W => l02Gcd_any s.c.natAbs s.d.natAbs W (by omega) (by omega)
  have G3 : Hid (∀ W : World, Calls Try.prog 155 #[.int .i64 (Int.gcd s.a s.b : Int), .int .i64 (Int.gcd s.c s.d : Int)] W fun e w' => e = .returned (.int .i64 (s.g : Int)) ∧ W = w') := fun W => l02Gcd_any (Int.gcd s.a s.b) (Int.gcd s.c s.d) W (by omega) (by omega)
  have A1 := Lib.hid (fun W : World => l02Size_any (s.a.tdiv s.g) W (by omega) (by omega))
  have A2 := Lib.hid (fun W : World => l02Size_any (s.b.tdiv s.g) W (by omega) (by omega))
  have A3 := Lib.hid (fun W : World => l02Size_any (s.c.tdiv s.g) W (by omega) (by omega))
  have A4 := Lib.hid (fun W : World => l02Size_any (s.d.tdiv s.g) W (by omega) (by omega))
  have v1 : IntKind.i64.wrap (s.a.tdiv (s.g : Int)) = s.a.tdiv (s.g : Int) := IntWalk.i64_in _ (by omega)
  have v2 : IntKind.i64.wrap (s.b.tdiv (s.g : Int)) = s.b.tdiv (s.g : Int) := IntWalk.i64_in _ (by omega)
  have v3 : IntKind.i64.wrap (s.c.tdiv (s.g : Int)) = s.c.tdiv (s.g : Int) := IntWalk.i64_in _ (by omega)
  have v4 : IntKind.i64.wrap (s.d.tdiv (s.g : Int)) = s.d.tdiv (s.g : Int) := IntWalk.i64_in _ (by omega)
  have e0 : ¬ ((s.g : Int) = 0) := by omega
  have e0n : ¬ (s.g = 0) := by omega
  have x0 := hb.at 0 _ rfl
  have x1 := hb.at 1 _ rfl
  have x2 := hb.at 2 _ rfl
  have x3 := hb.at 3 _ rfl
  have f0 := hb.f 0
  have f1 := hb.f 1
  have f2 := hb.f 2
  have f3 := hb.f 3
  have HB := Lib.hid hb
  clear hb hg hg1 hg2
  generalize (s.a.natAbs : Int) = y1 at *
  generalize (s.b.natAbs : Int) = y2 at *
  generalize (s.c.natAbs : Int) = y3 at *
  generalize (s.d.natAbs : Int) = y4 at *
  generalize (Int.gcd s.a s.b : Int) = y5 at *
  generalize (Int.gcd s.c s.d : Int) = y6 at *
  go_enter Try.func199, Try.ntmps199
  go_wp2_with (first | (go_at_call 117; (with_reducible refine (S1.out _).mono ?_); rintro e w' ⟨rfl, rfl⟩) | (go_at_call 117; (with_reducible refine (S2.out _).mono ?_); rintro e w' ⟨rfl, rfl⟩) | (go_at_call 117; (with_reducible refine (S3.out _).mono ?_); rintro e w' ⟨rfl, rfl⟩) | (go_at_call 117; (with_reducible refine (S4'.out _).mono ?_); rintro e w' ⟨rfl, rfl⟩) | (go_at_call 155; (with_reducible refine (G1.out _).mono ?_); rintro e w' ⟨rfl, rfl⟩) | (go_at_call 155; (with_reducible refine (G2.out _).mono ?_); rintro e w' ⟨rfl, rfl⟩) | (go_at_call 155; (with_reducible refine (G3.out _).mono ?_); rintro e w' ⟨rfl, rfl⟩))
  clear v1 v2 v3 v4 e0 e0n hg3 x0 x1 x2 x3 f0 f1 f2 f3 S1 S2 S3 S4' G1 G2 G3
  generalize s.a.tdiv (s.g : Int) = na at *
  generalize s.b.tdiv (s.g : Int) = nb at *
  generalize s.c.tdiv (s.g : Int) = nc at *
  generalize s.d.tdiv (s.g : Int) = nd at *
  have B5 : Hid (BoxV g (sC ⟨na, nb, nc, nd⟩ fed ok) ((((w.setCell ⟨g, 0, none⟩ (.int .i64 na)).setCell ⟨g, 1, none⟩ (.int .i64 nb)).setCell ⟨g, 2, none⟩ (.int .i64 nc)).setCell ⟨g, 3, none⟩ (.int .i64 nd))) :=
    (((HB.out.set 0 (.int .i64 na) (by simp)).set 1 (.int .i64 nb) (by simp)).set 2 (.int .i64 nc) (by simp)).set 3 (.int .i64 nd) (by simp)
  have HG5 : Hid (w.grownBy ((((w.setCell ⟨g, 0, none⟩ (.int .i64 na)).setCell ⟨g, 1, none⟩ (.int .i64 nb)).setCell ⟨g, 2, none⟩ (.int .i64 nc)).setCell ⟨g, 3, none⟩ (.int .i64 nd)) (some g)) :=
    Go.Lib.grownBy_setB (Go.Lib.grownBy_setB (Go.Lib.grownBy_setB (Go.Lib.grownBy_setB (World.grownBy.refl w _) 0 _) 1 _) 2 _) 3 _
  generalize ((((w.setCell ⟨g, 0, none⟩ (.int .i64 na)).setCell ⟨g, 1, none⟩ (.int .i64 nb)).setCell ⟨g, 2, none⟩ (.int .i64 nc)).setCell ⟨g, 3, none⟩ (.int .i64 nd)) = W5 at *
  clear HB
  have x0 := B5.out.at 0 _ rfl
  have x1 := B5.out.at 1 _ rfl
  have x2 := B5.out.at 2 _ rfl
  have x3 := B5.out.at 3 _ rfl
  have x5 := B5.out.at 5 _ rfl
  have f5 := B5.out.f 5
  cases l0 : lowI na
  · have d0 : decide ((100000000000000000 : Int) < (na.natAbs : Int)) = true := by rw [lowI_abs, l0]; rfl
    have D := Lib.hid (show BoxV g (sC ⟨na, nb, nc, nd⟩ fed (ok && S4.low ⟨na, nb, nc, nd⟩)) (W5.setCell ⟨g, 5, none⟩ (.bool false)) from by rw [show S4.low ⟨na, nb, nc, nd⟩ = false from by unfold S4.low; simp only; rw [l0]; simp, Bool.and_false]; exact B5.out.set 5 _ (by simp))
    clear l0
    generalize (na.natAbs : Int) = z0 at *
    refine (A1.out _).mono ?_
    rintro e w' ⟨rfl, rfl⟩
    go_wp2_with (first | (go_at_call 117; (with_reducible refine (A1.out _).mono ?_); rintro e w' ⟨rfl, rfl⟩) | (go_at_call 117; (with_reducible refine (A2.out _).mono ?_); rintro e w' ⟨rfl, rfl⟩) | (go_at_call 117; (with_reducible refine (A3.out _).mono ?_); rintro e w' ⟨rfl, rfl⟩) | (go_at_call 117; (with_reducible refine (A4.out _).mono ?_); rintro e w' ⟨rfl, rfl⟩))
    go_end0
    rw [HNR.out]
    exact ⟨rfl, D.out, Go.Lib.grownBy_setB HG5.out 5 _⟩
  · have d0 : decide ((100000000000000000 : Int) < (na.natAbs : Int)) = false := by rw [lowI_abs, l0]; rfl
    generalize (na.natAbs : Int) = z0 at *
    refine (A1.out _).mono ?_
    rintro e w' ⟨rfl, rfl⟩
    cases l1 : lowI nb
    · have d1 : decide ((100000000000000000 : Int) < (nb.natAbs : Int)) = true := by rw [lowI_abs, l1]; rfl
      have D := Lib.hid (show BoxV g (sC ⟨na, nb, nc, nd⟩ fed (ok && S4.low ⟨na, nb, nc, nd⟩)) (W5.setCell ⟨g, 5, none⟩ (.bool false)) from by rw [show S4.low ⟨na, nb, nc, nd⟩ = false from by unfold S4.low; simp only; rw [l1]; simp, Bool.and_false]; exact B5.out.set 5 _ (by simp))
      clear l0 l1
      generalize (nb.natAbs : Int) = z1 at *
      go_wp2_with (first | (go_at_call 117; (with_reducible refine (A1.out _).mono ?_); rintro e w' ⟨rfl, rfl⟩) | (go_at_call 117; (with_reducible refine (A2.out _).mono ?_); rintro e w' ⟨rfl, rfl⟩) | (go_at_call 117; (with_reducible refine (A3.out _).mono ?_); rintro e w' ⟨rfl, rfl⟩) | (go_at_call 117; (with_reducible refine (A4.out _).mono ?_); rintro e w' ⟨rfl, rfl⟩))
      go_end0
      rw [HNR.out]
      exact ⟨rfl, D.out, Go.Lib.grownBy_setB HG5.out 5 _⟩
    · have d1 : decide ((100000000000000000 : Int) < (nb.natAbs : Int)) = false := by rw [lowI_abs, l1]; rfl
      generalize (nb.natAbs : Int) = z1 at *
      cases l2 : lowI nc
      · have d2 : decide ((100000000000000000 : Int) < (nc.natAbs : Int)) = true := by rw [lowI_abs, l2]; rfl
        have D := Lib.hid (show BoxV g (sC ⟨na, nb, nc, nd⟩ fed (ok && S4.low ⟨na, nb, nc, nd⟩)) (W5.setCell ⟨g, 5, none⟩ (.bool false)) from by rw [show S4.low ⟨na, nb, nc, nd⟩ = false from by unfold S4.low; simp only; rw [l2]; simp, Bool.and_false]; exact B5.out.set 5 _ (by simp))
        clear l0 l1 l2
        generalize (nc.natAbs : Int) = z2 at *
        go_wp2_with (first | (go_at_call 117; (with_reducible refine (A1.out _).mono ?_); rintro e w' ⟨rfl, rfl⟩) | (go_at_call 117; (with_reducible refine (A2.out _).mono ?_); rintro e w' ⟨rfl, rfl⟩) | (go_at_call 117; (with_reducible refine (A3.out _).mono ?_); rintro e w' ⟨rfl, rfl⟩) | (go_at_call 117; (with_reducible refine (A4.out _).mono ?_); rintro e w' ⟨rfl, rfl⟩))
        go_end0
        rw [HNR.out]
        exact ⟨rfl, D.out, Go.Lib.grownBy_setB HG5.out 5 _⟩
      · have d2 : decide ((100000000000000000 : Int) < (nc.natAbs : Int)) = false := by rw [lowI_abs, l2]; rfl
        generalize (nc.natAbs : Int) = z2 at *
        cases l3 : lowI nd
        · have d3 : decide ((100000000000000000 : Int) < (nd.natAbs : Int)) = true := by rw [lowI_abs, l3]; rfl
          have D := Lib.hid (show BoxV g (sC ⟨na, nb, nc, nd⟩ fed (ok && S4.low ⟨na, nb, nc, nd⟩)) (W5.setCell ⟨g, 5, none⟩ (.bool false)) from by rw [show S4.low ⟨na, nb, nc, nd⟩ = false from by unfold S4.low; simp only; rw [l3]; simp, Bool.and_false]; exact B5.out.set 5 _ (by simp))
          clear l0 l1 l2 l3
          generalize (nd.natAbs : Int) = z3 at *
          go_wp2_with (first | (go_at_call 117; (with_reducible refine (A1.out _).mono ?_); rintro e w' ⟨rfl, rfl⟩) | (go_at_call 117; (with_reducible refine (A2.out _).mono ?_); rintro e w' ⟨rfl, rfl⟩) | (go_at_call 117; (with_reducible refine (A3.out _).mono ?_); rintro e w' ⟨rfl, rfl⟩) | (go_at_call 117; (with_reducible refine (A4.out _).mono ?_); rintro e w' ⟨rfl, rfl⟩))
          go_end0
          rw [HNR.out]
          exact ⟨rfl, D.out, Go.Lib.grownBy_setB HG5.out 5 _⟩
        · have d3 : decide ((100000000000000000 : Int) < (nd.natAbs : Int)) = false := by rw [lowI_abs, l3]; rfl
          generalize (nd.natAbs : Int) = z3 at *
          have D := Lib.hid (show BoxV g (sC ⟨na, nb, nc, nd⟩ fed (ok && S4.low ⟨na, nb, nc, nd⟩)) W5 from by rw [show S4.low ⟨na, nb, nc, nd⟩ = true from by unfold S4.low; simp only; rw [l0, l1, l2, l3]; rfl, Bool.and_true]; exact B5.out)
          clear l0 l1 l2 l3
          go_wp2_with (first | (go_at_call 117; (with_reducible refine (A1.out _).mono ?_); rintro e w' ⟨rfl, rfl⟩) | (go_at_call 117; (with_reducible refine (A2.out _).mono ?_); rintro e w' ⟨rfl, rfl⟩) | (go_at_call 117; (with_reducible refine (A3.out _).mono ?_); rintro e w' ⟨rfl, rfl⟩) | (go_at_call 117; (with_reducible refine (A4.out _).mono ?_); rintro e w' ⟨rfl, rfl⟩))
          go_end0
          rw [HNR.out]
          exact ⟨rfl, D.out, HG5.out⟩
end Go.Proofs.Ytgnifhegkjmgaaa
