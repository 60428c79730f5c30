/- Best approximations of the first kind, the reference's: is one: the walks. No condition but those that each theorem names. -/
import Derived.Test.YtnpdpippnhikkaaBestX
namespace Go.Proofs.Ytnpdpippnhikkaa
open Go.RowKit Go.Sort

set_option maxRecDepth 100000 in
set_option maxHeartbeats 2000000 in
theorem l18First_far (n d p q A B C E : Int) (w : World) (F : Fr n d q) (S : Sides n d q A B C E) :
    Calls Try.prog 154 #[fracV n d, fracV p q] w fun e w' => e = .returned (.bool (isB p q A B C E (cmp3 (errV n d A B * E) (errV n d C E * B)))) ∧ Below w.heap.size w w' := by
  have q1 := Try.eqGuardType29
  have q2 := Try.stoodInHeld29
  have HA := Lib.hid (l18Sides_far n d q A B C E · F S)
  obtain ⟨ba, bb, bc, be⟩ := S.1.bd F
  have HC := Lib.hid (l18Compare_any n d A B C E · ⟨F.n1, F.n2⟩ ⟨by have := F.lt; have := F.most1; omega, F.d2⟩ ba bb bc be)
  have HN := Lib.hid S.1.ne
  clear F S ba bb bc be
  generalize cmp3 (errV n d A B * E) (errV n d C E * B) = c at *
  unfold fracV at *
  go_enter Try.func154, Try.ntmps154
  have G1 := Lib.hid ((B2.new w n d 29).next (ext1 _ (.cells #[.int .i64 p, .int .i64 q] 29)))
  have G2 := Lib.hid (B2.new_at (g := w.heap.size + 1) (W := w.alloc (.cells #[.int .i64 n, .int .i64 d] 29)) p q 29 (by simp))
  have hbe := Lib.hid (ext_alloc (ext1 w (.cells #[.int .i64 n, .int .i64 d] 29)) (.cells #[.int .i64 p, .int .i64 q] 29))
  go_wp2_with fail
  generalize (w.alloc (.cells #[.int .i64 n, .int .i64 d] 29)).alloc (.cells #[.int .i64 p, .int .i64 q] 29) = W0 at *
  refine (HA.out _).mono ?_
  rintro e w1 ⟨rfl, hb⟩
  have hbe := Lib.hid (ext_alloc (ext_alloc (ext_trans hbe.out hb) (.cells #[.int .i64 A, .int .i64 B] 29)) (.cells #[.int .i64 C, .int .i64 E] 29))
  have G1 := Lib.hid (((G1.out.next hb).next (ext1 _ (.cells #[.int .i64 A, .int .i64 B] 29))).next (ext1 _ (.cells #[.int .i64 C, .int .i64 E] 29)))
  have G2 := Lib.hid (((G2.out.next hb).next (ext1 _ (.cells #[.int .i64 A, .int .i64 B] 29))).next (ext1 _ (.cells #[.int .i64 C, .int .i64 E] 29)))
  have G3 := Lib.hid ((B2.new w1 A B 29).next (ext1 _ (.cells #[.int .i64 C, .int .i64 E] 29)))
  have G4 := Lib.hid (B2.new_at (g := w1.heap.size + 1) (W := w1.alloc (.cells #[.int .i64 A, .int .i64 B] 29)) C E 29 (by simp))
  clear hb
  have hne : (A == C) = false ∨ ((A == C) = true ∧ (B == E) = false) := by
    have := HN.out
    by_cases h : A = C
    · exact .inr ⟨by simpa using h, by simp; exact fun e => this ⟨h, e⟩⟩
    · exact .inl (by simpa using h)
  obtain ⟨r0, r1, _, _⟩ := G1.out
  obtain ⟨y0, y1, _, _⟩ := G3.out
  obtain ⟨z0, z1, _, _⟩ := G4.out
  rcases hne with e1 | ⟨e1, e2⟩
  all_goals
    go_wp2_with fail
    generalize (w1.alloc (.cells #[.int .i64 A, .int .i64 B] 29)).alloc (.cells #[.int .i64 C, .int .i64 E] 29) = W at *
    clear y0 y1 z0 z1
    refine (HC.out _).mono ?_
    rintro e w2 ⟨rfl, hb⟩
    have hbe := Lib.hid (ext_trans hbe.out hb)
    obtain ⟨x0, x1, _, _⟩ := G2.out.next hb
    obtain ⟨y0, y1, _, _⟩ := G3.out.next hb
    obtain ⟨z0, z1, _, _⟩ := G4.out.next hb
    clear hb r0 r1
    have hn := HN.out
    go_wp2
    all_goals
      go_ret
      refine ⟨ret_bool ?_, hbe.out⟩
      rw [Bool.eq_iff_iff]
      try unfold isB
      unfold frEq
      simp
      try omega
set_option maxRecDepth 100000 in
set_option maxHeartbeats 2000000 in
theorem l18First_near (n d p q : Int) (w : World) (hd : d ≤ q) :
    Calls Try.prog 154 #[fracV n d, fracV p q] w fun e w' => e = .returned (.bool (frEq p q n d)) ∧ Below w.heap.size w w' := by
  have q1 := Try.eqGuardType29
  have q2 := Try.stoodInHeld29
  have HA := Lib.hid (l18Sides_near n d q · hd)
  have HN : Hid True := trivial
  clear hd
  unfold fracV at *
  go_enter Try.func154, Try.ntmps154
  have G1 := Lib.hid ((B2.new w n d 29).next (ext1 _ (.cells #[.int .i64 p, .int .i64 q] 29)))
  have G2 := Lib.hid (B2.new_at (g := w.heap.size + 1) (W := w.alloc (.cells #[.int .i64 n, .int .i64 d] 29)) p q 29 (by simp))
  have hbe := Lib.hid (ext_alloc (ext1 w (.cells #[.int .i64 n, .int .i64 d] 29)) (.cells #[.int .i64 p, .int .i64 q] 29))
  go_wp2_with fail
  generalize (w.alloc (.cells #[.int .i64 n, .int .i64 d] 29)).alloc (.cells #[.int .i64 p, .int .i64 q] 29) = W0 at *
  refine (HA.out _).mono ?_
  rintro e w1 ⟨rfl, hb⟩
  have hbe := Lib.hid (ext_alloc (ext_alloc (ext_trans hbe.out hb) (.cells #[.int .i64 n, .int .i64 d] 29)) (.cells #[.int .i64 n, .int .i64 d] 29))
  have G1 := Lib.hid (((G1.out.next hb).next (ext1 _ (.cells #[.int .i64 n, .int .i64 d] 29))).next (ext1 _ (.cells #[.int .i64 n, .int .i64 d] 29)))
  have G2 := Lib.hid (((G2.out.next hb).next (ext1 _ (.cells #[.int .i64 n, .int .i64 d] 29))).next (ext1 _ (.cells #[.int .i64 n, .int .i64 d] 29)))
  have G3 := Lib.hid ((B2.new w1 n d 29).next (ext1 _ (.cells #[.int .i64 n, .int .i64 d] 29)))
  have G4 := Lib.hid (B2.new_at (g := w1.heap.size + 1) (W := w1.alloc (.cells #[.int .i64 n, .int .i64 d] 29)) n d 29 (by simp))
  clear hb
  obtain ⟨x0, x1, _, _⟩ := G2.out
  obtain ⟨r0, r1, _, _⟩ := G1.out
  obtain ⟨y0, y1, _, _⟩ := G3.out
  obtain ⟨z0, z1, _, _⟩ := G4.out
  have t1 : (n == n) = true := by simp
  have t2 : (d == d) = true := by simp
  have hn := HN.out
  go_wp2
  all_goals
    go_ret
    refine ⟨ret_bool ?_, hbe.out⟩
    rw [Bool.eq_iff_iff]
    try unfold isB
    unfold frEq
    simp
    try omega
end Go.Proofs.Ytnpdpippnhikkaa
