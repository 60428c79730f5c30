/- Errors of fractions and how they are compared: the walks. No condition but those that each theorem names. -/
import Derived.Test.YtmgfceiomfiknaaDoorFracW
namespace Go.Proofs.YtmgfceiomfiknaaDoor
open Go.RowKit Go.Sort

/-- -1, 0 or 1. -/
def cmp3 (a b : Int) : Int := if a < b then -1 else if b < a then 1 else 0
theorem cmp3_neg {a b : Int} : cmp3 a b < 0 ↔ a < b := by unfold cmp3; split <;> (try split) <;> omega
/-- The error of a / b for n / d, times both denominators. -/
def errV (n d a b : Int) : Int := ((n * b - a * d).natAbs : Int)
def big6 (n : Int) : Prop := -1000000 ≤ n ∧ n ≤ 1000000
theorem errV_bd {n d a b : Int} (hn : big6 n) (hd : big6 d) (ha : big6 a) (hb : big6 b) : -1000000000000 ≤ n * b ∧ n * b ≤ 1000000000000 ∧ -1000000000000 ≤ a * d ∧ a * d ≤ 1000000000000 ∧ 0 ≤ errV n d a b ∧ errV n d a b ≤ 2000000000000 := by
  obtain ⟨n1, n2⟩ := hn
  obtain ⟨d1, d2⟩ := hd
  obtain ⟨a1, a2⟩ := ha
  obtain ⟨b1, b2⟩ := hb
  obtain ⟨p1, p2⟩ := mul_bd (x := n) (y := b) (M := 1000000) (N := 1000000) (by omega) n2 (by omega) b2 n1 b1
  obtain ⟨p3, p4⟩ := mul_bd (x := a) (y := d) (M := 1000000) (N := 1000000) (by omega) a2 (by omega) d2 a1 d1
  unfold errV
  omega

theorem compare_any (a b : Int) (w : World) : Calls Tryd.prog 121 #[.int .i64 a, .int .i64 b] w fun e w' => e = .returned (.int .i64 (cmp3 a b)) ∧ w = w' := by
  by_cases h1 : a < b
  · go_enter Tryd.func121, Tryd.ntmps121
    go_wp2
    go_ret
    exact ⟨ret_int (by rw [cmp3, if_pos h1]), rfl⟩
  · by_cases h2 : b < a
    all_goals
      go_enter Tryd.func121, Tryd.ntmps121
      go_wp2
      go_ret
      exact ⟨ret_int (by unfold cmp3; split <;> (try split) <;> omega), rfl⟩

theorem errorOf_any (n d a b : Int) (w : World) (hn : big6 n) (hd : big6 d) (ha : big6 a) (hb : big6 b) :
    Calls Tryd.prog 122 #[fracV n d, fracV a b] w fun e w' => e = .returned (.int .i64 (errV n d a b)) ∧ Below w.heap.size w w' := by
  obtain ⟨p1, p2, p3, p4, _, _⟩ := errV_bd hn hd ha hb
  unfold fracV
  go_enter Tryd.func122, Tryd.ntmps122
  go_wp2_with fail
  refine (abs_any (n * b - a * d) _ (by omega) (by omega)).mono ?_
  rintro e w' ⟨rfl, rfl⟩
  go_wp2
  go_ret
  exact ⟨rfl, ext_alloc (ext_alloc (Below.refl _ _) _) _⟩

theorem cell_three_1 (w : World) (C D E : Array Value) (s t u : TypeId) (j : Nat) : (((w.alloc (.cells C s)).alloc (.cells D t)).alloc (.cells E u)).cell? ⟨w.heap.size, j, none⟩ = C[j]? :=
  (World.cell?_alloc_lt _ _ _ (by simp; omega)).trans (cell_two_fst w C D s t j)
theorem cell_three_2 (w : World) (C D E : Array Value) (s t u : TypeId) (j : Nat) : (((w.alloc (.cells C s)).alloc (.cells D t)).alloc (.cells E u)).cell? ⟨w.heap.size + 1, j, none⟩ = D[j]? :=
  (World.cell?_alloc_lt _ _ _ (by simp)).trans (cell_two_snd w C D s t j)
theorem cell_three_3 (w : World) (C D E : Array Value) (s t u : TypeId) (j : Nat) : (((w.alloc (.cells C s)).alloc (.cells D t)).alloc (.cells E u)).cell? ⟨w.heap.size + 2, j, none⟩ = E[j]? :=
  World.cell?_alloc_at _ _ _ _ (by simp)

set_option maxHeartbeats 1000000 in
theorem compareErrors_any (n d a b c f : Int) (w : World) (hn : big6 n) (hd : big6 d) (ha : big6 a) (hb : big6 b) (hc : big6 c) (hf : big6 f) :
    Calls Tryd.prog 96 #[fracV n d, fracV a b, fracV c f] w fun e w' => e = .returned (.int .i64 (cmp3 (errV n d a b * f) (errV n d c f * b))) ∧ Below w.heap.size w w' := by
  obtain ⟨_, _, _, _, x1, x2⟩ := errV_bd hn hd ha hb
  obtain ⟨_, _, _, _, y1, y2⟩ := errV_bd hn hd hc hf
  have HX := Lib.hid (errorOf_any n d a b · hn hd ha hb)
  have HY := Lib.hid (errorOf_any n d c f · hn hd hc hf)
  obtain ⟨f1, f2⟩ := hf
  obtain ⟨b1, b2⟩ := hb
  clear hn hd ha hc
  generalize errV n d a b = x at *
  generalize errV n d c f = y at *
  obtain ⟨p1, p2⟩ := mul_bd (x := x) (y := f) (M := 2000000000000) (N := 1000000) (by omega) x2 (by omega) f2 (by omega) f1
  obtain ⟨p3, p4⟩ := mul_bd (x := y) (y := b) (M := 2000000000000) (N := 1000000) (by omega) y2 (by omega) b2 (by omega) b1
  have w1 : IntKind.i64.wrap (x * f) = x * f := IntWalk.i64_in _ (by omega)
  have w2 : IntKind.i64.wrap (y * b) = y * b := IntWalk.i64_in _ (by omega)
  unfold fracV at *
  go_enter Tryd.func96, Tryd.ntmps96
  go_wp2_with fail
  have hb0 : Below w.heap.size w (((w.alloc (.cells #[.int .i64 n, .int .i64 d] 57)).alloc (.cells #[.int .i64 a, .int .i64 b] 57)).alloc (.cells #[.int .i64 c, .int .i64 f] 57)) := ext_alloc (ext_alloc (ext_alloc (Below.refl _ _) _) _) _
  have q1 := cell_three_1 w #[.int .i64 n, .int .i64 d] #[.int .i64 a, .int .i64 b] #[.int .i64 c, .int .i64 f] 57 57 57
  have q2 := cell_three_2 w #[.int .i64 n, .int .i64 d] #[.int .i64 a, .int .i64 b] #[.int .i64 c, .int .i64 f] 57 57 57
  have q3 := cell_three_3 w #[.int .i64 n, .int .i64 d] #[.int .i64 a, .int .i64 b] #[.int .i64 c, .int .i64 f] 57 57 57
  generalize ((w.alloc (.cells #[.int .i64 n, .int .i64 d] 57)).alloc (.cells #[.int .i64 a, .int .i64 b] 57)).alloc (.cells #[.int .i64 c, .int .i64 f] 57) = W at *
  have k0 : ∀ x os, (grow (redrawn W x) os).cell? ⟨w.heap.size, 0, none⟩ = some (.int .i64 n) := cell_regrown (q1 0)
  have k1 : ∀ x os, (grow (redrawn W x) os).cell? ⟨w.heap.size, 1, none⟩ = some (.int .i64 d) := cell_regrown (q1 1)
  have k2 : ∀ x os, (grow (redrawn W x) os).cell? ⟨w.heap.size + 1, 0, none⟩ = some (.int .i64 a) := cell_regrown (q2 0)
  have k3 : ∀ x os, (grow (redrawn W x) os).cell? ⟨w.heap.size + 1, 1, none⟩ = some (.int .i64 b) := cell_regrown (q2 1)
  have k4 : ∀ x os, (grow (redrawn W x) os).cell? ⟨w.heap.size + 1 + 1, 0, none⟩ = some (.int .i64 c) := cell_regrown (q3 0)
  have k5 : ∀ x os, (grow (redrawn W x) os).cell? ⟨w.heap.size + 1 + 1, 1, none⟩ = some (.int .i64 f) := cell_regrown (q3 1)
  clear q1 q2 q3
  refine wp_region_quiet_below (by kernel_rfl) (by kernel_rfl) ?_
  repeat (first | go_big_quiet_step ((first | (with_reducible exact Calls.regrown_of (HX.out _)) | (with_reducible exact Calls.regrown_of (HY.out _)) | (with_reducible exact regrown_same (compare_any (x * f) (y * b) _)))) | quiet_step ((first | (with_reducible exact Calls.regrown_of (HX.out _)) | (with_reducible exact Calls.regrown_of (HY.out _)) | (with_reducible exact regrown_same (compare_any (x * f) (y * b) _)))))
  refine wpQuiet_nil ?_
  intro _ hw'
  obtain ⟨⟨dq, oq⟩, hw''⟩ := hw'
  subst hw''
  go_wp2
  go_ret
  exact ⟨rfl, ext_trans hb0 (below_regrown W dq oq)⟩

end Go.Proofs.YtmgfceiomfiknaaDoor
