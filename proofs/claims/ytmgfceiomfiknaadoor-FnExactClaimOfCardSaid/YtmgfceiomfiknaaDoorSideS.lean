/- The nearest fractions on both sides, the reference's: the walks. No condition but those that each theorem names. -/
import Derived.Test.YtmgfceiomfiknaaDoorSideW
import Derived.Test.YtmgfceiomfiknaaDoorMinW
namespace Go.Proofs.YtmgfceiomfiknaaDoor
open Go.RowKit Go.Sort

theorem l18Off_any (n d a b : Int) (w : World) (hn : big6 n) (hd : big6 d) (ha : big6 a) (hb : big6 b) :
    Calls Tryd.prog 119 #[fracV n d, fracV a b] w fun e w' => e = .returned (.int .i64 (errV n d a b)) ∧ Below w.heap.size w w' := by
  obtain ⟨p1, p2, p3, p4, _, _⟩ := errV_bd hn hd ha hb
  unfold fracV
  go_enter Tryd.func119, Tryd.ntmps119
  go_wp2_with fail
  refine (l02Size_any (n * b - a * d) _ (by omega) (by omega)).mono ?_
  rintro e w' ⟨rfl, rfl⟩
  go_wp2
  go_ret
  exact ⟨rfl, ext_alloc (ext_alloc (Below.refl _ _) _) _⟩
theorem l02Sign_any (a b c d : Int) (w : World) (h1 : -1000000000000000000 ≤ a * d) (h2 : a * d ≤ 1000000000000000000) (h3 : -1000000000000000000 ≤ c * b) (h4 : c * b ≤ 1000000000000000000) :
    Calls Tryd.prog 118 #[fracV a b, fracV c d] w fun e w' => e = .returned (.int .i64 (cmp3 (a * d) (c * b))) ∧ Below w.heap.size w w' := by
  unfold fracV
  by_cases x1 : a * d < c * b
  · have e1 : cmp3 (a * d) (c * b) = -1 := by rw [cmp3, if_pos x1]
    rw [e1]
    clear e1
    go_enter Tryd.func118, Tryd.ntmps118
    go_wp2
    go_ret
    exact ⟨rfl, ext_alloc (ext_alloc (Below.refl _ _) _) _⟩
  · by_cases x2 : c * b < a * d
    · have e1 : cmp3 (a * d) (c * b) = 1 := by rw [cmp3, if_neg x1, if_pos x2]
      rw [e1]
      clear e1
      go_enter Tryd.func118, Tryd.ntmps118
      go_wp2
      go_ret
      exact ⟨rfl, ext_alloc (ext_alloc (Below.refl _ _) _) _⟩
    · have e1 : cmp3 (a * d) (c * b) = 0 := by rw [cmp3, if_neg x1, if_neg x2]
      rw [e1]
      clear e1
      go_enter Tryd.func118, Tryd.ntmps118
      go_wp2
      go_ret
      exact ⟨rfl, ext_alloc (ext_alloc (Below.refl _ _) _) _⟩
theorem l02Less_any (a b c d : Int) (w : World) (h1 : -1000000000000000000 ≤ a * d) (h2 : a * d ≤ 1000000000000000000) (h3 : -1000000000000000000 ≤ c * b) (h4 : c * b ≤ 1000000000000000000) :
    Calls Tryd.prog 90 #[fracV a b, fracV c d] w fun e w' => e = .returned (.bool (decide (a * d < c * b))) ∧ Below w.heap.size w w' := by
  have HS := Lib.hid (l02Sign_any a b c d · h1 h2 h3 h4)
  have he : decide (cmp3 (a * d) (c * b) < 0) = decide (a * d < c * b) := by rw [Bool.eq_iff_iff]; simp [cmp3_neg]
  rw [← he]
  clear he
  generalize cmp3 (a * d) (c * b) = v at *
  unfold fracV at *
  go_enter Tryd.func90, Tryd.ntmps90
  go_wp2_with fail
  refine (HS.out _).mono ?_
  rintro e w1 ⟨rfl, hb1⟩
  obtain ⟨hc1, hf1⟩ := bcell hb1
  have hy1 := hb1.size
  (try simp at hy1)
  have hz1_0 : w.heap.size < w1.heap.size := by omega
  go_wp2
  go_ret
  refine ⟨rfl, ?_⟩
  repeat (first | exact Below.refl _ _ | assumption | refine ext_alloc ?_ _ | refine ext_drew ?_ | refine ext_trans ?_ (by assumption))
end Go.Proofs.YtmgfceiomfiknaaDoor
