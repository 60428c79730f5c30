/- Plain pairs of roots, and the least unit: the walks. No condition but those that each theorem names. -/
import Derived.Test.YtmgfceiomfiknaaDoorUnitQ
import Derived.Test.YtmgfceiomfiknaaDoorPdW
import Derived.Test.YtmgfceiomfiknaaDoorConvW
namespace Go.Proofs.YtmgfceiomfiknaaDoor
open Go.RowKit Go.Sort

@[reducible] def pairV (x y : Int) : Value := .agg #[.int .i64 x, .int .i64 y]
theorem dquo {d : Int} (h1 : 2 ≤ d) : 0 ≤ 1000000000000000000 / d ∧ 1000000000000000000 / d ≤ 1000000000000000000 ∧ (1000000000000000000 : Int).tdiv d = 1000000000000000000 / d := by
  refine ⟨Int.ediv_nonneg (by omega) (by omega), ?_, Int.tdiv_eq_ediv_of_nonneg (by omega)⟩
  exact Int.ediv_le_self _ (by omega)
theorem l09D_any (d : Int) (w : World) : Calls Tryd.prog 84 #[.int .i64 d] w fun e w' => e = .returned (.int .i64 (pcC d)) ∧ w = w' := by
  unfold pcC
  cases hx : inR d 2 10000
  · have HX := Lib.hid hx
    clear hx
    simp only [Bool.false_eq_true, if_false]
    go_enter Tryd.func84, Tryd.ntmps84
    go_wp2_with (go_at_call 19; (with_reducible refine (l00In_is HX.out _).mono ?_); rintro e w' ⟨rfl, rfl⟩)
    go_ret
    exact ⟨rfl, rfl⟩
  · obtain ⟨d1, d2⟩ := inR_true.1 hx
    have HX := Lib.hid hx
    have HQ := Lib.hid (fun W : World => l07Square_any d W (by omega) (by omega))
    clear hx
    cases hs : sqB d
    all_goals
      rw [hs] at HQ
      clear hs
      simp only [Bool.false_eq_true, if_false, if_true]
      go_enter Tryd.func84, Tryd.ntmps84
      go_wp2_with (first | (go_at_call 19; (with_reducible refine (l00In_is HX.out _).mono ?_); rintro e w' ⟨rfl, rfl⟩) | (go_at_call 105; (with_reducible refine (HQ.out _).mono ?_); rintro e w' ⟨rfl, rfl⟩))
      go_ret
      exact ⟨rfl, rfl⟩
end Go.Proofs.YtmgfceiomfiknaaDoor
