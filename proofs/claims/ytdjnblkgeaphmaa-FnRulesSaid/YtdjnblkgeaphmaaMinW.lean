/- The lesser and the greater of two numbers: the walks. No condition. -/
import Derived.Test.YtdjnblkgeaphmaaBase
namespace Go.Proofs.Ytdjnblkgeaphmaa
open Go.RowKit Go.Sort

theorem l00Min_any (a b m : Int) (h : min a b = m) (w : World) : Calls Try.prog 130 #[.int .i64 a, .int .i64 b] w fun e w' => e = .returned (.int .i64 m) ∧ w = w' := by
  have H := Lib.hid h
  clear h
  by_cases h1 : a < b
  all_goals
    by_cases h2 : b < a
    all_goals
      first
      | omega
      | (go_enter Try.func130, Try.ntmps130
         go_wp2
         go_ret
         exact ⟨ret_int (by have := H.out; omega), rfl⟩)
theorem l00Max_any (a b m : Int) (h : max a b = m) (w : World) : Calls Try.prog 129 #[.int .i64 a, .int .i64 b] w fun e w' => e = .returned (.int .i64 m) ∧ w = w' := by
  have H := Lib.hid h
  clear h
  by_cases h1 : a < b
  all_goals
    by_cases h2 : b < a
    all_goals
      first
      | omega
      | (go_enter Try.func129, Try.ntmps129
         go_wp2
         go_ret
         exact ⟨ret_int (by have := H.out; omega), rfl⟩)
end Go.Proofs.Ytdjnblkgeaphmaa
