/- The statements' helpers f6big: the walk. No condition but those that each theorem names. -/
import Derived.Test.YtkimmahmbacjpaaSlices
import Derived.Test.YtkimmahmbacjpaaPutL
namespace Go.Proofs.Ytkimmahmbacjpaa
open Go.RowKit Go.Sort

theorem f6big_any (A : Option Addr) (n c : Nat) (w : World) :
    Calls Try.prog 10 #[.slice A n c] w fun e w' => e = .returned (.bool (decide (4096 < (n : Int)))) ∧ w = w' := by
  go_enter Try.func10, Try.ntmps10
  go_wp2
  go_ret
  exact ⟨rfl, rfl⟩
end Go.Proofs.Ytkimmahmbacjpaa
