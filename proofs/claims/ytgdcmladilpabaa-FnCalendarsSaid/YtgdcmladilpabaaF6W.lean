/- The statements' helpers f6big: the walk. No condition but those that each theorem names. -/
import Derived.Test.YtgdcmladilpabaaSlices
import Derived.Test.YtgdcmladilpabaaPutL
namespace Go.Proofs.Ytgdcmladilpabaa
open Go.RowKit Go.Sort

theorem f6big_any (A : Option Addr) (n c : Nat) (w : World) :
    Calls Try.prog 14 #[.slice A n c] w fun e w' => e = .returned (.bool (decide (4096 < (n : Int)))) ∧ w = w' := by
  go_enter Try.func14, Try.ntmps14
  go_wp2
  go_ret
  exact ⟨rfl, rfl⟩
end Go.Proofs.Ytgdcmladilpabaa
