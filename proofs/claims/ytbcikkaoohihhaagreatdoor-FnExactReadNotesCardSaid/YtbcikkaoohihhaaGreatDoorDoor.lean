/- What a row that lists the table of the powers of ten tells. No condition but those that each theorem names. -/
import Derived.Test.YtbcikkaoohihhaaGreatDoorFrame
import Derived.Test.YtbcikkaoohihhaaGreatDoorMrB
import Derived.Test.YtbcikkaoohihhaaGreatDoorCards
import Derived.Test.YtbcikkaoohihhaaGreatDoorTie
import Derived.Lib.LaidTab
import Derived.Lib.LaidIn
import Derived.Stop.LaidErr
import Derived.LaidLaws
import Derived.SevenTiedAt
import Derived.ChangeVars
namespace Go.Proofs.YtbcikkaoohihhaaGreatDoor
open Go.RowKit Go.Sort Go.Lib

theorem tab_of {W : World} {r : List (String × DataW Unit)} (h : laidMet Tryz.prog (("internal/strconv.uint64pow10", Rows.laid_internal_strconv_uint64pow10) :: r) W) : Lib.TabIs Tryz.prog W "internal/strconv.uint64pow10" .u64 Lib.pow10Tab :=
  Lib.tabIs_of_head (g := 4) (by kernel_rfl) (by kernel_rfl) Tryz.underlying204 Tryz.underlying110 (by kernel_rfl) (by kernel_rfl) h
end Go.Proofs.YtbcikkaoohihhaaGreatDoor
