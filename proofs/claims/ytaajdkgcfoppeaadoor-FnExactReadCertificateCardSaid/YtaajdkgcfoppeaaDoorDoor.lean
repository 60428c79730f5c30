/- What a row that lists the table of the powers of ten tells. No condition but those that each theorem names. -/
import Derived.Test.YtaajdkgcfoppeaaDoorFrame
import Derived.Test.YtaajdkgcfoppeaaDoorDecNW
import Derived.Test.YtaajdkgcfoppeaaDoorCards
import Derived.Test.YtaajdkgcfoppeaaDoorTie
import Derived.Lib.LaidTab
import Derived.Lib.LaidIn
import Derived.Stop.LaidErr
import Derived.LaidLaws
import Derived.SevenTiedAt
import Derived.ChangeVars
namespace Go.Proofs.YtaajdkgcfoppeaaDoor
open Go.RowKit Go.Sort Go.Lib

theorem tab_of {W : World} {r : List (String × DataW Unit)} (h : laidMet Tryd.prog (("internal/strconv.uint64pow10", Rows.laid_internal_strconv_uint64pow10) :: r) W) : Lib.TabIs Tryd.prog W "internal/strconv.uint64pow10" .u64 Lib.pow10Tab :=
  Lib.tabIs_of_head (g := 5) (by kernel_rfl) (by kernel_rfl) Tryd.underlying95 Tryd.underlying70 (by kernel_rfl) (by kernel_rfl) h
end Go.Proofs.YtaajdkgcfoppeaaDoor
