/- What a row that lists the table of the powers of ten tells. No condition but those that each theorem names. -/
import Derived.Test.YtmgfceiomfiknaaDoorFrame
import Derived.Test.YtmgfceiomfiknaaDoorDecNW
import Derived.Test.YtmgfceiomfiknaaDoorCards
import Derived.Test.YtmgfceiomfiknaaDoorTie
import Derived.Lib.LaidTab
import Derived.Lib.LaidIn
import Derived.Stop.LaidErr
import Derived.LaidLaws
import Derived.SevenTiedAt
import Derived.ChangeVars
namespace Go.Proofs.YtmgfceiomfiknaaDoor
open Go.RowKit Go.Sort Go.Lib

theorem tab_of {W : World} (h : laidMet Tryd.prog [("internal/strconv.uint64pow10", Rows.laid_internal_strconv_uint64pow10)] W) : Lib.TabIs Tryd.prog W "internal/strconv.uint64pow10" .u64 Lib.pow10Tab :=
  Lib.tabIs_of_head (g := 0) (by kernel_rfl) (by kernel_rfl) Tryd.underlying132 Tryd.underlying108 (by kernel_rfl) (by kernel_rfl) h
end Go.Proofs.YtmgfceiomfiknaaDoor
