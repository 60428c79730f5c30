/- The lesser and the greater of two numbers: the walks. No condition. -/
import Derived.Test.YtmgfceiomfiknaaDoorBase
namespace Go.Proofs.YtmgfceiomfiknaaDoor
open Go.RowKit Go.Sort

end Go.Proofs.YtmgfceiomfiknaaDoor
