/- The numbers of a note, and a note's bytes. No condition but those that each theorem names. -/
import Derived.Test.YtmgfceiomfiknaaDoorPackW
import Derived.Test.YtmgfceiomfiknaaDoorNotes
import Derived.Test.YtmgfceiomfiknaaDoorBoxW
import Derived.Test.YtmgfceiomfiknaaDoorConcatW
import Derived.Test.YtmgfceiomfiknaaDoorProvePW
namespace Go.Proofs.YtmgfceiomfiknaaDoor
open Go.RowKit Go.Sort Go.Maps Go.WideMaps

/-- The numbers of a note, by its kind. -/
def nuL (x : Nt) : List Int := if x.kind = 1 then [x.num, x.den] else if x.kind = 2 then (x.terms.length : Int) :: x.terms else [x.sp, x.sd, x.sq]
end Go.Proofs.YtmgfceiomfiknaaDoor
