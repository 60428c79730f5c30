/- Certificates by value: copies, comparisons. No condition but those that each theorem names. -/
import Derived.Test.YtkimmahmbacjpaaSlices
import Derived.Deep.RegionHeld3
namespace Go.Proofs.Ytkimmahmbacjpaa
open Go.RowKit Go.Sort

@[reducible] def certV (k : Int) (A : Option Addr) (n c : Nat) : Value := .agg #[.int .i64 k, .slice A n c]

end Go.Proofs.Ytkimmahmbacjpaa
