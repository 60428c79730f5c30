/- The nearest fractions on both sides, the reference's: the walks. No condition but those that each theorem names. -/
import Derived.Test.YtaajdkgcfoppeaaDoorSideW
import Derived.Test.YtaajdkgcfoppeaaDoorMinW
namespace Go.Proofs.YtaajdkgcfoppeaaDoor
open Go.RowKit Go.Sort

end Go.Proofs.YtaajdkgcfoppeaaDoor
