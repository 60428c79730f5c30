/- The lesser and the greater of two numbers: the walks. No condition. -/
import Derived.Test.YtaajdkgcfoppeaaDoorBase
namespace Go.Proofs.YtaajdkgcfoppeaaDoor
open Go.RowKit Go.Sort

end Go.Proofs.YtaajdkgcfoppeaaDoor
