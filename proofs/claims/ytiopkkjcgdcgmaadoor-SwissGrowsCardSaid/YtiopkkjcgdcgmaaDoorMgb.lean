/- The map: Get. -/
import Derived.Test.YtiopkkjcgdcgmaaDoorMfb
namespace Go.Proofs.YtiopkkjcgdcgmaaDoor.b
open Go.RowKit Go.Rg Go.Nm Go.Gp Go.Mp
set_option maxHeartbeats 1000000
set_option maxRecDepth 20000
end Go.Proofs.YtiopkkjcgdcgmaaDoor.b
