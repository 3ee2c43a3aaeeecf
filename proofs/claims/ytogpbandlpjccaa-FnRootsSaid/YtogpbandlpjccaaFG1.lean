/- These facts hold, for sets of roots that begin so. -/
import Derived.Test.YtogpbandlpjccaaF1
namespace Go.G880.Rt
set_option maxRecDepth 100000
set_option maxHeartbeats 0
theorem facts1 : (subs [-2, -1, 0, 1, 2, 3, 4]).all (fun s => chk3 [-4] s) = true := by decide +kernel
end Go.G880.Rt
