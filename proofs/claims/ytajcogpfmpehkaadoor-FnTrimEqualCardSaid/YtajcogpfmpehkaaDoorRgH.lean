/- The program's RegionValid and RegionHas. -/
import Derived.Test.YtajcogpfmpehkaaDoorDxAJ
import Derived.Test.YtajcogpfmpehkaaDoorLvS
namespace Go.Proofs.YtajcogpfmpehkaaDoor
open Go.RowKit
end Go.Proofs.YtajcogpfmpehkaaDoor
