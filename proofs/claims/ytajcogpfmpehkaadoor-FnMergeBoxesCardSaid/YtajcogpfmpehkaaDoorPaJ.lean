/- Parts of all packets: the program's walk, all rules. -/
import Derived.Test.YtajcogpfmpehkaaDoorPaI
import Derived.Test.YtajcogpfmpehkaaDoorAsD
namespace Go.Proofs.YtajcogpfmpehkaaDoor
open Go.RowKit
end Go.Proofs.YtajcogpfmpehkaaDoor
