/- The common packets of two boxes: the reference's walk. -/
import Derived.Test.YtajcogpfmpehkaaDoorCuW
import Derived.Test.YtajcogpfmpehkaaDoorFnX
import Derived.Test.YtajcogpfmpehkaaDoorFmZ
namespace Go.Proofs.YtajcogpfmpehkaaDoor
open Go.RowKit
end Go.Proofs.YtajcogpfmpehkaaDoor
