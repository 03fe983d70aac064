/- Which rule decides: the program's walk. -/
import Derived.Test.YtajcogpfmpehkaaDoorFmZ
import Derived.Test.YtajcogpfmpehkaaDoorRgX
namespace Go.Proofs.YtajcogpfmpehkaaDoor
open Go.RowKit
end Go.Proofs.YtajcogpfmpehkaaDoor
