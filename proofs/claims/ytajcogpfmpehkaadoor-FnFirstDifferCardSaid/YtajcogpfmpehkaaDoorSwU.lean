/- Sweeping along two sets: the program's walk (Uni). -/
import Derived.Test.YtajcogpfmpehkaaDoorCuW
import Derived.Test.YtajcogpfmpehkaaDoorBsA
import Derived.Deep.DeepCutAuto
namespace Go.Proofs.YtajcogpfmpehkaaDoor
open Go.RowKit
end Go.Proofs.YtajcogpfmpehkaaDoor
