/- Sweeping along two sets: the program's walk (Uni). -/
import Derived.Test.YtajcogpfmpehkaaGreatDoorCuW
import Derived.Test.YtajcogpfmpehkaaGreatDoorBsA
import Derived.Deep.DeepCutAuto
namespace Go.Proofs.YtajcogpfmpehkaaGreatDoor
open Go.RowKit
end Go.Proofs.YtajcogpfmpehkaaGreatDoor
