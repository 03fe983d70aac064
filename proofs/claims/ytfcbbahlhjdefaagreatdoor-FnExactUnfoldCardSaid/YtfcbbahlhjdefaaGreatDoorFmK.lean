/- Which rule decides: the program's walk. -/
import Derived.Test.YtfcbbahlhjdefaaGreatDoorFmZ
import Derived.Test.YtfcbbahlhjdefaaGreatDoorRgX
namespace Go.Proofs.YtfcbbahlhjdefaaGreatDoor
open Go.RowKit
end Go.Proofs.YtfcbbahlhjdefaaGreatDoor
