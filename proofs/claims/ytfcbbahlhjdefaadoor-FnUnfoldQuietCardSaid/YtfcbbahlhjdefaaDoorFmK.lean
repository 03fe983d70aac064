/- Which rule decides: the program's walk. -/
import Derived.Test.YtfcbbahlhjdefaaDoorFmZ
import Derived.Test.YtfcbbahlhjdefaaDoorRgX
namespace Go.Proofs.YtfcbbahlhjdefaaDoor
open Go.RowKit
end Go.Proofs.YtfcbbahlhjdefaaDoor
