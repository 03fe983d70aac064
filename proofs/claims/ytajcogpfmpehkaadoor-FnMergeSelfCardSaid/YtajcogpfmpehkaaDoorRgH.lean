/- The program's RegionValid and RegionHas. -/
import Derived.Test.YtajcogpfmpehkaaDoorDxAJ
import Derived.Test.YtajcogpfmpehkaaDoorLvS
namespace Go.Proofs.YtajcogpfmpehkaaDoor
open Go.RowKit
theorem Box4.bel {w w' : World} {b : Nat} {v0 v1 v2 v3 : Int} (h : Box4 w b v0 v1 v2 v3) (hb : Below w.heap.size w w') : Box4 w' b v0 v1 v2 v3 := h.mv (R := b + 1) (Mv.of_below hb) h.lt (by omega)
end Go.Proofs.YtajcogpfmpehkaaDoor
