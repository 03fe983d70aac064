/- Boxes and rules without calls: equality. -/
import Derived.Test.YthflbpoogolebaaDoorFmN
namespace Go.Proofs.YthflbpoogolebaaDoor
open Go.RowKit
theorem take_eq_succ {α : Type} {xs ys : List α} {k : Nat} {x y : α} (h : xs.take k = ys.take k) (hx : xs[k]? = some x) (hy : ys[k]? = some y) (e : x = y) : xs.take (k + 1) = ys.take (k + 1) := by
  rw [List.take_add_one, List.take_add_one, h, hx, hy, e]
end Go.Proofs.YthflbpoogolebaaDoor
