/- Which rule decides: the reference's DecidedBy. -/
import Derived.Test.YthflbpoogolebaaDoorFmD
namespace Go.Proofs.YthflbpoogolebaaDoor
open Go.RowKit
theorem fvalid_at {fs : List Ft} (h : fvalid fs = true) {k : Nat} {f : Ft} (hx : fs[k]? = some f) : bvalid f.box = true := by
  unfold fvalid at h
  rw [Bool.and_eq_true, List.all_eq_true] at h
  exact h.2 f (List.mem_of_getElem? hx)
end Go.Proofs.YthflbpoogolebaaDoor
