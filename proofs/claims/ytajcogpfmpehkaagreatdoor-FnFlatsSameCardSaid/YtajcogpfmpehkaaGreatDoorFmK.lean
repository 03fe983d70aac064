/- Which rule decides: the program's walk. -/
import Derived.Test.YtajcogpfmpehkaaGreatDoorFmZ
import Derived.Test.YtajcogpfmpehkaaGreatDoorRgX
namespace Go.Proofs.YtajcogpfmpehkaaGreatDoor
open Go.RowKit
theorem fvalid_len {fs : List Ft} (h : fvalid fs = true) : fs.length ≤ 1000000 := by
  unfold fvalid at h
  rw [Bool.and_eq_true] at h
  have := h.1
  simp at this
  omega
theorem fvalid_four {fs : List Ft} (h : fvalid fs = true) (k : Nat) (f : Ft) (hx : fs[k]? = some f) : f.box.length = 4 := (bvalid_four (fvalid_at h hx)).1
end Go.Proofs.YtajcogpfmpehkaaGreatDoor
