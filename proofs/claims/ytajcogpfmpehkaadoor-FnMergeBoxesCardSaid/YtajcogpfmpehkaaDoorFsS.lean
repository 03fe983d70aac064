/- Whether two rules can be exchanged: the reference's walk. -/
import Derived.Test.YtajcogpfmpehkaaDoorFsM
import Derived.Test.YtajcogpfmpehkaaDoorRgX
import Derived.Test.YtajcogpfmpehkaaDoorFmZ
namespace Go.Proofs.YtajcogpfmpehkaaDoor
open Go.RowKit
theorem bvalid_len2 {b : Bx} (h : bvalid b = true) (k : Nat) (xs : List Sp) (hx : b[k]? = some xs) : xs.length ≤ 2000 := by
  obtain ⟨h4, hb⟩ := bvalid_four h
  have hk := (List.getElem?_eq_some_iff.1 hx).1
  have := hb k xs (by omega) hx
  unfold svalid at this
  simp only [Bool.and_eq_true, decide_eq_true_eq] at this
  omega
end Go.Proofs.YtajcogpfmpehkaaDoor
