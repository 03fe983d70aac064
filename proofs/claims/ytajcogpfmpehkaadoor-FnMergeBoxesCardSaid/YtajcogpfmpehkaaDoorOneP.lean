/- Blocks of one cell: a box by itself. -/
import Derived.Test.YtajcogpfmpehkaaDoorRgCL
import Derived.Test.YtajcogpfmpehkaaDoorRsC
import Derived.Test.YtajcogpfmpehkaaDoorFnX
namespace Go.Proofs.YtajcogpfmpehkaaDoor
open Go.RowKit
/-- A block of one cell that holds nothing. -/
def One (w : World) (q : Nat) : Prop := w.cell? ⟨q, 0, none⟩ = some (.slice none 0 0) ∧ ∀ j, w.cell? ⟨q, j + 1, none⟩ = none
theorem One.below {w w' : World} {q : Nat} (h : One w q) (hq : q < w.heap.size) (hb : Below w.heap.size w w') : One w' q :=
  ⟨(hb.cell (p := ⟨q, 0, none⟩) hq).trans h.1, fun j => (hb.cell (p := ⟨q, j + 1, none⟩) hq).trans (h.2 j)⟩
theorem One.new (w : World) (ty : TypeId) : One (w.alloc (.cells #[.slice none 0 0] ty)) w.heap.size := ⟨by simp, fun j => by simp⟩
/-- A new block for a box. -/
def BP (W w : World) (v : Value) : Prop := ∃ q, v = .pointer (some ⟨q, 0, none⟩) ∧ W.heap.size ≤ q ∧ q < w.heap.size ∧ (∀ j, w.frozen? ⟨q, j, none⟩ = false) ∧ One w q
theorem BP.new {W : World} (w : World) (h : W.heap.size ≤ w.heap.size) : BP W (w.alloc (.cells #[.slice none 0 0] 32)) (.pointer (some ⟨w.heap.size, 0, none⟩)) :=
  ⟨_, rfl, h, by simp, fun j => frz_new w _ _ j, One.new w _⟩
/-- The block behind the store: a box that is read, or one of the call's own. -/
def BQ (c : Bx) (W w : World) (v : Value) : Prop := ∃ q a n p, v = .pointer (some ⟨q, 0, none⟩) ∧ W.heap.size ≤ q ∧ q < w.heap.size ∧ w.cell? ⟨q, 0, none⟩ = some (.slice a n p) ∧ w.frozen? ⟨q, 0, none⟩ = false ∧ Rws 0 w (.slice a n p) c ∧ Below W.heap.size W w
def BG (c : Bx) (W w : World) (v : Value) : Prop := ∃ q a n p hi, v = .pointer (some ⟨q, 0, none⟩) ∧ W.heap.size ≤ q ∧ q < w.heap.size ∧ w.cell? ⟨q, 0, none⟩ = some (.slice a n p) ∧ w.frozen? ⟨q, 0, none⟩ = false ∧ GRw w W.heap.size hi (.slice a n p) c ∧ hi ≤ w.heap.size ∧ Below W.heap.size W w
def BQV (P : Nat → Prop) (c : Bx) (W w : World) (v : Value) : Prop := ∃ q a n p, v = .pointer (some ⟨q, 0, none⟩) ∧ W.heap.size ≤ q ∧ q < w.heap.size ∧ w.cell? ⟨q, 0, none⟩ = some (.slice a n p) ∧ w.frozen? ⟨q, 0, none⟩ = false ∧ RwV P w (.slice a n p) c ∧ Below W.heap.size W w
end Go.Proofs.YtajcogpfmpehkaaDoor
