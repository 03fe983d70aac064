/- Parts of all packets: the program's walk. -/
import Derived.Test.YtajcogpfmpehkaaDoorPaP
import Derived.Test.YtajcogpfmpehkaaDoorLvS
namespace Go.Proofs.YtajcogpfmpehkaaDoor
open Go.RowKit
/-- The parts in the making: two lists in the cells of block P. -/
structure PT (base P : Nat) (w : World) (out : List Ft) : Prop where
  le : base ≤ P
  lt : P < w.heap.size
  fz : ∀ j, w.frozen? ⟨P, j, none⟩ = false
  vs : ∃ va vd, w.cell? ⟨P, 0, none⟩ = some va ∧ w.cell? ⟨P, 1, none⟩ = some vd ∧ va.ownBlock ≠ some P ∧ vd.ownBlock ≠ some P ∧ (∀ z, va.ownBlock = some z → vd.ownBlock ≠ some z) ∧ NX (fun k => k = P ∨ some k = vd.ownBlock) base w va (psel out true) ∧ NX (fun k => k = P ∨ some k = va.ownBlock) base w vd (psel out false)
theorem NX.lt {X : Nat → Prop} {lo : Nat} {w : World} {v : Value} {bs : List Bx} (h : NX X lo w v bs) : ∀ z, v.ownBlock = some z → lo ≤ z ∧ z < w.heap.size := by
  obtain ⟨rs, h1, _⟩ := h
  exact fun z hz => World.ownsRow.lt h1 z hz
theorem PT.below {base P : Nat} {w w' : World} {out : List Ft} (h : PT base P w out) (hb : Below w.heap.size w w') : PT base P w' out := by
  obtain ⟨va, vd, c0, c1, n0, n1, n2, ha, hd⟩ := h.vs
  exact ⟨h.le, Nat.lt_of_lt_of_le h.lt hb.size, fun j => (hb.frozen (p := ⟨P, j, none⟩) h.lt).trans (h.fz j), va, vd, (hb.cell (p := ⟨P, 0, none⟩) h.lt).trans c0, (hb.cell (p := ⟨P, 1, none⟩) h.lt).trans c1, n0, n1, n2, ha.below hb, hd.below hb⟩
theorem PT.start {base : Nat} {w : World} (hb : base ≤ w.heap.size) (ty : TypeId) : PT base w.heap.size (w.alloc (.cells #[.slice none 0 0, .slice none 0 0] ty)) [] :=
  ⟨hb, by simp, fun j => frz_new w _ _ j, _, _, by simp, by simp, fun e => (by cases e), fun e => (by cases e), fun z e => (by cases e), ⟨[], World.ownsRow_nil _ _ _ _, All2.nil⟩, ⟨[], World.ownsRow_nil _ _ _ _, All2.nil⟩⟩
end Go.Proofs.YtajcogpfmpehkaaDoor
