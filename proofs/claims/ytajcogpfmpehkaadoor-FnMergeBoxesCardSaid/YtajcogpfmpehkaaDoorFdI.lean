/- Witnesses: the program's walks. -/
import Derived.Test.YtajcogpfmpehkaaDoorPaJ
import Derived.Test.YtajcogpfmpehkaaDoorRgH
import Derived.Test.YtajcogpfmpehkaaDoorCuW
namespace Go.Proofs.YtajcogpfmpehkaaDoor
open Go.RowKit
theorem Box4.sets {w : World} {b : Nat} {v0 v1 v2 v3 : Int} (h : Box4 w b v0 v1 v2 v3) (a0 a1 a2 a3 : Int) :
    Box4 ((((w.setCell ⟨b, 0, none⟩ (.int .i64 a0)).setCell ⟨b, 1, none⟩ (.int .i64 a1)).setCell ⟨b, 2, none⟩ (.int .i64 a2)).setCell ⟨b, 3, none⟩ (.int .i64 a3)) b a0 a1 a2 a3 := Box4.all h a0 a1 a2 a3
/-- A packet of one list's accepted and the other one's dropped boxes. -/
def fwit (A D A' D' : List Bx) : Option Pk := match ftouch A D' with
  | some p => some p
  | none => ftouch D A'
theorem fdif_wit {fs gs x y : List Ft} {r c : Bool} (hx : fparts fs r = some x) (hy : fparts gs c = some y) : fdif fs r gs c = fwit (psel x true) (psel x false) (psel y true) (psel y false) := by
  unfold fdif fwit
  rw [hx, hy]
  rfl
/-- Two cells of a block. -/
def C2 (w : World) (b : Nat) (x y : Value) : Prop := b < w.heap.size ∧ w.cell? ⟨b, 0, none⟩ = some x ∧ w.cell? ⟨b, 1, none⟩ = some y
theorem C2.below {w w' : World} {b : Nat} {x y : Value} (h : C2 w b x y) (hb : Below w.heap.size w w') : C2 w' b x y :=
  ⟨Nat.lt_of_lt_of_le h.1 hb.size, (hb.cell (p := ⟨b, 0, none⟩) h.1).trans h.2.1, (hb.cell (p := ⟨b, 1, none⟩) h.1).trans h.2.2⟩
theorem C2.new (w : World) (x y : Value) (ty : TypeId) : C2 (w.alloc (.cells #[x, y] ty)) w.heap.size x y := ⟨by simp, by simp, by simp⟩
def IssB (w : World) (O : Option (List Ft)) (a b : Value) : Prop := ∀ R, O = some R → Iss 0 w a (psel R true) ∧ Iss 0 w b (psel R false)
theorem IssB.below {w w' : World} {O : Option (List Ft)} {a b : Value} (h : IssB w O a b) (hb : Below w.heap.size w w') : IssB w' O a b := fun R e => ⟨(h R e).1.below hb, (h R e).2.below hb⟩
end Go.Proofs.YtajcogpfmpehkaaDoor
