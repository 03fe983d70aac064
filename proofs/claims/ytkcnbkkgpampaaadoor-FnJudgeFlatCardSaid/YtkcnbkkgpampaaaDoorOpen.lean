/- How the arguments of the laws are opened. -/
import Derived.Test.YtkcnbkkgpampaaaDoorLift
import Derived.Lib.SmallJoins
import Derived.Deep.Slices
namespace Go.Proofs.YtkcnbkkgpampaaaDoor
open Go.ChangeShapes Go.WideShapes Go.ChangeAt Go.RowKit Go.Joins
def I64 (n : Int) : Prop := -9223372036854775808 ≤ n ∧ n ≤ 9223372036854775807
theorem i64_of_wf {n : Int} (h : (Lit.int .i64 n).wf = true) : I64 n := by
  exact bounds_i64 h
theorem cellsLPacket : Tryd.prog.cellsOf 30 = 4 := by kernel_rfl
set_option maxRecDepth 100000 in
/-- A packet that comes in. -/
theorem open_packet {H : Type} {enc : TypeId × Value → H} {W : World} {base : Nat} {sp : Nat → Bool} {held : Bool} {r : Reach} {b0 : Nat} {v : Value} {d : DataW H} {p : List MemPlace}
    (hv : Value.okWide Tryd.prog W r b0 30 v) (h : DataW.Trod enc Tryd.prog W base sp held 30 v d p) :
    ∃ a b c e : Int, v = .agg #[.int .i64 a, .int .i64 b, .int .i64 c, .int .i64 e] := by
  obtain ⟨v0, v1, v2, v3, y0, y1, y2, y3, n, rfl, _, _, h0, h1, h2, h3⟩ := open_agg4 Tryd.underlying30 (by kernel_rfl) cellsLPacket hv h
  obtain ⟨a, e0, _⟩ := DataW.trod_int Tryd.underlying3 h0
  obtain ⟨b, e1, _⟩ := DataW.trod_int Tryd.underlying3 h1
  obtain ⟨c, e2, _⟩ := DataW.trod_int Tryd.underlying3 h2
  obtain ⟨e, e3, _⟩ := DataW.trod_int Tryd.underlying3 h3
  simp only [List.cons.injEq, and_true] at e0 e1 e2 e3
  subst e0 e1 e2 e3
  exact ⟨a, b, c, e, rfl⟩
/-- The variable's own block in a world for the witnesses. -/
noncomputable def laidWorld (os : Os) : World :=
  { World.holding Tryd.prog os ⟨#[], #[], []⟩ with heap := (World.holding Tryd.prog os ⟨#[], #[], []⟩).heap.modify 0 fun
      | .cells _ t frozen => .cells #[.string ⟨#[102, 114, 111, 109]⟩, .int .i64 65535, .string ⟨#[116, 111]⟩, .int .i64 65535, .string ⟨#[112, 111, 114, 116]⟩, .int .i64 255, .string ⟨#[112, 114, 111, 116, 111]⟩, .int .i64 7] t frozen
      | o => o }
end Go.Proofs.YtkcnbkkgpampaaaDoor
