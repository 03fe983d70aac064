/- How the arguments of the laws are opened. -/
import Derived.Test.YtajcogpfmpehkaaDoorLift
import Derived.Lib.SmallJoins
import Derived.Deep.Slices
namespace Go.Proofs.YtajcogpfmpehkaaDoor
open Go.ChangeShapes Go.WideShapes Go.ChangeAt Go.RowKit Go.Joins
def I64 (n : Int) : Prop := -9223372036854775808 ≤ n ∧ n ≤ 9223372036854775807
/-- The variable's own block in a world for the witnesses. -/
noncomputable def laidWorld (os : Os) : World :=
  { World.holding Tryd.prog os ⟨#[], #[], []⟩ with heap := (World.holding Tryd.prog os ⟨#[], #[], []⟩).heap.modify 0 fun
      | .cells _ t frozen => .cells #[.string ⟨#[102, 114, 111, 109]⟩, .int .i64 65535, .string ⟨#[116, 111]⟩, .int .i64 65535, .string ⟨#[112, 111, 114, 116]⟩, .int .i64 255, .string ⟨#[112, 114, 111, 116, 111]⟩, .int .i64 7] t frozen
      | o => o }
end Go.Proofs.YtajcogpfmpehkaaDoor
