/-
  NARROWER THAN 'FOR EVERY INPUT', by the rows' own cells (each row's printed sentence says how): FnTrimEqual: laid · FnFirstDiffer: laid · FnMergeBoxes: laid · FnMergeSelf: laid.
  DERIVED. THE GIVEN ROWS OF THIS SEAT. 4 by the template 'for every input the law returns true; each argument reads behind the call as it read before'; 0 by the template 'total and deterministic' (their statements: YtajcogpfmpehkaaDoorTotals.lean).
  GIVEN WITH THE SEED: the statements are not yours to turn. If you find one false, say at which input.
  Laid BY PROGRAM, IN A SANDBOX (cutbox-rows.mjs): the forced cells as the released guide's own fill.sh prints them over the translation c11598979633a253… (all of the seat's roots in one cut). By AI agents, Wed Nov 11 2026. No macro, syntax, notation, axiom, sorry.
-/
import Derived.Test.YtajcogpfmpehkaaDoorChecked
import GoSem.Claim
import GoSem.ClaimJoined
import GoSem.ClaimMapViews
import Derived.JoinedTies
import Derived.KernelRfl
namespace Go.Proofs.YtajcogpfmpehkaaDoor
/- THE CELL 'sum', in the pinned program and in every row, IS THE sha256 OF THE DUMP (.gsa) THAT YtajcogpfmpehkaaDoorProg.lean LOADS. Nothing in Lean hashes anything: it is a label: what it is worth is what the hold of that sum in a sandbox is worth. -/
noncomputable def Tryd.pinned : Pinned := { name := "ytajcogpfmpehkaadoor", sum := "c11598979633a253b614efe16356282e357e5f34f8c53fd3d9088dcb3215d7c5", checked := Tryd.checked }
namespace Rows
def none {H : Type} : Left H := { results := [], args := [] }

/- WHAT THE LISTED PACKAGE-LEVEL VARIABLES READ AS WHEN THE CALL BEGINS. Each datum BY PROGRAM (the guide's laid-datum.mjs) off the statement by which the dump's own 'gosem.cut.vars' lays the variable. In a bare row this is a premise. The card (YtajcogpfmpehkaaDoorCards.lean) ties it to the program's text. -/
def laid_loop_example_packetfilter_impl_fieldShapes {H : Type} : DataW H := .agg [.agg [.lit (.string [102, 114, 111, 109]), .lit (.int .i64 65535)], .agg [.lit (.string [116, 111]), .lit (.int .i64 65535)], .agg [.lit (.string [112, 111, 114, 116]), .lit (.int .i64 255)], .agg [.lit (.string [112, 114, 111, 116, 111]), .lit (.int .i64 7)]]

/-- 'laws.FnTrimEqual': WHATEVER THE INPUT: true; the input reads as it did. -/
def fnTrimEqualSpec : ChangeSpec := { name := "fnTrimEqual", vars := ["loop.example/packetfilter/impl.fieldShapes"], fn := fun _ => fun
  | [d, g1] => { results := [.lit (.bool true)], args := [d], vars := [g1] }
  | _ => none }
def fnTrimEqualRow : OpenClaim := { program := "ytajcogpfmpehkaadoor", sum := "c11598979633a253b614efe16356282e357e5f34f8c53fd3d9088dcb3215d7c5", func := "loop.example/packetfilter/laws.FnTrimEqual", spec := "fnTrimEqual", unfollowed := true, recurses := true, named := ["loop.example/packetfilter/impl.fieldShapes"], apart := false, laid := [("loop.example/packetfilter/impl.fieldShapes", laid_loop_example_packetfilter_impl_fieldShapes)] }
def FnTrimEqualSaid : Prop := fnTrimEqualRow.holds Tryd.pinned (OpenSpec.ofChange fnTrimEqualSpec)

/-- ITS FALSE NEIGHBOUR: 'it returns false'. Refute it at one input. -/
def fnTrimEqualWrong : ChangeSpec := { name := "fnTrimEqual", vars := ["loop.example/packetfilter/impl.fieldShapes"], fn := fun _ => fun
  | [d, g1] => { results := [.lit (.bool false)], args := [d], vars := [g1] }
  | _ => none }
def FnTrimEqualWrongFalsely : Prop := fnTrimEqualRow.holds Tryd.pinned (OpenSpec.ofChange fnTrimEqualWrong)

/-- 'laws.FnFirstDiffer': WHATEVER THE INPUT: true; the input reads as it did. -/
def fnFirstDifferSpec : ChangeSpec := { name := "fnFirstDiffer", vars := ["loop.example/packetfilter/impl.fieldShapes"], fn := fun _ => fun
  | [d1, d2, g1] => { results := [.lit (.bool true)], args := [d1, d2], vars := [g1] }
  | _ => none }
def fnFirstDifferRow : OpenClaim := { program := "ytajcogpfmpehkaadoor", sum := "c11598979633a253b614efe16356282e357e5f34f8c53fd3d9088dcb3215d7c5", func := "loop.example/packetfilter/laws.FnFirstDiffer", spec := "fnFirstDiffer", unfollowed := true, recurses := true, named := ["loop.example/packetfilter/impl.fieldShapes"], apart := false, laid := [("loop.example/packetfilter/impl.fieldShapes", laid_loop_example_packetfilter_impl_fieldShapes)] }
def FnFirstDifferSaid : Prop := fnFirstDifferRow.holds Tryd.pinned (OpenSpec.ofChange fnFirstDifferSpec)

/-- ITS FALSE NEIGHBOUR: 'it returns false'. Refute it at one input. -/
def fnFirstDifferWrong : ChangeSpec := { name := "fnFirstDiffer", vars := ["loop.example/packetfilter/impl.fieldShapes"], fn := fun _ => fun
  | [d1, d2, g1] => { results := [.lit (.bool false)], args := [d1, d2], vars := [g1] }
  | _ => none }
def FnFirstDifferWrongFalsely : Prop := fnFirstDifferRow.holds Tryd.pinned (OpenSpec.ofChange fnFirstDifferWrong)

/-- 'laws.FnMergeBoxes': WHATEVER THE INPUT: true; the input reads as it did. -/
def fnMergeBoxesSpec : ChangeSpec := { name := "fnMergeBoxes", vars := ["loop.example/packetfilter/impl.fieldShapes"], fn := fun _ => fun
  | [d1, d2, g1] => { results := [.lit (.bool true)], args := [d1, d2], vars := [g1] }
  | _ => none }
def fnMergeBoxesRow : OpenClaim := { program := "ytajcogpfmpehkaadoor", sum := "c11598979633a253b614efe16356282e357e5f34f8c53fd3d9088dcb3215d7c5", func := "loop.example/packetfilter/laws.FnMergeBoxes", spec := "fnMergeBoxes", unfollowed := true, recurses := true, named := ["loop.example/packetfilter/impl.fieldShapes"], apart := false, laid := [("loop.example/packetfilter/impl.fieldShapes", laid_loop_example_packetfilter_impl_fieldShapes)] }
def FnMergeBoxesSaid : Prop := fnMergeBoxesRow.holds Tryd.pinned (OpenSpec.ofChange fnMergeBoxesSpec)

/-- ITS FALSE NEIGHBOUR: 'it returns false'. Refute it at one input. -/
def fnMergeBoxesWrong : ChangeSpec := { name := "fnMergeBoxes", vars := ["loop.example/packetfilter/impl.fieldShapes"], fn := fun _ => fun
  | [d1, d2, g1] => { results := [.lit (.bool false)], args := [d1, d2], vars := [g1] }
  | _ => none }
def FnMergeBoxesWrongFalsely : Prop := fnMergeBoxesRow.holds Tryd.pinned (OpenSpec.ofChange fnMergeBoxesWrong)

/-- 'laws.FnMergeSelf': WHATEVER THE INPUT: true; the input reads as it did. -/
def fnMergeSelfSpec : ChangeSpec := { name := "fnMergeSelf", vars := ["loop.example/packetfilter/impl.fieldShapes"], fn := fun _ => fun
  | [d, g1] => { results := [.lit (.bool true)], args := [d], vars := [g1] }
  | _ => none }
def fnMergeSelfRow : OpenClaim := { program := "ytajcogpfmpehkaadoor", sum := "c11598979633a253b614efe16356282e357e5f34f8c53fd3d9088dcb3215d7c5", func := "loop.example/packetfilter/laws.FnMergeSelf", spec := "fnMergeSelf", unfollowed := true, recurses := true, named := ["loop.example/packetfilter/impl.fieldShapes"], apart := false, laid := [("loop.example/packetfilter/impl.fieldShapes", laid_loop_example_packetfilter_impl_fieldShapes)] }
def FnMergeSelfSaid : Prop := fnMergeSelfRow.holds Tryd.pinned (OpenSpec.ofChange fnMergeSelfSpec)

/-- ITS FALSE NEIGHBOUR: 'it returns false'. Refute it at one input. -/
def fnMergeSelfWrong : ChangeSpec := { name := "fnMergeSelf", vars := ["loop.example/packetfilter/impl.fieldShapes"], fn := fun _ => fun
  | [d, g1] => { results := [.lit (.bool false)], args := [d], vars := [g1] }
  | _ => none }
def FnMergeSelfWrongFalsely : Prop := fnMergeSelfRow.holds Tryd.pinned (OpenSpec.ofChange fnMergeSelfWrong)

/- THE SECOND FORM. 'bulk': how many values and letters a reading holds, each counted each time it is reached (what is shared counts as often as it is met; a slice's spare places count too). A statement '..UptoSaid' is the law's where the arguments, and the package variables that the reading takes, are together of bulk at most 1048576: NARROWER than '..Said'. Prove '..Said' where nothing that the law and all that it calls make is longer than what came in: it says more and counts as full. Else prove '..UptoSaid'. A law counts once. -/
mutual
def uptoBulk {H : Type} : DataW H → Nat
  | .lit (.string bytes) => bytes.length + 1
  | .lit _ => 1
  | .nil => 1
  | .ptr d => uptoBulk d + 1
  | .slice elems spare => uptoBulkAll elems + uptoBulkAll spare + 1
  | .agg parts => uptoBulkAll parts + 1
  | .iface _ d => uptoBulk d + 1
  | .map entries => uptoBulkEntries entries + 1
  | .held _ => 1
def uptoBulkAll {H : Type} : List (DataW H) → Nat
  | [] => 0
  | d :: r => uptoBulk d + uptoBulkAll r
def uptoBulkEntries {H : Type} : List (Lit × DataW H) → Nat
  | [] => 0
  | x :: r => uptoBulkEntry x + uptoBulkEntries r
def uptoBulkEntry {H : Type} : Lit × DataW H → Nat
  | (.string bytes, d) => bytes.length + uptoBulk d + 1
  | (_, d) => uptoBulk d + 1
 end
def uptoSmall : (H : Type) → List (DataW H) → Bool := fun _ ds => decide (uptoBulkAll ds ≤ 1048576)
def OpenSpec.upto (s : _root_.Go.ChangeSpec) : _root_.Go.OpenSpec := { _root_.Go.OpenSpec.ofChange s with cond := some uptoSmall }

/-- 'laws.FnTrimEqual', WHERE WHAT IT READS IS OF BULK AT MOST 1048576: true; the input reads as it did. -/
def fnTrimEqualUptoRow : OpenClaim := { program := "ytajcogpfmpehkaadoor", sum := "c11598979633a253b614efe16356282e357e5f34f8c53fd3d9088dcb3215d7c5", func := "loop.example/packetfilter/laws.FnTrimEqual", spec := "fnTrimEqual", unfollowed := true, recurses := true, named := ["loop.example/packetfilter/impl.fieldShapes"], apart := false, laid := [("loop.example/packetfilter/impl.fieldShapes", laid_loop_example_packetfilter_impl_fieldShapes)], narrowed := true }
def FnTrimEqualUptoSaid : Prop := fnTrimEqualUptoRow.holds Tryd.pinned (OpenSpec.upto fnTrimEqualSpec)

/-- 'laws.FnFirstDiffer', WHERE WHAT IT READS IS OF BULK AT MOST 1048576: true; the input reads as it did. -/
def fnFirstDifferUptoRow : OpenClaim := { program := "ytajcogpfmpehkaadoor", sum := "c11598979633a253b614efe16356282e357e5f34f8c53fd3d9088dcb3215d7c5", func := "loop.example/packetfilter/laws.FnFirstDiffer", spec := "fnFirstDiffer", unfollowed := true, recurses := true, named := ["loop.example/packetfilter/impl.fieldShapes"], apart := false, laid := [("loop.example/packetfilter/impl.fieldShapes", laid_loop_example_packetfilter_impl_fieldShapes)], narrowed := true }
def FnFirstDifferUptoSaid : Prop := fnFirstDifferUptoRow.holds Tryd.pinned (OpenSpec.upto fnFirstDifferSpec)

/-- 'laws.FnMergeBoxes', WHERE WHAT IT READS IS OF BULK AT MOST 1048576: true; the input reads as it did. -/
def fnMergeBoxesUptoRow : OpenClaim := { program := "ytajcogpfmpehkaadoor", sum := "c11598979633a253b614efe16356282e357e5f34f8c53fd3d9088dcb3215d7c5", func := "loop.example/packetfilter/laws.FnMergeBoxes", spec := "fnMergeBoxes", unfollowed := true, recurses := true, named := ["loop.example/packetfilter/impl.fieldShapes"], apart := false, laid := [("loop.example/packetfilter/impl.fieldShapes", laid_loop_example_packetfilter_impl_fieldShapes)], narrowed := true }
def FnMergeBoxesUptoSaid : Prop := fnMergeBoxesUptoRow.holds Tryd.pinned (OpenSpec.upto fnMergeBoxesSpec)

/-- 'laws.FnMergeSelf', WHERE WHAT IT READS IS OF BULK AT MOST 1048576: true; the input reads as it did. -/
def fnMergeSelfUptoRow : OpenClaim := { program := "ytajcogpfmpehkaadoor", sum := "c11598979633a253b614efe16356282e357e5f34f8c53fd3d9088dcb3215d7c5", func := "loop.example/packetfilter/laws.FnMergeSelf", spec := "fnMergeSelf", unfollowed := true, recurses := true, named := ["loop.example/packetfilter/impl.fieldShapes"], apart := false, laid := [("loop.example/packetfilter/impl.fieldShapes", laid_loop_example_packetfilter_impl_fieldShapes)], narrowed := true }
def FnMergeSelfUptoSaid : Prop := fnMergeSelfUptoRow.holds Tryd.pinned (OpenSpec.upto fnMergeSelfSpec)

end Rows
end Go.Proofs.YtajcogpfmpehkaaDoor
