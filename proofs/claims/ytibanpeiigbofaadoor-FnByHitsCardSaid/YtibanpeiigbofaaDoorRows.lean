/-
  NARROWER THAN 'FOR EVERY INPUT', by the rows' own cells (each row's printed sentence says how): FnExactMergeFlats: laid · FnExactFlatParts: laid · FnExactShorten: laid · FnExactFirstDiffer: laid · FnExactFlatsSame: laid · FnExactNewlyOpen: laid · FnByHits: laid · FnMergeBoxes: laid · FnMergeSelf: laid · FnDeadAfter: laid · FnDeadFlats: laid · FnLivePart: laid.
  DERIVED. THE GIVEN ROWS OF THIS SEAT. 12 by the template 'for every input the law returns true; each argument reads behind the call as it read before'; 0 by the template 'total and deterministic' (their statements: YtibanpeiigbofaaDoorTotals.lean).
  GIVEN WITH THE SEED: the statements are not yours to turn. If you find one false, say at which input.
  Laid BY PROGRAM, IN A SANDBOX (cutbox-rows.mjs): the forced cells as the released guide's own fill.sh prints them over the translation 2cac1000667a421e… (all of the seat's roots in one cut). By AI agents, Wed Nov 11 2026. No macro, syntax, notation, axiom, sorry.
-/
import Derived.Test.YtibanpeiigbofaaDoorChecked
import GoSem.Claim
import GoSem.ClaimJoined
import GoSem.ClaimMapViews
import Derived.JoinedTies
import Derived.KernelRfl
namespace Go.Proofs.YtibanpeiigbofaaDoor
/- THE CELL 'sum', in the pinned program and in every row, IS THE sha256 OF THE DUMP (.gsa) THAT YtibanpeiigbofaaDoorProg.lean LOADS. Nothing in Lean hashes anything: it is a label: what it is worth is what the hold of that sum in a sandbox is worth. -/
noncomputable def Tryd.pinned : Pinned := { name := "ytibanpeiigbofaadoor", sum := "2cac1000667a421e3626329b05cdd1fbe114f2c36466e92cc145a2520d1ee896", checked := Tryd.checked }
namespace Rows
def none {H : Type} : Left H := { results := [], args := [] }

/- WHAT THE LISTED PACKAGE-LEVEL VARIABLES READ AS WHEN THE CALL BEGINS. Each datum BY PROGRAM (the guide's laid-datum.mjs) off the statement by which the dump's own 'gosem.cut.vars' lays the variable. In a bare row this is a premise. The card (YtibanpeiigbofaaDoorCards.lean) ties it to the program's text. -/
def laid_loop_example_packetfilter_impl_fieldShapes {H : Type} : DataW H := .agg [.agg [.lit (.string [102, 114, 111, 109]), .lit (.int .i64 65535)], .agg [.lit (.string [116, 111]), .lit (.int .i64 65535)], .agg [.lit (.string [112, 111, 114, 116]), .lit (.int .i64 255)], .agg [.lit (.string [112, 114, 111, 116, 111]), .lit (.int .i64 7)]]

/-- 'laws.FnExactMergeFlats': WHATEVER THE INPUT: true; the input reads as it did. -/
def fnExactMergeFlatsSpec : ChangeSpec := { name := "fnExactMergeFlats", vars := ["loop.example/packetfilter/impl.fieldShapes"], fn := fun _ => fun
  | [d, g1] => { results := [.lit (.bool true)], args := [d], vars := [g1] }
  | _ => none }
def fnExactMergeFlatsRow : OpenClaim := { program := "ytibanpeiigbofaadoor", sum := "2cac1000667a421e3626329b05cdd1fbe114f2c36466e92cc145a2520d1ee896", func := "loop.example/packetfilter/laws.FnExactMergeFlats", spec := "fnExactMergeFlats", unfollowed := true, recurses := true, named := ["loop.example/packetfilter/impl.fieldShapes"], apart := false, laid := [("loop.example/packetfilter/impl.fieldShapes", laid_loop_example_packetfilter_impl_fieldShapes)] }
def FnExactMergeFlatsSaid : Prop := fnExactMergeFlatsRow.holds Tryd.pinned (OpenSpec.ofChange fnExactMergeFlatsSpec)

/-- ITS FALSE NEIGHBOUR: 'it returns false'. Refute it at one input. -/
def fnExactMergeFlatsWrong : ChangeSpec := { name := "fnExactMergeFlats", vars := ["loop.example/packetfilter/impl.fieldShapes"], fn := fun _ => fun
  | [d, g1] => { results := [.lit (.bool false)], args := [d], vars := [g1] }
  | _ => none }
def FnExactMergeFlatsWrongFalsely : Prop := fnExactMergeFlatsRow.holds Tryd.pinned (OpenSpec.ofChange fnExactMergeFlatsWrong)

/-- 'laws.FnExactFlatParts': WHATEVER THE INPUT: true; the input reads as it did. -/
def fnExactFlatPartsSpec : ChangeSpec := { name := "fnExactFlatParts", vars := ["loop.example/packetfilter/impl.fieldShapes"], fn := fun _ => fun
  | [d1, d2, d3, g1] => { results := [.lit (.bool true)], args := [d1, d2, d3], vars := [g1] }
  | _ => none }
def fnExactFlatPartsRow : OpenClaim := { program := "ytibanpeiigbofaadoor", sum := "2cac1000667a421e3626329b05cdd1fbe114f2c36466e92cc145a2520d1ee896", func := "loop.example/packetfilter/laws.FnExactFlatParts", spec := "fnExactFlatParts", unfollowed := true, recurses := true, named := ["loop.example/packetfilter/impl.fieldShapes"], apart := false, laid := [("loop.example/packetfilter/impl.fieldShapes", laid_loop_example_packetfilter_impl_fieldShapes)] }
def FnExactFlatPartsSaid : Prop := fnExactFlatPartsRow.holds Tryd.pinned (OpenSpec.ofChange fnExactFlatPartsSpec)

/-- ITS FALSE NEIGHBOUR: 'it returns false'. Refute it at one input. -/
def fnExactFlatPartsWrong : ChangeSpec := { name := "fnExactFlatParts", vars := ["loop.example/packetfilter/impl.fieldShapes"], fn := fun _ => fun
  | [d1, d2, d3, g1] => { results := [.lit (.bool false)], args := [d1, d2, d3], vars := [g1] }
  | _ => none }
def FnExactFlatPartsWrongFalsely : Prop := fnExactFlatPartsRow.holds Tryd.pinned (OpenSpec.ofChange fnExactFlatPartsWrong)

/-- 'laws.FnExactShorten': WHATEVER THE INPUT: true; the input reads as it did. -/
def fnExactShortenSpec : ChangeSpec := { name := "fnExactShorten", vars := ["loop.example/packetfilter/impl.fieldShapes"], fn := fun _ => fun
  | [d1, d2, g1] => { results := [.lit (.bool true)], args := [d1, d2], vars := [g1] }
  | _ => none }
def fnExactShortenRow : OpenClaim := { program := "ytibanpeiigbofaadoor", sum := "2cac1000667a421e3626329b05cdd1fbe114f2c36466e92cc145a2520d1ee896", func := "loop.example/packetfilter/laws.FnExactShorten", spec := "fnExactShorten", unfollowed := true, recurses := true, named := ["loop.example/packetfilter/impl.fieldShapes"], apart := false, laid := [("loop.example/packetfilter/impl.fieldShapes", laid_loop_example_packetfilter_impl_fieldShapes)] }
def FnExactShortenSaid : Prop := fnExactShortenRow.holds Tryd.pinned (OpenSpec.ofChange fnExactShortenSpec)

/-- ITS FALSE NEIGHBOUR: 'it returns false'. Refute it at one input. -/
def fnExactShortenWrong : ChangeSpec := { name := "fnExactShorten", vars := ["loop.example/packetfilter/impl.fieldShapes"], fn := fun _ => fun
  | [d1, d2, g1] => { results := [.lit (.bool false)], args := [d1, d2], vars := [g1] }
  | _ => none }
def FnExactShortenWrongFalsely : Prop := fnExactShortenRow.holds Tryd.pinned (OpenSpec.ofChange fnExactShortenWrong)

/-- 'laws.FnExactFirstDiffer': WHATEVER THE INPUT: true; the input reads as it did. -/
def fnExactFirstDifferSpec : ChangeSpec := { name := "fnExactFirstDiffer", vars := ["loop.example/packetfilter/impl.fieldShapes"], fn := fun _ => fun
  | [d1, d2, d3, d4, g1] => { results := [.lit (.bool true)], args := [d1, d2, d3, d4], vars := [g1] }
  | _ => none }
def fnExactFirstDifferRow : OpenClaim := { program := "ytibanpeiigbofaadoor", sum := "2cac1000667a421e3626329b05cdd1fbe114f2c36466e92cc145a2520d1ee896", func := "loop.example/packetfilter/laws.FnExactFirstDiffer", spec := "fnExactFirstDiffer", unfollowed := true, recurses := true, named := ["loop.example/packetfilter/impl.fieldShapes"], apart := false, laid := [("loop.example/packetfilter/impl.fieldShapes", laid_loop_example_packetfilter_impl_fieldShapes)] }
def FnExactFirstDifferSaid : Prop := fnExactFirstDifferRow.holds Tryd.pinned (OpenSpec.ofChange fnExactFirstDifferSpec)

/-- ITS FALSE NEIGHBOUR: 'it returns false'. Refute it at one input. -/
def fnExactFirstDifferWrong : ChangeSpec := { name := "fnExactFirstDiffer", vars := ["loop.example/packetfilter/impl.fieldShapes"], fn := fun _ => fun
  | [d1, d2, d3, d4, g1] => { results := [.lit (.bool false)], args := [d1, d2, d3, d4], vars := [g1] }
  | _ => none }
def FnExactFirstDifferWrongFalsely : Prop := fnExactFirstDifferRow.holds Tryd.pinned (OpenSpec.ofChange fnExactFirstDifferWrong)

/-- 'laws.FnExactFlatsSame': WHATEVER THE INPUT: true; the input reads as it did. -/
def fnExactFlatsSameSpec : ChangeSpec := { name := "fnExactFlatsSame", vars := ["loop.example/packetfilter/impl.fieldShapes"], fn := fun _ => fun
  | [d1, d2, d3, d4, g1] => { results := [.lit (.bool true)], args := [d1, d2, d3, d4], vars := [g1] }
  | _ => none }
def fnExactFlatsSameRow : OpenClaim := { program := "ytibanpeiigbofaadoor", sum := "2cac1000667a421e3626329b05cdd1fbe114f2c36466e92cc145a2520d1ee896", func := "loop.example/packetfilter/laws.FnExactFlatsSame", spec := "fnExactFlatsSame", unfollowed := true, recurses := true, named := ["loop.example/packetfilter/impl.fieldShapes"], apart := false, laid := [("loop.example/packetfilter/impl.fieldShapes", laid_loop_example_packetfilter_impl_fieldShapes)] }
def FnExactFlatsSameSaid : Prop := fnExactFlatsSameRow.holds Tryd.pinned (OpenSpec.ofChange fnExactFlatsSameSpec)

/-- ITS FALSE NEIGHBOUR: 'it returns false'. Refute it at one input. -/
def fnExactFlatsSameWrong : ChangeSpec := { name := "fnExactFlatsSame", vars := ["loop.example/packetfilter/impl.fieldShapes"], fn := fun _ => fun
  | [d1, d2, d3, d4, g1] => { results := [.lit (.bool false)], args := [d1, d2, d3, d4], vars := [g1] }
  | _ => none }
def FnExactFlatsSameWrongFalsely : Prop := fnExactFlatsSameRow.holds Tryd.pinned (OpenSpec.ofChange fnExactFlatsSameWrong)

/-- 'laws.FnExactNewlyOpen': WHATEVER THE INPUT: true; the input reads as it did. -/
def fnExactNewlyOpenSpec : ChangeSpec := { name := "fnExactNewlyOpen", vars := ["loop.example/packetfilter/impl.fieldShapes"], fn := fun _ => fun
  | [d1, d2, d3, d4, g1] => { results := [.lit (.bool true)], args := [d1, d2, d3, d4], vars := [g1] }
  | _ => none }
def fnExactNewlyOpenRow : OpenClaim := { program := "ytibanpeiigbofaadoor", sum := "2cac1000667a421e3626329b05cdd1fbe114f2c36466e92cc145a2520d1ee896", func := "loop.example/packetfilter/laws.FnExactNewlyOpen", spec := "fnExactNewlyOpen", unfollowed := true, recurses := true, named := ["loop.example/packetfilter/impl.fieldShapes"], apart := false, laid := [("loop.example/packetfilter/impl.fieldShapes", laid_loop_example_packetfilter_impl_fieldShapes)] }
def FnExactNewlyOpenSaid : Prop := fnExactNewlyOpenRow.holds Tryd.pinned (OpenSpec.ofChange fnExactNewlyOpenSpec)

/-- ITS FALSE NEIGHBOUR: 'it returns false'. Refute it at one input. -/
def fnExactNewlyOpenWrong : ChangeSpec := { name := "fnExactNewlyOpen", vars := ["loop.example/packetfilter/impl.fieldShapes"], fn := fun _ => fun
  | [d1, d2, d3, d4, g1] => { results := [.lit (.bool false)], args := [d1, d2, d3, d4], vars := [g1] }
  | _ => none }
def FnExactNewlyOpenWrongFalsely : Prop := fnExactNewlyOpenRow.holds Tryd.pinned (OpenSpec.ofChange fnExactNewlyOpenWrong)

/-- 'laws.FnByHits': WHATEVER THE INPUT: true; the input reads as it did. -/
def fnByHitsSpec : ChangeSpec := { name := "fnByHits", vars := ["loop.example/packetfilter/impl.fieldShapes"], fn := fun _ => fun
  | [d1, d2, g1] => { results := [.lit (.bool true)], args := [d1, d2], vars := [g1] }
  | _ => none }
def fnByHitsRow : OpenClaim := { program := "ytibanpeiigbofaadoor", sum := "2cac1000667a421e3626329b05cdd1fbe114f2c36466e92cc145a2520d1ee896", func := "loop.example/packetfilter/laws.FnByHits", spec := "fnByHits", unfollowed := true, recurses := true, named := ["loop.example/packetfilter/impl.fieldShapes"], apart := false, laid := [("loop.example/packetfilter/impl.fieldShapes", laid_loop_example_packetfilter_impl_fieldShapes)] }
def FnByHitsSaid : Prop := fnByHitsRow.holds Tryd.pinned (OpenSpec.ofChange fnByHitsSpec)

/-- ITS FALSE NEIGHBOUR: 'it returns false'. Refute it at one input. -/
def fnByHitsWrong : ChangeSpec := { name := "fnByHits", vars := ["loop.example/packetfilter/impl.fieldShapes"], fn := fun _ => fun
  | [d1, d2, g1] => { results := [.lit (.bool false)], args := [d1, d2], vars := [g1] }
  | _ => none }
def FnByHitsWrongFalsely : Prop := fnByHitsRow.holds Tryd.pinned (OpenSpec.ofChange fnByHitsWrong)

/-- 'laws.FnMergeBoxes': WHATEVER THE INPUT: true; the input reads as it did. -/
def fnMergeBoxesSpec : ChangeSpec := { name := "fnMergeBoxes", vars := ["loop.example/packetfilter/impl.fieldShapes"], fn := fun _ => fun
  | [d1, d2, g1] => { results := [.lit (.bool true)], args := [d1, d2], vars := [g1] }
  | _ => none }
def fnMergeBoxesRow : OpenClaim := { program := "ytibanpeiigbofaadoor", sum := "2cac1000667a421e3626329b05cdd1fbe114f2c36466e92cc145a2520d1ee896", func := "loop.example/packetfilter/laws.FnMergeBoxes", spec := "fnMergeBoxes", unfollowed := true, recurses := true, named := ["loop.example/packetfilter/impl.fieldShapes"], apart := false, laid := [("loop.example/packetfilter/impl.fieldShapes", laid_loop_example_packetfilter_impl_fieldShapes)] }
def FnMergeBoxesSaid : Prop := fnMergeBoxesRow.holds Tryd.pinned (OpenSpec.ofChange fnMergeBoxesSpec)

/-- ITS FALSE NEIGHBOUR: 'it returns false'. Refute it at one input. -/
def fnMergeBoxesWrong : ChangeSpec := { name := "fnMergeBoxes", vars := ["loop.example/packetfilter/impl.fieldShapes"], fn := fun _ => fun
  | [d1, d2, g1] => { results := [.lit (.bool false)], args := [d1, d2], vars := [g1] }
  | _ => none }
def FnMergeBoxesWrongFalsely : Prop := fnMergeBoxesRow.holds Tryd.pinned (OpenSpec.ofChange fnMergeBoxesWrong)

/-- 'laws.FnMergeSelf': WHATEVER THE INPUT: true; the input reads as it did. -/
def fnMergeSelfSpec : ChangeSpec := { name := "fnMergeSelf", vars := ["loop.example/packetfilter/impl.fieldShapes"], fn := fun _ => fun
  | [d, g1] => { results := [.lit (.bool true)], args := [d], vars := [g1] }
  | _ => none }
def fnMergeSelfRow : OpenClaim := { program := "ytibanpeiigbofaadoor", sum := "2cac1000667a421e3626329b05cdd1fbe114f2c36466e92cc145a2520d1ee896", func := "loop.example/packetfilter/laws.FnMergeSelf", spec := "fnMergeSelf", unfollowed := true, recurses := true, named := ["loop.example/packetfilter/impl.fieldShapes"], apart := false, laid := [("loop.example/packetfilter/impl.fieldShapes", laid_loop_example_packetfilter_impl_fieldShapes)] }
def FnMergeSelfSaid : Prop := fnMergeSelfRow.holds Tryd.pinned (OpenSpec.ofChange fnMergeSelfSpec)

/-- ITS FALSE NEIGHBOUR: 'it returns false'. Refute it at one input. -/
def fnMergeSelfWrong : ChangeSpec := { name := "fnMergeSelf", vars := ["loop.example/packetfilter/impl.fieldShapes"], fn := fun _ => fun
  | [d, g1] => { results := [.lit (.bool false)], args := [d], vars := [g1] }
  | _ => none }
def FnMergeSelfWrongFalsely : Prop := fnMergeSelfRow.holds Tryd.pinned (OpenSpec.ofChange fnMergeSelfWrong)

/-- 'laws.FnDeadAfter': WHATEVER THE INPUT: true; the input reads as it did. -/
def fnDeadAfterSpec : ChangeSpec := { name := "fnDeadAfter", vars := ["loop.example/packetfilter/impl.fieldShapes"], fn := fun _ => fun
  | [d, g1] => { results := [.lit (.bool true)], args := [d], vars := [g1] }
  | _ => none }
def fnDeadAfterRow : OpenClaim := { program := "ytibanpeiigbofaadoor", sum := "2cac1000667a421e3626329b05cdd1fbe114f2c36466e92cc145a2520d1ee896", func := "loop.example/packetfilter/laws.FnDeadAfter", spec := "fnDeadAfter", unfollowed := true, recurses := true, named := ["loop.example/packetfilter/impl.fieldShapes"], apart := false, laid := [("loop.example/packetfilter/impl.fieldShapes", laid_loop_example_packetfilter_impl_fieldShapes)] }
def FnDeadAfterSaid : Prop := fnDeadAfterRow.holds Tryd.pinned (OpenSpec.ofChange fnDeadAfterSpec)

/-- ITS FALSE NEIGHBOUR: 'it returns false'. Refute it at one input. -/
def fnDeadAfterWrong : ChangeSpec := { name := "fnDeadAfter", vars := ["loop.example/packetfilter/impl.fieldShapes"], fn := fun _ => fun
  | [d, g1] => { results := [.lit (.bool false)], args := [d], vars := [g1] }
  | _ => none }
def FnDeadAfterWrongFalsely : Prop := fnDeadAfterRow.holds Tryd.pinned (OpenSpec.ofChange fnDeadAfterWrong)

/-- 'laws.FnDeadFlats': WHATEVER THE INPUT: true; the input reads as it did. -/
def fnDeadFlatsSpec : ChangeSpec := { name := "fnDeadFlats", vars := ["loop.example/packetfilter/impl.fieldShapes"], fn := fun _ => fun
  | [d1, d2, g1] => { results := [.lit (.bool true)], args := [d1, d2], vars := [g1] }
  | _ => none }
def fnDeadFlatsRow : OpenClaim := { program := "ytibanpeiigbofaadoor", sum := "2cac1000667a421e3626329b05cdd1fbe114f2c36466e92cc145a2520d1ee896", func := "loop.example/packetfilter/laws.FnDeadFlats", spec := "fnDeadFlats", unfollowed := true, recurses := true, named := ["loop.example/packetfilter/impl.fieldShapes"], apart := false, laid := [("loop.example/packetfilter/impl.fieldShapes", laid_loop_example_packetfilter_impl_fieldShapes)] }
def FnDeadFlatsSaid : Prop := fnDeadFlatsRow.holds Tryd.pinned (OpenSpec.ofChange fnDeadFlatsSpec)

/-- ITS FALSE NEIGHBOUR: 'it returns false'. Refute it at one input. -/
def fnDeadFlatsWrong : ChangeSpec := { name := "fnDeadFlats", vars := ["loop.example/packetfilter/impl.fieldShapes"], fn := fun _ => fun
  | [d1, d2, g1] => { results := [.lit (.bool false)], args := [d1, d2], vars := [g1] }
  | _ => none }
def FnDeadFlatsWrongFalsely : Prop := fnDeadFlatsRow.holds Tryd.pinned (OpenSpec.ofChange fnDeadFlatsWrong)

/-- 'laws.FnLivePart': WHATEVER THE INPUT: true; the input reads as it did. -/
def fnLivePartSpec : ChangeSpec := { name := "fnLivePart", vars := ["loop.example/packetfilter/impl.fieldShapes"], fn := fun _ => fun
  | [d1, d2, g1] => { results := [.lit (.bool true)], args := [d1, d2], vars := [g1] }
  | _ => none }
def fnLivePartRow : OpenClaim := { program := "ytibanpeiigbofaadoor", sum := "2cac1000667a421e3626329b05cdd1fbe114f2c36466e92cc145a2520d1ee896", func := "loop.example/packetfilter/laws.FnLivePart", spec := "fnLivePart", unfollowed := true, recurses := true, named := ["loop.example/packetfilter/impl.fieldShapes"], apart := false, laid := [("loop.example/packetfilter/impl.fieldShapes", laid_loop_example_packetfilter_impl_fieldShapes)] }
def FnLivePartSaid : Prop := fnLivePartRow.holds Tryd.pinned (OpenSpec.ofChange fnLivePartSpec)

/-- ITS FALSE NEIGHBOUR: 'it returns false'. Refute it at one input. -/
def fnLivePartWrong : ChangeSpec := { name := "fnLivePart", vars := ["loop.example/packetfilter/impl.fieldShapes"], fn := fun _ => fun
  | [d1, d2, g1] => { results := [.lit (.bool false)], args := [d1, d2], vars := [g1] }
  | _ => none }
def FnLivePartWrongFalsely : Prop := fnLivePartRow.holds Tryd.pinned (OpenSpec.ofChange fnLivePartWrong)

/- THE SECOND FORM. 'bulk': how many values and letters a reading holds, each counted each time it is reached (what is shared counts as often as it is met; a slice's spare places count too). A statement '..UptoSaid' is the law's where the arguments, and the package variables that the reading takes, are together of bulk at most 1048576: NARROWER than '..Said'. Prove '..Said' where nothing that the law and all that it calls make is longer than what came in: it says more and counts as full. Else prove '..UptoSaid'. A law counts once. -/
mutual
def uptoBulk {H : Type} : DataW H → Nat
  | .lit (.string bytes) => bytes.length + 1
  | .lit _ => 1
  | .nil => 1
  | .ptr d => uptoBulk d + 1
  | .slice elems spare => uptoBulkAll elems + uptoBulkAll spare + 1
  | .agg parts => uptoBulkAll parts + 1
  | .iface _ d => uptoBulk d + 1
  | .map entries => uptoBulkEntries entries + 1
  | .held _ => 1
def uptoBulkAll {H : Type} : List (DataW H) → Nat
  | [] => 0
  | d :: r => uptoBulk d + uptoBulkAll r
def uptoBulkEntries {H : Type} : List (Lit × DataW H) → Nat
  | [] => 0
  | x :: r => uptoBulkEntry x + uptoBulkEntries r
def uptoBulkEntry {H : Type} : Lit × DataW H → Nat
  | (.string bytes, d) => bytes.length + uptoBulk d + 1
  | (_, d) => uptoBulk d + 1
 end
def uptoSmall : (H : Type) → List (DataW H) → Bool := fun _ ds => decide (uptoBulkAll ds ≤ 1048576)
def OpenSpec.upto (s : _root_.Go.ChangeSpec) : _root_.Go.OpenSpec := { _root_.Go.OpenSpec.ofChange s with cond := some uptoSmall }

/-- 'laws.FnExactMergeFlats', WHERE WHAT IT READS IS OF BULK AT MOST 1048576: true; the input reads as it did. -/
def fnExactMergeFlatsUptoRow : OpenClaim := { program := "ytibanpeiigbofaadoor", sum := "2cac1000667a421e3626329b05cdd1fbe114f2c36466e92cc145a2520d1ee896", func := "loop.example/packetfilter/laws.FnExactMergeFlats", spec := "fnExactMergeFlats", unfollowed := true, recurses := true, named := ["loop.example/packetfilter/impl.fieldShapes"], apart := false, laid := [("loop.example/packetfilter/impl.fieldShapes", laid_loop_example_packetfilter_impl_fieldShapes)], narrowed := true }
def FnExactMergeFlatsUptoSaid : Prop := fnExactMergeFlatsUptoRow.holds Tryd.pinned (OpenSpec.upto fnExactMergeFlatsSpec)

/-- 'laws.FnExactFlatParts', WHERE WHAT IT READS IS OF BULK AT MOST 1048576: true; the input reads as it did. -/
def fnExactFlatPartsUptoRow : OpenClaim := { program := "ytibanpeiigbofaadoor", sum := "2cac1000667a421e3626329b05cdd1fbe114f2c36466e92cc145a2520d1ee896", func := "loop.example/packetfilter/laws.FnExactFlatParts", spec := "fnExactFlatParts", unfollowed := true, recurses := true, named := ["loop.example/packetfilter/impl.fieldShapes"], apart := false, laid := [("loop.example/packetfilter/impl.fieldShapes", laid_loop_example_packetfilter_impl_fieldShapes)], narrowed := true }
def FnExactFlatPartsUptoSaid : Prop := fnExactFlatPartsUptoRow.holds Tryd.pinned (OpenSpec.upto fnExactFlatPartsSpec)

/-- 'laws.FnExactShorten', WHERE WHAT IT READS IS OF BULK AT MOST 1048576: true; the input reads as it did. -/
def fnExactShortenUptoRow : OpenClaim := { program := "ytibanpeiigbofaadoor", sum := "2cac1000667a421e3626329b05cdd1fbe114f2c36466e92cc145a2520d1ee896", func := "loop.example/packetfilter/laws.FnExactShorten", spec := "fnExactShorten", unfollowed := true, recurses := true, named := ["loop.example/packetfilter/impl.fieldShapes"], apart := false, laid := [("loop.example/packetfilter/impl.fieldShapes", laid_loop_example_packetfilter_impl_fieldShapes)], narrowed := true }
def FnExactShortenUptoSaid : Prop := fnExactShortenUptoRow.holds Tryd.pinned (OpenSpec.upto fnExactShortenSpec)

/-- 'laws.FnExactFirstDiffer', WHERE WHAT IT READS IS OF BULK AT MOST 1048576: true; the input reads as it did. -/
def fnExactFirstDifferUptoRow : OpenClaim := { program := "ytibanpeiigbofaadoor", sum := "2cac1000667a421e3626329b05cdd1fbe114f2c36466e92cc145a2520d1ee896", func := "loop.example/packetfilter/laws.FnExactFirstDiffer", spec := "fnExactFirstDiffer", unfollowed := true, recurses := true, named := ["loop.example/packetfilter/impl.fieldShapes"], apart := false, laid := [("loop.example/packetfilter/impl.fieldShapes", laid_loop_example_packetfilter_impl_fieldShapes)], narrowed := true }
def FnExactFirstDifferUptoSaid : Prop := fnExactFirstDifferUptoRow.holds Tryd.pinned (OpenSpec.upto fnExactFirstDifferSpec)

/-- 'laws.FnExactFlatsSame', WHERE WHAT IT READS IS OF BULK AT MOST 1048576: true; the input reads as it did. -/
def fnExactFlatsSameUptoRow : OpenClaim := { program := "ytibanpeiigbofaadoor", sum := "2cac1000667a421e3626329b05cdd1fbe114f2c36466e92cc145a2520d1ee896", func := "loop.example/packetfilter/laws.FnExactFlatsSame", spec := "fnExactFlatsSame", unfollowed := true, recurses := true, named := ["loop.example/packetfilter/impl.fieldShapes"], apart := false, laid := [("loop.example/packetfilter/impl.fieldShapes", laid_loop_example_packetfilter_impl_fieldShapes)], narrowed := true }
def FnExactFlatsSameUptoSaid : Prop := fnExactFlatsSameUptoRow.holds Tryd.pinned (OpenSpec.upto fnExactFlatsSameSpec)

/-- 'laws.FnExactNewlyOpen', WHERE WHAT IT READS IS OF BULK AT MOST 1048576: true; the input reads as it did. -/
def fnExactNewlyOpenUptoRow : OpenClaim := { program := "ytibanpeiigbofaadoor", sum := "2cac1000667a421e3626329b05cdd1fbe114f2c36466e92cc145a2520d1ee896", func := "loop.example/packetfilter/laws.FnExactNewlyOpen", spec := "fnExactNewlyOpen", unfollowed := true, recurses := true, named := ["loop.example/packetfilter/impl.fieldShapes"], apart := false, laid := [("loop.example/packetfilter/impl.fieldShapes", laid_loop_example_packetfilter_impl_fieldShapes)], narrowed := true }
def FnExactNewlyOpenUptoSaid : Prop := fnExactNewlyOpenUptoRow.holds Tryd.pinned (OpenSpec.upto fnExactNewlyOpenSpec)

/-- 'laws.FnByHits', WHERE WHAT IT READS IS OF BULK AT MOST 1048576: true; the input reads as it did. -/
def fnByHitsUptoRow : OpenClaim := { program := "ytibanpeiigbofaadoor", sum := "2cac1000667a421e3626329b05cdd1fbe114f2c36466e92cc145a2520d1ee896", func := "loop.example/packetfilter/laws.FnByHits", spec := "fnByHits", unfollowed := true, recurses := true, named := ["loop.example/packetfilter/impl.fieldShapes"], apart := false, laid := [("loop.example/packetfilter/impl.fieldShapes", laid_loop_example_packetfilter_impl_fieldShapes)], narrowed := true }
def FnByHitsUptoSaid : Prop := fnByHitsUptoRow.holds Tryd.pinned (OpenSpec.upto fnByHitsSpec)

/-- 'laws.FnMergeBoxes', WHERE WHAT IT READS IS OF BULK AT MOST 1048576: true; the input reads as it did. -/
def fnMergeBoxesUptoRow : OpenClaim := { program := "ytibanpeiigbofaadoor", sum := "2cac1000667a421e3626329b05cdd1fbe114f2c36466e92cc145a2520d1ee896", func := "loop.example/packetfilter/laws.FnMergeBoxes", spec := "fnMergeBoxes", unfollowed := true, recurses := true, named := ["loop.example/packetfilter/impl.fieldShapes"], apart := false, laid := [("loop.example/packetfilter/impl.fieldShapes", laid_loop_example_packetfilter_impl_fieldShapes)], narrowed := true }
def FnMergeBoxesUptoSaid : Prop := fnMergeBoxesUptoRow.holds Tryd.pinned (OpenSpec.upto fnMergeBoxesSpec)

/-- 'laws.FnMergeSelf', WHERE WHAT IT READS IS OF BULK AT MOST 1048576: true; the input reads as it did. -/
def fnMergeSelfUptoRow : OpenClaim := { program := "ytibanpeiigbofaadoor", sum := "2cac1000667a421e3626329b05cdd1fbe114f2c36466e92cc145a2520d1ee896", func := "loop.example/packetfilter/laws.FnMergeSelf", spec := "fnMergeSelf", unfollowed := true, recurses := true, named := ["loop.example/packetfilter/impl.fieldShapes"], apart := false, laid := [("loop.example/packetfilter/impl.fieldShapes", laid_loop_example_packetfilter_impl_fieldShapes)], narrowed := true }
def FnMergeSelfUptoSaid : Prop := fnMergeSelfUptoRow.holds Tryd.pinned (OpenSpec.upto fnMergeSelfSpec)

/-- 'laws.FnDeadAfter', WHERE WHAT IT READS IS OF BULK AT MOST 1048576: true; the input reads as it did. -/
def fnDeadAfterUptoRow : OpenClaim := { program := "ytibanpeiigbofaadoor", sum := "2cac1000667a421e3626329b05cdd1fbe114f2c36466e92cc145a2520d1ee896", func := "loop.example/packetfilter/laws.FnDeadAfter", spec := "fnDeadAfter", unfollowed := true, recurses := true, named := ["loop.example/packetfilter/impl.fieldShapes"], apart := false, laid := [("loop.example/packetfilter/impl.fieldShapes", laid_loop_example_packetfilter_impl_fieldShapes)], narrowed := true }
def FnDeadAfterUptoSaid : Prop := fnDeadAfterUptoRow.holds Tryd.pinned (OpenSpec.upto fnDeadAfterSpec)

/-- 'laws.FnDeadFlats', WHERE WHAT IT READS IS OF BULK AT MOST 1048576: true; the input reads as it did. -/
def fnDeadFlatsUptoRow : OpenClaim := { program := "ytibanpeiigbofaadoor", sum := "2cac1000667a421e3626329b05cdd1fbe114f2c36466e92cc145a2520d1ee896", func := "loop.example/packetfilter/laws.FnDeadFlats", spec := "fnDeadFlats", unfollowed := true, recurses := true, named := ["loop.example/packetfilter/impl.fieldShapes"], apart := false, laid := [("loop.example/packetfilter/impl.fieldShapes", laid_loop_example_packetfilter_impl_fieldShapes)], narrowed := true }
def FnDeadFlatsUptoSaid : Prop := fnDeadFlatsUptoRow.holds Tryd.pinned (OpenSpec.upto fnDeadFlatsSpec)

/-- 'laws.FnLivePart', WHERE WHAT IT READS IS OF BULK AT MOST 1048576: true; the input reads as it did. -/
def fnLivePartUptoRow : OpenClaim := { program := "ytibanpeiigbofaadoor", sum := "2cac1000667a421e3626329b05cdd1fbe114f2c36466e92cc145a2520d1ee896", func := "loop.example/packetfilter/laws.FnLivePart", spec := "fnLivePart", unfollowed := true, recurses := true, named := ["loop.example/packetfilter/impl.fieldShapes"], apart := false, laid := [("loop.example/packetfilter/impl.fieldShapes", laid_loop_example_packetfilter_impl_fieldShapes)], narrowed := true }
def FnLivePartUptoSaid : Prop := fnLivePartUptoRow.holds Tryd.pinned (OpenSpec.upto fnLivePartSpec)

end Rows
end Go.Proofs.YtibanpeiigbofaaDoor
