/-
  NARROWER THAN 'FOR EVERY INPUT', by the rows' own cells (each row's printed sentence says how): FnExactCanSwap: laid · FnExactDecidedBy: laid · FnExactTrimTail: laid · FnExactSwapFlats: laid · FnFlatBoxes: laid · FnCanSwap: laid · FnExactHitCounts: laid · FnExactLiftFlat: laid · FnDecidedBy: laid · FnJudgeFlat: laid · FnExactByHits: laid · FnTrimTail: laid.
  DERIVED. THE GIVEN ROWS OF THIS SEAT. 12 by the template 'for every input the law returns true; each argument reads behind the call as it read before'; 0 by the template 'total and deterministic' (their statements: YtkcnbkkgpampaaaDoorTotals.lean).
  GIVEN WITH THE SEED: the statements are not yours to turn. If you find one false, say at which input.
  Laid BY PROGRAM, IN A SANDBOX (cutbox-rows.mjs): the forced cells as the released guide's own fill.sh prints them over the translation 72ab20c2d2797877… (all of the seat's roots in one cut). By AI agents, Wed Nov 11 2026. No macro, syntax, notation, axiom, sorry.
-/
import Derived.Test.YtkcnbkkgpampaaaDoorChecked
import GoSem.Claim
import GoSem.ClaimJoined
import GoSem.ClaimMapViews
import Derived.JoinedTies
import Derived.KernelRfl
namespace Go.Proofs.YtkcnbkkgpampaaaDoor
/- THE CELL 'sum', in the pinned program and in every row, IS THE sha256 OF THE DUMP (.gsa) THAT YtkcnbkkgpampaaaDoorProg.lean LOADS. Nothing in Lean hashes anything: it is a label: what it is worth is what the hold of that sum in a sandbox is worth. -/
noncomputable def Tryd.pinned : Pinned := { name := "ytkcnbkkgpampaaadoor", sum := "72ab20c2d279787763c6dfdb33e3653d9f337d4acd1e5251a63eedf4350baff5", checked := Tryd.checked }
namespace Rows
def none {H : Type} : Left H := { results := [], args := [] }

/- WHAT THE LISTED PACKAGE-LEVEL VARIABLES READ AS WHEN THE CALL BEGINS. Each datum BY PROGRAM (the guide's laid-datum.mjs) off the statement by which the dump's own 'gosem.cut.vars' lays the variable. In a bare row this is a premise. The card (YtkcnbkkgpampaaaDoorCards.lean) ties it to the program's text. -/
def laid_loop_example_packetfilter_impl_fieldShapes {H : Type} : DataW H := .agg [.agg [.lit (.string [102, 114, 111, 109]), .lit (.int .i64 65535)], .agg [.lit (.string [116, 111]), .lit (.int .i64 65535)], .agg [.lit (.string [112, 111, 114, 116]), .lit (.int .i64 255)], .agg [.lit (.string [112, 114, 111, 116, 111]), .lit (.int .i64 7)]]

/-- 'laws.FnExactCanSwap': WHATEVER THE INPUT: true; the input reads as it did. -/
def fnExactCanSwapSpec : ChangeSpec := { name := "fnExactCanSwap", vars := ["loop.example/packetfilter/impl.fieldShapes"], fn := fun _ => fun
  | [d1, d2, g1] => { results := [.lit (.bool true)], args := [d1, d2], vars := [g1] }
  | _ => none }
def fnExactCanSwapRow : OpenClaim := { program := "ytkcnbkkgpampaaadoor", sum := "72ab20c2d279787763c6dfdb33e3653d9f337d4acd1e5251a63eedf4350baff5", func := "loop.example/packetfilter/laws.FnExactCanSwap", spec := "fnExactCanSwap", named := ["loop.example/packetfilter/impl.fieldShapes"], apart := false, laid := [("loop.example/packetfilter/impl.fieldShapes", laid_loop_example_packetfilter_impl_fieldShapes)] }
def FnExactCanSwapSaid : Prop := fnExactCanSwapRow.holds Tryd.pinned (OpenSpec.ofChange fnExactCanSwapSpec)

/-- ITS FALSE NEIGHBOUR: 'it returns false'. Refute it at one input. -/
def fnExactCanSwapWrong : ChangeSpec := { name := "fnExactCanSwap", vars := ["loop.example/packetfilter/impl.fieldShapes"], fn := fun _ => fun
  | [d1, d2, g1] => { results := [.lit (.bool false)], args := [d1, d2], vars := [g1] }
  | _ => none }
def FnExactCanSwapWrongFalsely : Prop := fnExactCanSwapRow.holds Tryd.pinned (OpenSpec.ofChange fnExactCanSwapWrong)

/-- 'laws.FnExactDecidedBy': WHATEVER THE INPUT: true; the input reads as it did. -/
def fnExactDecidedBySpec : ChangeSpec := { name := "fnExactDecidedBy", vars := ["loop.example/packetfilter/impl.fieldShapes"], fn := fun _ => fun
  | [d1, d2, g1] => { results := [.lit (.bool true)], args := [d1, d2], vars := [g1] }
  | _ => none }
def fnExactDecidedByRow : OpenClaim := { program := "ytkcnbkkgpampaaadoor", sum := "72ab20c2d279787763c6dfdb33e3653d9f337d4acd1e5251a63eedf4350baff5", func := "loop.example/packetfilter/laws.FnExactDecidedBy", spec := "fnExactDecidedBy", unfollowed := true, recurses := true, named := ["loop.example/packetfilter/impl.fieldShapes"], apart := false, laid := [("loop.example/packetfilter/impl.fieldShapes", laid_loop_example_packetfilter_impl_fieldShapes)] }
def FnExactDecidedBySaid : Prop := fnExactDecidedByRow.holds Tryd.pinned (OpenSpec.ofChange fnExactDecidedBySpec)

/-- ITS FALSE NEIGHBOUR: 'it returns false'. Refute it at one input. -/
def fnExactDecidedByWrong : ChangeSpec := { name := "fnExactDecidedBy", vars := ["loop.example/packetfilter/impl.fieldShapes"], fn := fun _ => fun
  | [d1, d2, g1] => { results := [.lit (.bool false)], args := [d1, d2], vars := [g1] }
  | _ => none }
def FnExactDecidedByWrongFalsely : Prop := fnExactDecidedByRow.holds Tryd.pinned (OpenSpec.ofChange fnExactDecidedByWrong)

/-- 'laws.FnExactTrimTail': WHATEVER THE INPUT: true; the input reads as it did. -/
def fnExactTrimTailSpec : ChangeSpec := { name := "fnExactTrimTail", vars := ["loop.example/packetfilter/impl.fieldShapes"], fn := fun _ => fun
  | [d1, d2, g1] => { results := [.lit (.bool true)], args := [d1, d2], vars := [g1] }
  | _ => none }
def fnExactTrimTailRow : OpenClaim := { program := "ytkcnbkkgpampaaadoor", sum := "72ab20c2d279787763c6dfdb33e3653d9f337d4acd1e5251a63eedf4350baff5", func := "loop.example/packetfilter/laws.FnExactTrimTail", spec := "fnExactTrimTail", named := ["loop.example/packetfilter/impl.fieldShapes"], apart := false, laid := [("loop.example/packetfilter/impl.fieldShapes", laid_loop_example_packetfilter_impl_fieldShapes)] }
def FnExactTrimTailSaid : Prop := fnExactTrimTailRow.holds Tryd.pinned (OpenSpec.ofChange fnExactTrimTailSpec)

/-- ITS FALSE NEIGHBOUR: 'it returns false'. Refute it at one input. -/
def fnExactTrimTailWrong : ChangeSpec := { name := "fnExactTrimTail", vars := ["loop.example/packetfilter/impl.fieldShapes"], fn := fun _ => fun
  | [d1, d2, g1] => { results := [.lit (.bool false)], args := [d1, d2], vars := [g1] }
  | _ => none }
def FnExactTrimTailWrongFalsely : Prop := fnExactTrimTailRow.holds Tryd.pinned (OpenSpec.ofChange fnExactTrimTailWrong)

/-- 'laws.FnExactSwapFlats': WHATEVER THE INPUT: true; the input reads as it did. -/
def fnExactSwapFlatsSpec : ChangeSpec := { name := "fnExactSwapFlats", vars := ["loop.example/packetfilter/impl.fieldShapes"], fn := fun _ => fun
  | [d1, d2, g1] => { results := [.lit (.bool true)], args := [d1, d2], vars := [g1] }
  | _ => none }
def fnExactSwapFlatsRow : OpenClaim := { program := "ytkcnbkkgpampaaadoor", sum := "72ab20c2d279787763c6dfdb33e3653d9f337d4acd1e5251a63eedf4350baff5", func := "loop.example/packetfilter/laws.FnExactSwapFlats", spec := "fnExactSwapFlats", named := ["loop.example/packetfilter/impl.fieldShapes"], apart := false, laid := [("loop.example/packetfilter/impl.fieldShapes", laid_loop_example_packetfilter_impl_fieldShapes)] }
def FnExactSwapFlatsSaid : Prop := fnExactSwapFlatsRow.holds Tryd.pinned (OpenSpec.ofChange fnExactSwapFlatsSpec)

/-- ITS FALSE NEIGHBOUR: 'it returns false'. Refute it at one input. -/
def fnExactSwapFlatsWrong : ChangeSpec := { name := "fnExactSwapFlats", vars := ["loop.example/packetfilter/impl.fieldShapes"], fn := fun _ => fun
  | [d1, d2, g1] => { results := [.lit (.bool false)], args := [d1, d2], vars := [g1] }
  | _ => none }
def FnExactSwapFlatsWrongFalsely : Prop := fnExactSwapFlatsRow.holds Tryd.pinned (OpenSpec.ofChange fnExactSwapFlatsWrong)

/-- 'laws.FnFlatBoxes': WHATEVER THE INPUT: true; the input reads as it did. -/
def fnFlatBoxesSpec : ChangeSpec := { name := "fnFlatBoxes", vars := ["loop.example/packetfilter/impl.fieldShapes"], fn := fun _ => fun
  | [d, g1] => { results := [.lit (.bool true)], args := [d], vars := [g1] }
  | _ => none }
def fnFlatBoxesRow : OpenClaim := { program := "ytkcnbkkgpampaaadoor", sum := "72ab20c2d279787763c6dfdb33e3653d9f337d4acd1e5251a63eedf4350baff5", func := "loop.example/packetfilter/laws.FnFlatBoxes", spec := "fnFlatBoxes", named := ["loop.example/packetfilter/impl.fieldShapes"], apart := false, laid := [("loop.example/packetfilter/impl.fieldShapes", laid_loop_example_packetfilter_impl_fieldShapes)] }
def FnFlatBoxesSaid : Prop := fnFlatBoxesRow.holds Tryd.pinned (OpenSpec.ofChange fnFlatBoxesSpec)

/-- ITS FALSE NEIGHBOUR: 'it returns false'. Refute it at one input. -/
def fnFlatBoxesWrong : ChangeSpec := { name := "fnFlatBoxes", vars := ["loop.example/packetfilter/impl.fieldShapes"], fn := fun _ => fun
  | [d, g1] => { results := [.lit (.bool false)], args := [d], vars := [g1] }
  | _ => none }
def FnFlatBoxesWrongFalsely : Prop := fnFlatBoxesRow.holds Tryd.pinned (OpenSpec.ofChange fnFlatBoxesWrong)

/-- 'laws.FnCanSwap': WHATEVER THE INPUT: true; the input reads as it did. -/
def fnCanSwapSpec : ChangeSpec := { name := "fnCanSwap", vars := ["loop.example/packetfilter/impl.fieldShapes"], fn := fun _ => fun
  | [d1, d2, g1] => { results := [.lit (.bool true)], args := [d1, d2], vars := [g1] }
  | _ => none }
def fnCanSwapRow : OpenClaim := { program := "ytkcnbkkgpampaaadoor", sum := "72ab20c2d279787763c6dfdb33e3653d9f337d4acd1e5251a63eedf4350baff5", func := "loop.example/packetfilter/laws.FnCanSwap", spec := "fnCanSwap", named := ["loop.example/packetfilter/impl.fieldShapes"], apart := false, laid := [("loop.example/packetfilter/impl.fieldShapes", laid_loop_example_packetfilter_impl_fieldShapes)] }
def FnCanSwapSaid : Prop := fnCanSwapRow.holds Tryd.pinned (OpenSpec.ofChange fnCanSwapSpec)

/-- ITS FALSE NEIGHBOUR: 'it returns false'. Refute it at one input. -/
def fnCanSwapWrong : ChangeSpec := { name := "fnCanSwap", vars := ["loop.example/packetfilter/impl.fieldShapes"], fn := fun _ => fun
  | [d1, d2, g1] => { results := [.lit (.bool false)], args := [d1, d2], vars := [g1] }
  | _ => none }
def FnCanSwapWrongFalsely : Prop := fnCanSwapRow.holds Tryd.pinned (OpenSpec.ofChange fnCanSwapWrong)

/-- 'laws.FnExactHitCounts': WHATEVER THE INPUT: true; the input reads as it did. -/
def fnExactHitCountsSpec : ChangeSpec := { name := "fnExactHitCounts", vars := ["loop.example/packetfilter/impl.fieldShapes"], fn := fun _ => fun
  | [d1, d2, g1] => { results := [.lit (.bool true)], args := [d1, d2], vars := [g1] }
  | _ => none }
def fnExactHitCountsRow : OpenClaim := { program := "ytkcnbkkgpampaaadoor", sum := "72ab20c2d279787763c6dfdb33e3653d9f337d4acd1e5251a63eedf4350baff5", func := "loop.example/packetfilter/laws.FnExactHitCounts", spec := "fnExactHitCounts", unfollowed := true, recurses := true, named := ["loop.example/packetfilter/impl.fieldShapes"], apart := false, laid := [("loop.example/packetfilter/impl.fieldShapes", laid_loop_example_packetfilter_impl_fieldShapes)] }
def FnExactHitCountsSaid : Prop := fnExactHitCountsRow.holds Tryd.pinned (OpenSpec.ofChange fnExactHitCountsSpec)

/-- ITS FALSE NEIGHBOUR: 'it returns false'. Refute it at one input. -/
def fnExactHitCountsWrong : ChangeSpec := { name := "fnExactHitCounts", vars := ["loop.example/packetfilter/impl.fieldShapes"], fn := fun _ => fun
  | [d1, d2, g1] => { results := [.lit (.bool false)], args := [d1, d2], vars := [g1] }
  | _ => none }
def FnExactHitCountsWrongFalsely : Prop := fnExactHitCountsRow.holds Tryd.pinned (OpenSpec.ofChange fnExactHitCountsWrong)

/-- 'laws.FnExactLiftFlat': WHATEVER THE INPUT: true; the input reads as it did. -/
def fnExactLiftFlatSpec : ChangeSpec := { name := "fnExactLiftFlat", vars := ["loop.example/packetfilter/impl.fieldShapes"], fn := fun _ => fun
  | [d1, d2, g1] => { results := [.lit (.bool true)], args := [d1, d2], vars := [g1] }
  | _ => none }
def fnExactLiftFlatRow : OpenClaim := { program := "ytkcnbkkgpampaaadoor", sum := "72ab20c2d279787763c6dfdb33e3653d9f337d4acd1e5251a63eedf4350baff5", func := "loop.example/packetfilter/laws.FnExactLiftFlat", spec := "fnExactLiftFlat", named := ["loop.example/packetfilter/impl.fieldShapes"], apart := false, laid := [("loop.example/packetfilter/impl.fieldShapes", laid_loop_example_packetfilter_impl_fieldShapes)] }
def FnExactLiftFlatSaid : Prop := fnExactLiftFlatRow.holds Tryd.pinned (OpenSpec.ofChange fnExactLiftFlatSpec)

/-- ITS FALSE NEIGHBOUR: 'it returns false'. Refute it at one input. -/
def fnExactLiftFlatWrong : ChangeSpec := { name := "fnExactLiftFlat", vars := ["loop.example/packetfilter/impl.fieldShapes"], fn := fun _ => fun
  | [d1, d2, g1] => { results := [.lit (.bool false)], args := [d1, d2], vars := [g1] }
  | _ => none }
def FnExactLiftFlatWrongFalsely : Prop := fnExactLiftFlatRow.holds Tryd.pinned (OpenSpec.ofChange fnExactLiftFlatWrong)

/-- 'laws.FnDecidedBy': WHATEVER THE INPUT: true; the input reads as it did. -/
def fnDecidedBySpec : ChangeSpec := { name := "fnDecidedBy", vars := ["loop.example/packetfilter/impl.fieldShapes"], fn := fun _ => fun
  | [d, g1] => { results := [.lit (.bool true)], args := [d], vars := [g1] }
  | _ => none }
def fnDecidedByRow : OpenClaim := { program := "ytkcnbkkgpampaaadoor", sum := "72ab20c2d279787763c6dfdb33e3653d9f337d4acd1e5251a63eedf4350baff5", func := "loop.example/packetfilter/laws.FnDecidedBy", spec := "fnDecidedBy", unfollowed := true, recurses := true, named := ["loop.example/packetfilter/impl.fieldShapes"], apart := false, laid := [("loop.example/packetfilter/impl.fieldShapes", laid_loop_example_packetfilter_impl_fieldShapes)] }
def FnDecidedBySaid : Prop := fnDecidedByRow.holds Tryd.pinned (OpenSpec.ofChange fnDecidedBySpec)

/-- ITS FALSE NEIGHBOUR: 'it returns false'. Refute it at one input. -/
def fnDecidedByWrong : ChangeSpec := { name := "fnDecidedBy", vars := ["loop.example/packetfilter/impl.fieldShapes"], fn := fun _ => fun
  | [d, g1] => { results := [.lit (.bool false)], args := [d], vars := [g1] }
  | _ => none }
def FnDecidedByWrongFalsely : Prop := fnDecidedByRow.holds Tryd.pinned (OpenSpec.ofChange fnDecidedByWrong)

/-- 'laws.FnJudgeFlat': WHATEVER THE INPUT: true; the input reads as it did. -/
def fnJudgeFlatSpec : ChangeSpec := { name := "fnJudgeFlat", vars := ["loop.example/packetfilter/impl.fieldShapes"], fn := fun _ => fun
  | [d, g1] => { results := [.lit (.bool true)], args := [d], vars := [g1] }
  | _ => none }
def fnJudgeFlatRow : OpenClaim := { program := "ytkcnbkkgpampaaadoor", sum := "72ab20c2d279787763c6dfdb33e3653d9f337d4acd1e5251a63eedf4350baff5", func := "loop.example/packetfilter/laws.FnJudgeFlat", spec := "fnJudgeFlat", unfollowed := true, recurses := true, named := ["loop.example/packetfilter/impl.fieldShapes"], apart := false, laid := [("loop.example/packetfilter/impl.fieldShapes", laid_loop_example_packetfilter_impl_fieldShapes)] }
def FnJudgeFlatSaid : Prop := fnJudgeFlatRow.holds Tryd.pinned (OpenSpec.ofChange fnJudgeFlatSpec)

/-- ITS FALSE NEIGHBOUR: 'it returns false'. Refute it at one input. -/
def fnJudgeFlatWrong : ChangeSpec := { name := "fnJudgeFlat", vars := ["loop.example/packetfilter/impl.fieldShapes"], fn := fun _ => fun
  | [d, g1] => { results := [.lit (.bool false)], args := [d], vars := [g1] }
  | _ => none }
def FnJudgeFlatWrongFalsely : Prop := fnJudgeFlatRow.holds Tryd.pinned (OpenSpec.ofChange fnJudgeFlatWrong)

/-- 'laws.FnExactByHits': WHATEVER THE INPUT: true; the input reads as it did. -/
def fnExactByHitsSpec : ChangeSpec := { name := "fnExactByHits", vars := ["loop.example/packetfilter/impl.fieldShapes"], fn := fun _ => fun
  | [d1, d2, g1] => { results := [.lit (.bool true)], args := [d1, d2], vars := [g1] }
  | _ => none }
def fnExactByHitsRow : OpenClaim := { program := "ytkcnbkkgpampaaadoor", sum := "72ab20c2d279787763c6dfdb33e3653d9f337d4acd1e5251a63eedf4350baff5", func := "loop.example/packetfilter/laws.FnExactByHits", spec := "fnExactByHits", named := ["loop.example/packetfilter/impl.fieldShapes"], apart := false, laid := [("loop.example/packetfilter/impl.fieldShapes", laid_loop_example_packetfilter_impl_fieldShapes)] }
def FnExactByHitsSaid : Prop := fnExactByHitsRow.holds Tryd.pinned (OpenSpec.ofChange fnExactByHitsSpec)

/-- ITS FALSE NEIGHBOUR: 'it returns false'. Refute it at one input. -/
def fnExactByHitsWrong : ChangeSpec := { name := "fnExactByHits", vars := ["loop.example/packetfilter/impl.fieldShapes"], fn := fun _ => fun
  | [d1, d2, g1] => { results := [.lit (.bool false)], args := [d1, d2], vars := [g1] }
  | _ => none }
def FnExactByHitsWrongFalsely : Prop := fnExactByHitsRow.holds Tryd.pinned (OpenSpec.ofChange fnExactByHitsWrong)

/-- 'laws.FnTrimTail': WHATEVER THE INPUT: true; the input reads as it did. -/
def fnTrimTailSpec : ChangeSpec := { name := "fnTrimTail", vars := ["loop.example/packetfilter/impl.fieldShapes"], fn := fun _ => fun
  | [d1, d2, g1] => { results := [.lit (.bool true)], args := [d1, d2], vars := [g1] }
  | _ => none }
def fnTrimTailRow : OpenClaim := { program := "ytkcnbkkgpampaaadoor", sum := "72ab20c2d279787763c6dfdb33e3653d9f337d4acd1e5251a63eedf4350baff5", func := "loop.example/packetfilter/laws.FnTrimTail", spec := "fnTrimTail", unfollowed := true, recurses := true, named := ["loop.example/packetfilter/impl.fieldShapes"], apart := false, laid := [("loop.example/packetfilter/impl.fieldShapes", laid_loop_example_packetfilter_impl_fieldShapes)] }
def FnTrimTailSaid : Prop := fnTrimTailRow.holds Tryd.pinned (OpenSpec.ofChange fnTrimTailSpec)

/-- ITS FALSE NEIGHBOUR: 'it returns false'. Refute it at one input. -/
def fnTrimTailWrong : ChangeSpec := { name := "fnTrimTail", vars := ["loop.example/packetfilter/impl.fieldShapes"], fn := fun _ => fun
  | [d1, d2, g1] => { results := [.lit (.bool false)], args := [d1, d2], vars := [g1] }
  | _ => none }
def FnTrimTailWrongFalsely : Prop := fnTrimTailRow.holds Tryd.pinned (OpenSpec.ofChange fnTrimTailWrong)

/- THE SECOND FORM. 'bulk': how many values and letters a reading holds, each counted each time it is reached (what is shared counts as often as it is met; a slice's spare places count too). A statement '..UptoSaid' is the law's where the arguments, and the package variables that the reading takes, are together of bulk at most 1048576: NARROWER than '..Said'. Prove '..Said' where nothing that the law and all that it calls make is longer than what came in: it says more and counts as full. Else prove '..UptoSaid'. A law counts once. -/
mutual
def uptoBulk {H : Type} : DataW H → Nat
  | .lit (.string bytes) => bytes.length + 1
  | .lit _ => 1
  | .nil => 1
  | .ptr d => uptoBulk d + 1
  | .slice elems spare => uptoBulkAll elems + uptoBulkAll spare + 1
  | .agg parts => uptoBulkAll parts + 1
  | .iface _ d => uptoBulk d + 1
  | .map entries => uptoBulkEntries entries + 1
  | .held _ => 1
def uptoBulkAll {H : Type} : List (DataW H) → Nat
  | [] => 0
  | d :: r => uptoBulk d + uptoBulkAll r
def uptoBulkEntries {H : Type} : List (Lit × DataW H) → Nat
  | [] => 0
  | x :: r => uptoBulkEntry x + uptoBulkEntries r
def uptoBulkEntry {H : Type} : Lit × DataW H → Nat
  | (.string bytes, d) => bytes.length + uptoBulk d + 1
  | (_, d) => uptoBulk d + 1
 end
def uptoSmall : (H : Type) → List (DataW H) → Bool := fun _ ds => decide (uptoBulkAll ds ≤ 1048576)
def OpenSpec.upto (s : _root_.Go.ChangeSpec) : _root_.Go.OpenSpec := { _root_.Go.OpenSpec.ofChange s with cond := some uptoSmall }

/-- 'laws.FnExactCanSwap', WHERE WHAT IT READS IS OF BULK AT MOST 1048576: true; the input reads as it did. -/
def fnExactCanSwapUptoRow : OpenClaim := { program := "ytkcnbkkgpampaaadoor", sum := "72ab20c2d279787763c6dfdb33e3653d9f337d4acd1e5251a63eedf4350baff5", func := "loop.example/packetfilter/laws.FnExactCanSwap", spec := "fnExactCanSwap", named := ["loop.example/packetfilter/impl.fieldShapes"], apart := false, laid := [("loop.example/packetfilter/impl.fieldShapes", laid_loop_example_packetfilter_impl_fieldShapes)], narrowed := true }
def FnExactCanSwapUptoSaid : Prop := fnExactCanSwapUptoRow.holds Tryd.pinned (OpenSpec.upto fnExactCanSwapSpec)

/-- 'laws.FnExactDecidedBy', WHERE WHAT IT READS IS OF BULK AT MOST 1048576: true; the input reads as it did. -/
def fnExactDecidedByUptoRow : OpenClaim := { program := "ytkcnbkkgpampaaadoor", sum := "72ab20c2d279787763c6dfdb33e3653d9f337d4acd1e5251a63eedf4350baff5", func := "loop.example/packetfilter/laws.FnExactDecidedBy", spec := "fnExactDecidedBy", unfollowed := true, recurses := true, named := ["loop.example/packetfilter/impl.fieldShapes"], apart := false, laid := [("loop.example/packetfilter/impl.fieldShapes", laid_loop_example_packetfilter_impl_fieldShapes)], narrowed := true }
def FnExactDecidedByUptoSaid : Prop := fnExactDecidedByUptoRow.holds Tryd.pinned (OpenSpec.upto fnExactDecidedBySpec)

/-- 'laws.FnExactTrimTail', WHERE WHAT IT READS IS OF BULK AT MOST 1048576: true; the input reads as it did. -/
def fnExactTrimTailUptoRow : OpenClaim := { program := "ytkcnbkkgpampaaadoor", sum := "72ab20c2d279787763c6dfdb33e3653d9f337d4acd1e5251a63eedf4350baff5", func := "loop.example/packetfilter/laws.FnExactTrimTail", spec := "fnExactTrimTail", named := ["loop.example/packetfilter/impl.fieldShapes"], apart := false, laid := [("loop.example/packetfilter/impl.fieldShapes", laid_loop_example_packetfilter_impl_fieldShapes)], narrowed := true }
def FnExactTrimTailUptoSaid : Prop := fnExactTrimTailUptoRow.holds Tryd.pinned (OpenSpec.upto fnExactTrimTailSpec)

/-- 'laws.FnExactSwapFlats', WHERE WHAT IT READS IS OF BULK AT MOST 1048576: true; the input reads as it did. -/
def fnExactSwapFlatsUptoRow : OpenClaim := { program := "ytkcnbkkgpampaaadoor", sum := "72ab20c2d279787763c6dfdb33e3653d9f337d4acd1e5251a63eedf4350baff5", func := "loop.example/packetfilter/laws.FnExactSwapFlats", spec := "fnExactSwapFlats", named := ["loop.example/packetfilter/impl.fieldShapes"], apart := false, laid := [("loop.example/packetfilter/impl.fieldShapes", laid_loop_example_packetfilter_impl_fieldShapes)], narrowed := true }
def FnExactSwapFlatsUptoSaid : Prop := fnExactSwapFlatsUptoRow.holds Tryd.pinned (OpenSpec.upto fnExactSwapFlatsSpec)

/-- 'laws.FnFlatBoxes', WHERE WHAT IT READS IS OF BULK AT MOST 1048576: true; the input reads as it did. -/
def fnFlatBoxesUptoRow : OpenClaim := { program := "ytkcnbkkgpampaaadoor", sum := "72ab20c2d279787763c6dfdb33e3653d9f337d4acd1e5251a63eedf4350baff5", func := "loop.example/packetfilter/laws.FnFlatBoxes", spec := "fnFlatBoxes", named := ["loop.example/packetfilter/impl.fieldShapes"], apart := false, laid := [("loop.example/packetfilter/impl.fieldShapes", laid_loop_example_packetfilter_impl_fieldShapes)], narrowed := true }
def FnFlatBoxesUptoSaid : Prop := fnFlatBoxesUptoRow.holds Tryd.pinned (OpenSpec.upto fnFlatBoxesSpec)

/-- 'laws.FnCanSwap', WHERE WHAT IT READS IS OF BULK AT MOST 1048576: true; the input reads as it did. -/
def fnCanSwapUptoRow : OpenClaim := { program := "ytkcnbkkgpampaaadoor", sum := "72ab20c2d279787763c6dfdb33e3653d9f337d4acd1e5251a63eedf4350baff5", func := "loop.example/packetfilter/laws.FnCanSwap", spec := "fnCanSwap", named := ["loop.example/packetfilter/impl.fieldShapes"], apart := false, laid := [("loop.example/packetfilter/impl.fieldShapes", laid_loop_example_packetfilter_impl_fieldShapes)], narrowed := true }
def FnCanSwapUptoSaid : Prop := fnCanSwapUptoRow.holds Tryd.pinned (OpenSpec.upto fnCanSwapSpec)

/-- 'laws.FnExactHitCounts', WHERE WHAT IT READS IS OF BULK AT MOST 1048576: true; the input reads as it did. -/
def fnExactHitCountsUptoRow : OpenClaim := { program := "ytkcnbkkgpampaaadoor", sum := "72ab20c2d279787763c6dfdb33e3653d9f337d4acd1e5251a63eedf4350baff5", func := "loop.example/packetfilter/laws.FnExactHitCounts", spec := "fnExactHitCounts", unfollowed := true, recurses := true, named := ["loop.example/packetfilter/impl.fieldShapes"], apart := false, laid := [("loop.example/packetfilter/impl.fieldShapes", laid_loop_example_packetfilter_impl_fieldShapes)], narrowed := true }
def FnExactHitCountsUptoSaid : Prop := fnExactHitCountsUptoRow.holds Tryd.pinned (OpenSpec.upto fnExactHitCountsSpec)

/-- 'laws.FnExactLiftFlat', WHERE WHAT IT READS IS OF BULK AT MOST 1048576: true; the input reads as it did. -/
def fnExactLiftFlatUptoRow : OpenClaim := { program := "ytkcnbkkgpampaaadoor", sum := "72ab20c2d279787763c6dfdb33e3653d9f337d4acd1e5251a63eedf4350baff5", func := "loop.example/packetfilter/laws.FnExactLiftFlat", spec := "fnExactLiftFlat", named := ["loop.example/packetfilter/impl.fieldShapes"], apart := false, laid := [("loop.example/packetfilter/impl.fieldShapes", laid_loop_example_packetfilter_impl_fieldShapes)], narrowed := true }
def FnExactLiftFlatUptoSaid : Prop := fnExactLiftFlatUptoRow.holds Tryd.pinned (OpenSpec.upto fnExactLiftFlatSpec)

/-- 'laws.FnDecidedBy', WHERE WHAT IT READS IS OF BULK AT MOST 1048576: true; the input reads as it did. -/
def fnDecidedByUptoRow : OpenClaim := { program := "ytkcnbkkgpampaaadoor", sum := "72ab20c2d279787763c6dfdb33e3653d9f337d4acd1e5251a63eedf4350baff5", func := "loop.example/packetfilter/laws.FnDecidedBy", spec := "fnDecidedBy", unfollowed := true, recurses := true, named := ["loop.example/packetfilter/impl.fieldShapes"], apart := false, laid := [("loop.example/packetfilter/impl.fieldShapes", laid_loop_example_packetfilter_impl_fieldShapes)], narrowed := true }
def FnDecidedByUptoSaid : Prop := fnDecidedByUptoRow.holds Tryd.pinned (OpenSpec.upto fnDecidedBySpec)

/-- 'laws.FnJudgeFlat', WHERE WHAT IT READS IS OF BULK AT MOST 1048576: true; the input reads as it did. -/
def fnJudgeFlatUptoRow : OpenClaim := { program := "ytkcnbkkgpampaaadoor", sum := "72ab20c2d279787763c6dfdb33e3653d9f337d4acd1e5251a63eedf4350baff5", func := "loop.example/packetfilter/laws.FnJudgeFlat", spec := "fnJudgeFlat", unfollowed := true, recurses := true, named := ["loop.example/packetfilter/impl.fieldShapes"], apart := false, laid := [("loop.example/packetfilter/impl.fieldShapes", laid_loop_example_packetfilter_impl_fieldShapes)], narrowed := true }
def FnJudgeFlatUptoSaid : Prop := fnJudgeFlatUptoRow.holds Tryd.pinned (OpenSpec.upto fnJudgeFlatSpec)

/-- 'laws.FnExactByHits', WHERE WHAT IT READS IS OF BULK AT MOST 1048576: true; the input reads as it did. -/
def fnExactByHitsUptoRow : OpenClaim := { program := "ytkcnbkkgpampaaadoor", sum := "72ab20c2d279787763c6dfdb33e3653d9f337d4acd1e5251a63eedf4350baff5", func := "loop.example/packetfilter/laws.FnExactByHits", spec := "fnExactByHits", named := ["loop.example/packetfilter/impl.fieldShapes"], apart := false, laid := [("loop.example/packetfilter/impl.fieldShapes", laid_loop_example_packetfilter_impl_fieldShapes)], narrowed := true }
def FnExactByHitsUptoSaid : Prop := fnExactByHitsUptoRow.holds Tryd.pinned (OpenSpec.upto fnExactByHitsSpec)

/-- 'laws.FnTrimTail', WHERE WHAT IT READS IS OF BULK AT MOST 1048576: true; the input reads as it did. -/
def fnTrimTailUptoRow : OpenClaim := { program := "ytkcnbkkgpampaaadoor", sum := "72ab20c2d279787763c6dfdb33e3653d9f337d4acd1e5251a63eedf4350baff5", func := "loop.example/packetfilter/laws.FnTrimTail", spec := "fnTrimTail", unfollowed := true, recurses := true, named := ["loop.example/packetfilter/impl.fieldShapes"], apart := false, laid := [("loop.example/packetfilter/impl.fieldShapes", laid_loop_example_packetfilter_impl_fieldShapes)], narrowed := true }
def FnTrimTailUptoSaid : Prop := fnTrimTailUptoRow.holds Tryd.pinned (OpenSpec.upto fnTrimTailSpec)

end Rows
end Go.Proofs.YtkcnbkkgpampaaaDoor
