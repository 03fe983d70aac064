/-
  NARROWER THAN 'FOR EVERY INPUT', by the rows' own cells (each row's printed sentence says how): FnExactReversePacket: laid · FnReversePacket: laid · FnExactFlowsValid: laid · FnExactKnownFlow: laid · FnFlowsValid: laid · FnExactExpireFlows: laid · FnKnownFlow: laid · FnExpireFlows: laid.
  DERIVED. THE GIVEN ROWS OF THIS SEAT. 8 by the template 'for every input the law returns true; each argument reads behind the call as it read before'; 0 by the template 'total and deterministic' (their statements: YtlppchkilinpfaaDoorTotals.lean).
  GIVEN WITH THE SEED: the statements are not yours to turn. If you find one false, say at which input.
  Laid BY PROGRAM, IN A SANDBOX (cutbox-rows.mjs): the forced cells as the released guide's own fill.sh prints them over the translation 49361d2a265cc598… (all of the seat's roots in one cut). By AI agents, Wed Nov 11 2026. No macro, syntax, notation, axiom, sorry.
-/
import Derived.Test.YtlppchkilinpfaaDoorChecked
import GoSem.Claim
import GoSem.ClaimJoined
import GoSem.ClaimMapViews
import Derived.JoinedTies
import Derived.KernelRfl
namespace Go.Proofs.YtlppchkilinpfaaDoor
/- THE CELL 'sum', in the pinned program and in every row, IS THE sha256 OF THE DUMP (.gsa) THAT YtlppchkilinpfaaDoorProg.lean LOADS. Nothing in Lean hashes anything: it is a label: what it is worth is what the hold of that sum in a sandbox is worth. -/
noncomputable def Tryd.pinned : Pinned := { name := "ytlppchkilinpfaadoor", sum := "49361d2a265cc598110cfa15934f7844277016898fa793876f809cb052c912dd", checked := Tryd.checked }
namespace Rows
def none {H : Type} : Left H := { results := [], args := [] }

/- WHAT THE LISTED PACKAGE-LEVEL VARIABLES READ AS WHEN THE CALL BEGINS. Each datum BY PROGRAM (the guide's laid-datum.mjs) off the statement by which the dump's own 'gosem.cut.vars' lays the variable. In a bare row this is a premise. The card (YtlppchkilinpfaaDoorCards.lean) ties it to the program's text. -/
def laid_loop_example_packetfilter_impl_fieldShapes {H : Type} : DataW H := .agg [.agg [.lit (.string [102, 114, 111, 109]), .lit (.int .i64 65535)], .agg [.lit (.string [116, 111]), .lit (.int .i64 65535)], .agg [.lit (.string [112, 111, 114, 116]), .lit (.int .i64 255)], .agg [.lit (.string [112, 114, 111, 116, 111]), .lit (.int .i64 7)]]

/-- 'laws.FnExactReversePacket': WHATEVER THE INPUT: true; the input reads as it did. -/
def fnExactReversePacketSpec : ChangeSpec := { name := "fnExactReversePacket", vars := ["loop.example/packetfilter/impl.fieldShapes"], fn := fun _ => fun
  | [d, g1] => { results := [.lit (.bool true)], args := [d], vars := [g1] }
  | _ => none }
def fnExactReversePacketRow : OpenClaim := { program := "ytlppchkilinpfaadoor", sum := "49361d2a265cc598110cfa15934f7844277016898fa793876f809cb052c912dd", func := "loop.example/packetfilter/laws.FnExactReversePacket", spec := "fnExactReversePacket", named := ["loop.example/packetfilter/impl.fieldShapes"], plainKeys := false, apart := false, laid := [("loop.example/packetfilter/impl.fieldShapes", laid_loop_example_packetfilter_impl_fieldShapes)] }
def FnExactReversePacketSaid : Prop := fnExactReversePacketRow.holds Tryd.pinned (OpenSpec.ofChange fnExactReversePacketSpec)

/-- ITS FALSE NEIGHBOUR: 'it returns false'. Refute it at one input. -/
def fnExactReversePacketWrong : ChangeSpec := { name := "fnExactReversePacket", vars := ["loop.example/packetfilter/impl.fieldShapes"], fn := fun _ => fun
  | [d, g1] => { results := [.lit (.bool false)], args := [d], vars := [g1] }
  | _ => none }
def FnExactReversePacketWrongFalsely : Prop := fnExactReversePacketRow.holds Tryd.pinned (OpenSpec.ofChange fnExactReversePacketWrong)

/-- 'laws.FnReversePacket': WHATEVER THE INPUT: true; the input reads as it did. -/
def fnReversePacketSpec : ChangeSpec := { name := "fnReversePacket", vars := ["loop.example/packetfilter/impl.fieldShapes"], fn := fun _ => fun
  | [d, g1] => { results := [.lit (.bool true)], args := [d], vars := [g1] }
  | _ => none }
def fnReversePacketRow : OpenClaim := { program := "ytlppchkilinpfaadoor", sum := "49361d2a265cc598110cfa15934f7844277016898fa793876f809cb052c912dd", func := "loop.example/packetfilter/laws.FnReversePacket", spec := "fnReversePacket", named := ["loop.example/packetfilter/impl.fieldShapes"], plainKeys := false, apart := false, laid := [("loop.example/packetfilter/impl.fieldShapes", laid_loop_example_packetfilter_impl_fieldShapes)] }
def FnReversePacketSaid : Prop := fnReversePacketRow.holds Tryd.pinned (OpenSpec.ofChange fnReversePacketSpec)

/-- ITS FALSE NEIGHBOUR: 'it returns false'. Refute it at one input. -/
def fnReversePacketWrong : ChangeSpec := { name := "fnReversePacket", vars := ["loop.example/packetfilter/impl.fieldShapes"], fn := fun _ => fun
  | [d, g1] => { results := [.lit (.bool false)], args := [d], vars := [g1] }
  | _ => none }
def FnReversePacketWrongFalsely : Prop := fnReversePacketRow.holds Tryd.pinned (OpenSpec.ofChange fnReversePacketWrong)

/-- 'laws.FnExactFlowsValid': WHATEVER THE INPUT: true; the input reads as it did. -/
def fnExactFlowsValidSpec : ChangeSpec := { name := "fnExactFlowsValid", vars := ["loop.example/packetfilter/impl.fieldShapes"], fn := fun _ => fun
  | [d, g1] => { results := [.lit (.bool true)], args := [d], vars := [g1] }
  | _ => none }
def fnExactFlowsValidRow : OpenClaim := { program := "ytlppchkilinpfaadoor", sum := "49361d2a265cc598110cfa15934f7844277016898fa793876f809cb052c912dd", func := "loop.example/packetfilter/laws.FnExactFlowsValid", spec := "fnExactFlowsValid", named := ["loop.example/packetfilter/impl.fieldShapes"], plainKeys := false, apart := false, laid := [("loop.example/packetfilter/impl.fieldShapes", laid_loop_example_packetfilter_impl_fieldShapes)] }
def FnExactFlowsValidSaid : Prop := fnExactFlowsValidRow.holds Tryd.pinned (OpenSpec.ofChange fnExactFlowsValidSpec)

/-- ITS FALSE NEIGHBOUR: 'it returns false'. Refute it at one input. -/
def fnExactFlowsValidWrong : ChangeSpec := { name := "fnExactFlowsValid", vars := ["loop.example/packetfilter/impl.fieldShapes"], fn := fun _ => fun
  | [d, g1] => { results := [.lit (.bool false)], args := [d], vars := [g1] }
  | _ => none }
def FnExactFlowsValidWrongFalsely : Prop := fnExactFlowsValidRow.holds Tryd.pinned (OpenSpec.ofChange fnExactFlowsValidWrong)

/-- 'laws.FnExactKnownFlow': WHATEVER THE INPUT: true; the input reads as it did. -/
def fnExactKnownFlowSpec : ChangeSpec := { name := "fnExactKnownFlow", vars := ["loop.example/packetfilter/impl.fieldShapes"], fn := fun _ => fun
  | [d1, d2, d3, g1] => { results := [.lit (.bool true)], args := [d1, d2, d3], vars := [g1] }
  | _ => none }
def fnExactKnownFlowRow : OpenClaim := { program := "ytlppchkilinpfaadoor", sum := "49361d2a265cc598110cfa15934f7844277016898fa793876f809cb052c912dd", func := "loop.example/packetfilter/laws.FnExactKnownFlow", spec := "fnExactKnownFlow", named := ["loop.example/packetfilter/impl.fieldShapes"], plainKeys := false, apart := false, laid := [("loop.example/packetfilter/impl.fieldShapes", laid_loop_example_packetfilter_impl_fieldShapes)] }
def FnExactKnownFlowSaid : Prop := fnExactKnownFlowRow.holds Tryd.pinned (OpenSpec.ofChange fnExactKnownFlowSpec)

/-- ITS FALSE NEIGHBOUR: 'it returns false'. Refute it at one input. -/
def fnExactKnownFlowWrong : ChangeSpec := { name := "fnExactKnownFlow", vars := ["loop.example/packetfilter/impl.fieldShapes"], fn := fun _ => fun
  | [d1, d2, d3, g1] => { results := [.lit (.bool false)], args := [d1, d2, d3], vars := [g1] }
  | _ => none }
def FnExactKnownFlowWrongFalsely : Prop := fnExactKnownFlowRow.holds Tryd.pinned (OpenSpec.ofChange fnExactKnownFlowWrong)

/-- 'laws.FnFlowsValid': WHATEVER THE INPUT: true; the input reads as it did. -/
def fnFlowsValidSpec : ChangeSpec := { name := "fnFlowsValid", vars := ["loop.example/packetfilter/impl.fieldShapes"], fn := fun _ => fun
  | [d, g1] => { results := [.lit (.bool true)], args := [d], vars := [g1] }
  | _ => none }
def fnFlowsValidRow : OpenClaim := { program := "ytlppchkilinpfaadoor", sum := "49361d2a265cc598110cfa15934f7844277016898fa793876f809cb052c912dd", func := "loop.example/packetfilter/laws.FnFlowsValid", spec := "fnFlowsValid", named := ["loop.example/packetfilter/impl.fieldShapes"], plainKeys := false, apart := false, laid := [("loop.example/packetfilter/impl.fieldShapes", laid_loop_example_packetfilter_impl_fieldShapes)] }
def FnFlowsValidSaid : Prop := fnFlowsValidRow.holds Tryd.pinned (OpenSpec.ofChange fnFlowsValidSpec)

/-- ITS FALSE NEIGHBOUR: 'it returns false'. Refute it at one input. -/
def fnFlowsValidWrong : ChangeSpec := { name := "fnFlowsValid", vars := ["loop.example/packetfilter/impl.fieldShapes"], fn := fun _ => fun
  | [d, g1] => { results := [.lit (.bool false)], args := [d], vars := [g1] }
  | _ => none }
def FnFlowsValidWrongFalsely : Prop := fnFlowsValidRow.holds Tryd.pinned (OpenSpec.ofChange fnFlowsValidWrong)

/-- 'laws.FnExactExpireFlows': WHATEVER THE INPUT: true; the input reads as it did. -/
def fnExactExpireFlowsSpec : ChangeSpec := { name := "fnExactExpireFlows", vars := ["loop.example/packetfilter/impl.fieldShapes"], fn := fun _ => fun
  | [d1, d2, g1] => { results := [.lit (.bool true)], args := [d1, d2], vars := [g1] }
  | _ => none }
def fnExactExpireFlowsRow : OpenClaim := { program := "ytlppchkilinpfaadoor", sum := "49361d2a265cc598110cfa15934f7844277016898fa793876f809cb052c912dd", func := "loop.example/packetfilter/laws.FnExactExpireFlows", spec := "fnExactExpireFlows", named := ["loop.example/packetfilter/impl.fieldShapes"], plainKeys := false, apart := false, laid := [("loop.example/packetfilter/impl.fieldShapes", laid_loop_example_packetfilter_impl_fieldShapes)] }
def FnExactExpireFlowsSaid : Prop := fnExactExpireFlowsRow.holds Tryd.pinned (OpenSpec.ofChange fnExactExpireFlowsSpec)

/-- ITS FALSE NEIGHBOUR: 'it returns false'. Refute it at one input. -/
def fnExactExpireFlowsWrong : ChangeSpec := { name := "fnExactExpireFlows", vars := ["loop.example/packetfilter/impl.fieldShapes"], fn := fun _ => fun
  | [d1, d2, g1] => { results := [.lit (.bool false)], args := [d1, d2], vars := [g1] }
  | _ => none }
def FnExactExpireFlowsWrongFalsely : Prop := fnExactExpireFlowsRow.holds Tryd.pinned (OpenSpec.ofChange fnExactExpireFlowsWrong)

/-- 'laws.FnKnownFlow': WHATEVER THE INPUT: true; the input reads as it did. -/
def fnKnownFlowSpec : ChangeSpec := { name := "fnKnownFlow", vars := ["loop.example/packetfilter/impl.fieldShapes"], fn := fun _ => fun
  | [d, g1] => { results := [.lit (.bool true)], args := [d], vars := [g1] }
  | _ => none }
def fnKnownFlowRow : OpenClaim := { program := "ytlppchkilinpfaadoor", sum := "49361d2a265cc598110cfa15934f7844277016898fa793876f809cb052c912dd", func := "loop.example/packetfilter/laws.FnKnownFlow", spec := "fnKnownFlow", named := ["loop.example/packetfilter/impl.fieldShapes"], plainKeys := false, apart := false, laid := [("loop.example/packetfilter/impl.fieldShapes", laid_loop_example_packetfilter_impl_fieldShapes)] }
def FnKnownFlowSaid : Prop := fnKnownFlowRow.holds Tryd.pinned (OpenSpec.ofChange fnKnownFlowSpec)

/-- ITS FALSE NEIGHBOUR: 'it returns false'. Refute it at one input. -/
def fnKnownFlowWrong : ChangeSpec := { name := "fnKnownFlow", vars := ["loop.example/packetfilter/impl.fieldShapes"], fn := fun _ => fun
  | [d, g1] => { results := [.lit (.bool false)], args := [d], vars := [g1] }
  | _ => none }
def FnKnownFlowWrongFalsely : Prop := fnKnownFlowRow.holds Tryd.pinned (OpenSpec.ofChange fnKnownFlowWrong)

/-- 'laws.FnExpireFlows': WHATEVER THE INPUT: true; the input reads as it did. -/
def fnExpireFlowsSpec : ChangeSpec := { name := "fnExpireFlows", vars := ["loop.example/packetfilter/impl.fieldShapes"], fn := fun _ => fun
  | [d1, d2, g1] => { results := [.lit (.bool true)], args := [d1, d2], vars := [g1] }
  | _ => none }
def fnExpireFlowsRow : OpenClaim := { program := "ytlppchkilinpfaadoor", sum := "49361d2a265cc598110cfa15934f7844277016898fa793876f809cb052c912dd", func := "loop.example/packetfilter/laws.FnExpireFlows", spec := "fnExpireFlows", named := ["loop.example/packetfilter/impl.fieldShapes"], plainKeys := false, apart := false, laid := [("loop.example/packetfilter/impl.fieldShapes", laid_loop_example_packetfilter_impl_fieldShapes)] }
def FnExpireFlowsSaid : Prop := fnExpireFlowsRow.holds Tryd.pinned (OpenSpec.ofChange fnExpireFlowsSpec)

/-- ITS FALSE NEIGHBOUR: 'it returns false'. Refute it at one input. -/
def fnExpireFlowsWrong : ChangeSpec := { name := "fnExpireFlows", vars := ["loop.example/packetfilter/impl.fieldShapes"], fn := fun _ => fun
  | [d1, d2, g1] => { results := [.lit (.bool false)], args := [d1, d2], vars := [g1] }
  | _ => none }
def FnExpireFlowsWrongFalsely : Prop := fnExpireFlowsRow.holds Tryd.pinned (OpenSpec.ofChange fnExpireFlowsWrong)

/- THE SECOND FORM. 'bulk': how many values and letters a reading holds, each counted each time it is reached (what is shared counts as often as it is met; a slice's spare places count too). A statement '..UptoSaid' is the law's where the arguments, and the package variables that the reading takes, are together of bulk at most 1048576: NARROWER than '..Said'. Prove '..Said' where nothing that the law and all that it calls make is longer than what came in: it says more and counts as full. Else prove '..UptoSaid'. A law counts once. -/
mutual
def uptoBulk {H : Type} : DataW H → Nat
  | .lit (.string bytes) => bytes.length + 1
  | .lit _ => 1
  | .nil => 1
  | .ptr d => uptoBulk d + 1
  | .slice elems spare => uptoBulkAll elems + uptoBulkAll spare + 1
  | .agg parts => uptoBulkAll parts + 1
  | .iface _ d => uptoBulk d + 1
  | .map entries => uptoBulkEntries entries + 1
  | .held _ => 1
def uptoBulkAll {H : Type} : List (DataW H) → Nat
  | [] => 0
  | d :: r => uptoBulk d + uptoBulkAll r
def uptoBulkEntries {H : Type} : List (Lit × DataW H) → Nat
  | [] => 0
  | x :: r => uptoBulkEntry x + uptoBulkEntries r
def uptoBulkEntry {H : Type} : Lit × DataW H → Nat
  | (.string bytes, d) => bytes.length + uptoBulk d + 1
  | (_, d) => uptoBulk d + 1
 end
def uptoSmall : (H : Type) → List (DataW H) → Bool := fun _ ds => decide (uptoBulkAll ds ≤ 1048576)
def OpenSpec.upto (s : _root_.Go.ChangeSpec) : _root_.Go.OpenSpec := { _root_.Go.OpenSpec.ofChange s with cond := some uptoSmall }

/-- 'laws.FnExactReversePacket', WHERE WHAT IT READS IS OF BULK AT MOST 1048576: true; the input reads as it did. -/
def fnExactReversePacketUptoRow : OpenClaim := { program := "ytlppchkilinpfaadoor", sum := "49361d2a265cc598110cfa15934f7844277016898fa793876f809cb052c912dd", func := "loop.example/packetfilter/laws.FnExactReversePacket", spec := "fnExactReversePacket", named := ["loop.example/packetfilter/impl.fieldShapes"], plainKeys := false, apart := false, laid := [("loop.example/packetfilter/impl.fieldShapes", laid_loop_example_packetfilter_impl_fieldShapes)], narrowed := true }
def FnExactReversePacketUptoSaid : Prop := fnExactReversePacketUptoRow.holds Tryd.pinned (OpenSpec.upto fnExactReversePacketSpec)

/-- 'laws.FnReversePacket', WHERE WHAT IT READS IS OF BULK AT MOST 1048576: true; the input reads as it did. -/
def fnReversePacketUptoRow : OpenClaim := { program := "ytlppchkilinpfaadoor", sum := "49361d2a265cc598110cfa15934f7844277016898fa793876f809cb052c912dd", func := "loop.example/packetfilter/laws.FnReversePacket", spec := "fnReversePacket", named := ["loop.example/packetfilter/impl.fieldShapes"], plainKeys := false, apart := false, laid := [("loop.example/packetfilter/impl.fieldShapes", laid_loop_example_packetfilter_impl_fieldShapes)], narrowed := true }
def FnReversePacketUptoSaid : Prop := fnReversePacketUptoRow.holds Tryd.pinned (OpenSpec.upto fnReversePacketSpec)

/-- 'laws.FnExactFlowsValid', WHERE WHAT IT READS IS OF BULK AT MOST 1048576: true; the input reads as it did. -/
def fnExactFlowsValidUptoRow : OpenClaim := { program := "ytlppchkilinpfaadoor", sum := "49361d2a265cc598110cfa15934f7844277016898fa793876f809cb052c912dd", func := "loop.example/packetfilter/laws.FnExactFlowsValid", spec := "fnExactFlowsValid", named := ["loop.example/packetfilter/impl.fieldShapes"], plainKeys := false, apart := false, laid := [("loop.example/packetfilter/impl.fieldShapes", laid_loop_example_packetfilter_impl_fieldShapes)], narrowed := true }
def FnExactFlowsValidUptoSaid : Prop := fnExactFlowsValidUptoRow.holds Tryd.pinned (OpenSpec.upto fnExactFlowsValidSpec)

/-- 'laws.FnExactKnownFlow', WHERE WHAT IT READS IS OF BULK AT MOST 1048576: true; the input reads as it did. -/
def fnExactKnownFlowUptoRow : OpenClaim := { program := "ytlppchkilinpfaadoor", sum := "49361d2a265cc598110cfa15934f7844277016898fa793876f809cb052c912dd", func := "loop.example/packetfilter/laws.FnExactKnownFlow", spec := "fnExactKnownFlow", named := ["loop.example/packetfilter/impl.fieldShapes"], plainKeys := false, apart := false, laid := [("loop.example/packetfilter/impl.fieldShapes", laid_loop_example_packetfilter_impl_fieldShapes)], narrowed := true }
def FnExactKnownFlowUptoSaid : Prop := fnExactKnownFlowUptoRow.holds Tryd.pinned (OpenSpec.upto fnExactKnownFlowSpec)

/-- 'laws.FnFlowsValid', WHERE WHAT IT READS IS OF BULK AT MOST 1048576: true; the input reads as it did. -/
def fnFlowsValidUptoRow : OpenClaim := { program := "ytlppchkilinpfaadoor", sum := "49361d2a265cc598110cfa15934f7844277016898fa793876f809cb052c912dd", func := "loop.example/packetfilter/laws.FnFlowsValid", spec := "fnFlowsValid", named := ["loop.example/packetfilter/impl.fieldShapes"], plainKeys := false, apart := false, laid := [("loop.example/packetfilter/impl.fieldShapes", laid_loop_example_packetfilter_impl_fieldShapes)], narrowed := true }
def FnFlowsValidUptoSaid : Prop := fnFlowsValidUptoRow.holds Tryd.pinned (OpenSpec.upto fnFlowsValidSpec)

/-- 'laws.FnExactExpireFlows', WHERE WHAT IT READS IS OF BULK AT MOST 1048576: true; the input reads as it did. -/
def fnExactExpireFlowsUptoRow : OpenClaim := { program := "ytlppchkilinpfaadoor", sum := "49361d2a265cc598110cfa15934f7844277016898fa793876f809cb052c912dd", func := "loop.example/packetfilter/laws.FnExactExpireFlows", spec := "fnExactExpireFlows", named := ["loop.example/packetfilter/impl.fieldShapes"], plainKeys := false, apart := false, laid := [("loop.example/packetfilter/impl.fieldShapes", laid_loop_example_packetfilter_impl_fieldShapes)], narrowed := true }
def FnExactExpireFlowsUptoSaid : Prop := fnExactExpireFlowsUptoRow.holds Tryd.pinned (OpenSpec.upto fnExactExpireFlowsSpec)

/-- 'laws.FnKnownFlow', WHERE WHAT IT READS IS OF BULK AT MOST 1048576: true; the input reads as it did. -/
def fnKnownFlowUptoRow : OpenClaim := { program := "ytlppchkilinpfaadoor", sum := "49361d2a265cc598110cfa15934f7844277016898fa793876f809cb052c912dd", func := "loop.example/packetfilter/laws.FnKnownFlow", spec := "fnKnownFlow", named := ["loop.example/packetfilter/impl.fieldShapes"], plainKeys := false, apart := false, laid := [("loop.example/packetfilter/impl.fieldShapes", laid_loop_example_packetfilter_impl_fieldShapes)], narrowed := true }
def FnKnownFlowUptoSaid : Prop := fnKnownFlowUptoRow.holds Tryd.pinned (OpenSpec.upto fnKnownFlowSpec)

/-- 'laws.FnExpireFlows', WHERE WHAT IT READS IS OF BULK AT MOST 1048576: true; the input reads as it did. -/
def fnExpireFlowsUptoRow : OpenClaim := { program := "ytlppchkilinpfaadoor", sum := "49361d2a265cc598110cfa15934f7844277016898fa793876f809cb052c912dd", func := "loop.example/packetfilter/laws.FnExpireFlows", spec := "fnExpireFlows", named := ["loop.example/packetfilter/impl.fieldShapes"], plainKeys := false, apart := false, laid := [("loop.example/packetfilter/impl.fieldShapes", laid_loop_example_packetfilter_impl_fieldShapes)], narrowed := true }
def FnExpireFlowsUptoSaid : Prop := fnExpireFlowsUptoRow.holds Tryd.pinned (OpenSpec.upto fnExpireFlowsSpec)

end Rows
end Go.Proofs.YtlppchkilinpfaaDoor
