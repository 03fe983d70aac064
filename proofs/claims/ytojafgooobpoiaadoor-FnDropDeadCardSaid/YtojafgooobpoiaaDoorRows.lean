/-
  NARROWER THAN 'FOR EVERY INPUT', by the rows' own cells (each row's printed sentence says how): FnDropDead: laid · FnMergeFlats: laid · FnFlatParts: laid · FnTrimEqual: laid · FnHitsSame: laid.
  DERIVED. THE GIVEN ROWS OF THIS SEAT. 5 by the template 'for every input the law returns true; each argument reads behind the call as it read before'; 0 by the template 'total and deterministic' (their statements: YtojafgooobpoiaaDoorTotals.lean).
  GIVEN WITH THE SEED: the statements are not yours to turn. If you find one false, say at which input.
  Laid BY PROGRAM, IN A SANDBOX (cutbox-rows.mjs): the forced cells as the released guide's own fill.sh prints them over the translation fc034a9caddabbfa… (all of the seat's roots in one cut). By AI agents, Wed Nov 11 2026. No macro, syntax, notation, axiom, sorry.
-/
import Derived.Test.YtojafgooobpoiaaDoorChecked
import GoSem.Claim
import GoSem.ClaimJoined
import GoSem.ClaimMapViews
import Derived.JoinedTies
import Derived.KernelRfl
namespace Go.Proofs.YtojafgooobpoiaaDoor
/- THE CELL 'sum', in the pinned program and in every row, IS THE sha256 OF THE DUMP (.gsa) THAT YtojafgooobpoiaaDoorProg.lean LOADS. Nothing in Lean hashes anything: it is a label: what it is worth is what the hold of that sum in a sandbox is worth. -/
noncomputable def Tryd.pinned : Pinned := { name := "ytojafgooobpoiaadoor", sum := "fc034a9caddabbfafedeb13f03fdf8bc3eb4642b5af955a593a1f1ffca98c295", checked := Tryd.checked }
namespace Rows
def none {H : Type} : Left H := { results := [], args := [] }

/- WHAT THE LISTED PACKAGE-LEVEL VARIABLES READ AS WHEN THE CALL BEGINS. Each datum BY PROGRAM (the guide's laid-datum.mjs) off the statement by which the dump's own 'gosem.cut.vars' lays the variable. In a bare row this is a premise. The card (YtojafgooobpoiaaDoorCards.lean) ties it to the program's text. -/
def laid_loop_example_packetfilter_impl_fieldShapes {H : Type} : DataW H := .agg [.agg [.lit (.string [102, 114, 111, 109]), .lit (.int .i64 65535)], .agg [.lit (.string [116, 111]), .lit (.int .i64 65535)], .agg [.lit (.string [112, 111, 114, 116]), .lit (.int .i64 255)], .agg [.lit (.string [112, 114, 111, 116, 111]), .lit (.int .i64 7)]]

/-- 'laws.FnDropDead': WHATEVER THE INPUT: true; the input reads as it did. -/
def fnDropDeadSpec : ChangeSpec := { name := "fnDropDead", vars := ["loop.example/packetfilter/impl.fieldShapes"], fn := fun _ => fun
  | [d1, d2, g1] => { results := [.lit (.bool true)], args := [d1, d2], vars := [g1] }
  | _ => none }
def fnDropDeadRow : OpenClaim := { program := "ytojafgooobpoiaadoor", sum := "fc034a9caddabbfafedeb13f03fdf8bc3eb4642b5af955a593a1f1ffca98c295", func := "loop.example/packetfilter/laws.FnDropDead", spec := "fnDropDead", unfollowed := true, recurses := true, named := ["loop.example/packetfilter/impl.fieldShapes"], apart := false, laid := [("loop.example/packetfilter/impl.fieldShapes", laid_loop_example_packetfilter_impl_fieldShapes)] }
def FnDropDeadSaid : Prop := fnDropDeadRow.holds Tryd.pinned (OpenSpec.ofChange fnDropDeadSpec)

/-- ITS FALSE NEIGHBOUR: 'it returns false'. Refute it at one input. -/
def fnDropDeadWrong : ChangeSpec := { name := "fnDropDead", vars := ["loop.example/packetfilter/impl.fieldShapes"], fn := fun _ => fun
  | [d1, d2, g1] => { results := [.lit (.bool false)], args := [d1, d2], vars := [g1] }
  | _ => none }
def FnDropDeadWrongFalsely : Prop := fnDropDeadRow.holds Tryd.pinned (OpenSpec.ofChange fnDropDeadWrong)

/-- 'laws.FnMergeFlats': WHATEVER THE INPUT: true; the input reads as it did. -/
def fnMergeFlatsSpec : ChangeSpec := { name := "fnMergeFlats", vars := ["loop.example/packetfilter/impl.fieldShapes"], fn := fun _ => fun
  | [d1, d2, g1] => { results := [.lit (.bool true)], args := [d1, d2], vars := [g1] }
  | _ => none }
def fnMergeFlatsRow : OpenClaim := { program := "ytojafgooobpoiaadoor", sum := "fc034a9caddabbfafedeb13f03fdf8bc3eb4642b5af955a593a1f1ffca98c295", func := "loop.example/packetfilter/laws.FnMergeFlats", spec := "fnMergeFlats", unfollowed := true, recurses := true, named := ["loop.example/packetfilter/impl.fieldShapes"], apart := false, laid := [("loop.example/packetfilter/impl.fieldShapes", laid_loop_example_packetfilter_impl_fieldShapes)] }
def FnMergeFlatsSaid : Prop := fnMergeFlatsRow.holds Tryd.pinned (OpenSpec.ofChange fnMergeFlatsSpec)

/-- ITS FALSE NEIGHBOUR: 'it returns false'. Refute it at one input. -/
def fnMergeFlatsWrong : ChangeSpec := { name := "fnMergeFlats", vars := ["loop.example/packetfilter/impl.fieldShapes"], fn := fun _ => fun
  | [d1, d2, g1] => { results := [.lit (.bool false)], args := [d1, d2], vars := [g1] }
  | _ => none }
def FnMergeFlatsWrongFalsely : Prop := fnMergeFlatsRow.holds Tryd.pinned (OpenSpec.ofChange fnMergeFlatsWrong)

/-- 'laws.FnFlatParts': WHATEVER THE INPUT: true; the input reads as it did. -/
def fnFlatPartsSpec : ChangeSpec := { name := "fnFlatParts", vars := ["loop.example/packetfilter/impl.fieldShapes"], fn := fun _ => fun
  | [d1, d2, g1] => { results := [.lit (.bool true)], args := [d1, d2], vars := [g1] }
  | _ => none }
def fnFlatPartsRow : OpenClaim := { program := "ytojafgooobpoiaadoor", sum := "fc034a9caddabbfafedeb13f03fdf8bc3eb4642b5af955a593a1f1ffca98c295", func := "loop.example/packetfilter/laws.FnFlatParts", spec := "fnFlatParts", unfollowed := true, recurses := true, named := ["loop.example/packetfilter/impl.fieldShapes"], apart := false, laid := [("loop.example/packetfilter/impl.fieldShapes", laid_loop_example_packetfilter_impl_fieldShapes)] }
def FnFlatPartsSaid : Prop := fnFlatPartsRow.holds Tryd.pinned (OpenSpec.ofChange fnFlatPartsSpec)

/-- ITS FALSE NEIGHBOUR: 'it returns false'. Refute it at one input. -/
def fnFlatPartsWrong : ChangeSpec := { name := "fnFlatParts", vars := ["loop.example/packetfilter/impl.fieldShapes"], fn := fun _ => fun
  | [d1, d2, g1] => { results := [.lit (.bool false)], args := [d1, d2], vars := [g1] }
  | _ => none }
def FnFlatPartsWrongFalsely : Prop := fnFlatPartsRow.holds Tryd.pinned (OpenSpec.ofChange fnFlatPartsWrong)

/-- 'laws.FnTrimEqual': WHATEVER THE INPUT: true; the input reads as it did. -/
def fnTrimEqualSpec : ChangeSpec := { name := "fnTrimEqual", vars := ["loop.example/packetfilter/impl.fieldShapes"], fn := fun _ => fun
  | [d, g1] => { results := [.lit (.bool true)], args := [d], vars := [g1] }
  | _ => none }
def fnTrimEqualRow : OpenClaim := { program := "ytojafgooobpoiaadoor", sum := "fc034a9caddabbfafedeb13f03fdf8bc3eb4642b5af955a593a1f1ffca98c295", func := "loop.example/packetfilter/laws.FnTrimEqual", spec := "fnTrimEqual", unfollowed := true, recurses := true, named := ["loop.example/packetfilter/impl.fieldShapes"], apart := false, laid := [("loop.example/packetfilter/impl.fieldShapes", laid_loop_example_packetfilter_impl_fieldShapes)] }
def FnTrimEqualSaid : Prop := fnTrimEqualRow.holds Tryd.pinned (OpenSpec.ofChange fnTrimEqualSpec)

/-- ITS FALSE NEIGHBOUR: 'it returns false'. Refute it at one input. -/
def fnTrimEqualWrong : ChangeSpec := { name := "fnTrimEqual", vars := ["loop.example/packetfilter/impl.fieldShapes"], fn := fun _ => fun
  | [d, g1] => { results := [.lit (.bool false)], args := [d], vars := [g1] }
  | _ => none }
def FnTrimEqualWrongFalsely : Prop := fnTrimEqualRow.holds Tryd.pinned (OpenSpec.ofChange fnTrimEqualWrong)

/-- 'laws.FnHitsSame': WHATEVER THE INPUT: true; the input reads as it did. -/
def fnHitsSameSpec : ChangeSpec := { name := "fnHitsSame", vars := ["loop.example/packetfilter/impl.fieldShapes"], fn := fun _ => fun
  | [d, g1] => { results := [.lit (.bool true)], args := [d], vars := [g1] }
  | _ => none }
def fnHitsSameRow : OpenClaim := { program := "ytojafgooobpoiaadoor", sum := "fc034a9caddabbfafedeb13f03fdf8bc3eb4642b5af955a593a1f1ffca98c295", func := "loop.example/packetfilter/laws.FnHitsSame", spec := "fnHitsSame", unfollowed := true, recurses := true, named := ["loop.example/packetfilter/impl.fieldShapes"], apart := false, laid := [("loop.example/packetfilter/impl.fieldShapes", laid_loop_example_packetfilter_impl_fieldShapes)] }
def FnHitsSameSaid : Prop := fnHitsSameRow.holds Tryd.pinned (OpenSpec.ofChange fnHitsSameSpec)

/-- ITS FALSE NEIGHBOUR: 'it returns false'. Refute it at one input. -/
def fnHitsSameWrong : ChangeSpec := { name := "fnHitsSame", vars := ["loop.example/packetfilter/impl.fieldShapes"], fn := fun _ => fun
  | [d, g1] => { results := [.lit (.bool false)], args := [d], vars := [g1] }
  | _ => none }
def FnHitsSameWrongFalsely : Prop := fnHitsSameRow.holds Tryd.pinned (OpenSpec.ofChange fnHitsSameWrong)

/- THE SECOND FORM. 'bulk': how many values and letters a reading holds, each counted each time it is reached (what is shared counts as often as it is met; a slice's spare places count too). A statement '..UptoSaid' is the law's where the arguments, and the package variables that the reading takes, are together of bulk at most 1048576: NARROWER than '..Said'. Prove '..Said' where nothing that the law and all that it calls make is longer than what came in: it says more and counts as full. Else prove '..UptoSaid'. A law counts once. -/
mutual
def uptoBulk {H : Type} : DataW H → Nat
  | .lit (.string bytes) => bytes.length + 1
  | .lit _ => 1
  | .nil => 1
  | .ptr d => uptoBulk d + 1
  | .slice elems spare => uptoBulkAll elems + uptoBulkAll spare + 1
  | .agg parts => uptoBulkAll parts + 1
  | .iface _ d => uptoBulk d + 1
  | .map entries => uptoBulkEntries entries + 1
  | .held _ => 1
def uptoBulkAll {H : Type} : List (DataW H) → Nat
  | [] => 0
  | d :: r => uptoBulk d + uptoBulkAll r
def uptoBulkEntries {H : Type} : List (Lit × DataW H) → Nat
  | [] => 0
  | x :: r => uptoBulkEntry x + uptoBulkEntries r
def uptoBulkEntry {H : Type} : Lit × DataW H → Nat
  | (.string bytes, d) => bytes.length + uptoBulk d + 1
  | (_, d) => uptoBulk d + 1
 end
def uptoSmall : (H : Type) → List (DataW H) → Bool := fun _ ds => decide (uptoBulkAll ds ≤ 1048576)
def OpenSpec.upto (s : _root_.Go.ChangeSpec) : _root_.Go.OpenSpec := { _root_.Go.OpenSpec.ofChange s with cond := some uptoSmall }

/-- 'laws.FnDropDead', WHERE WHAT IT READS IS OF BULK AT MOST 1048576: true; the input reads as it did. -/
def fnDropDeadUptoRow : OpenClaim := { program := "ytojafgooobpoiaadoor", sum := "fc034a9caddabbfafedeb13f03fdf8bc3eb4642b5af955a593a1f1ffca98c295", func := "loop.example/packetfilter/laws.FnDropDead", spec := "fnDropDead", unfollowed := true, recurses := true, named := ["loop.example/packetfilter/impl.fieldShapes"], apart := false, laid := [("loop.example/packetfilter/impl.fieldShapes", laid_loop_example_packetfilter_impl_fieldShapes)], narrowed := true }
def FnDropDeadUptoSaid : Prop := fnDropDeadUptoRow.holds Tryd.pinned (OpenSpec.upto fnDropDeadSpec)

/-- 'laws.FnMergeFlats', WHERE WHAT IT READS IS OF BULK AT MOST 1048576: true; the input reads as it did. -/
def fnMergeFlatsUptoRow : OpenClaim := { program := "ytojafgooobpoiaadoor", sum := "fc034a9caddabbfafedeb13f03fdf8bc3eb4642b5af955a593a1f1ffca98c295", func := "loop.example/packetfilter/laws.FnMergeFlats", spec := "fnMergeFlats", unfollowed := true, recurses := true, named := ["loop.example/packetfilter/impl.fieldShapes"], apart := false, laid := [("loop.example/packetfilter/impl.fieldShapes", laid_loop_example_packetfilter_impl_fieldShapes)], narrowed := true }
def FnMergeFlatsUptoSaid : Prop := fnMergeFlatsUptoRow.holds Tryd.pinned (OpenSpec.upto fnMergeFlatsSpec)

/-- 'laws.FnFlatParts', WHERE WHAT IT READS IS OF BULK AT MOST 1048576: true; the input reads as it did. -/
def fnFlatPartsUptoRow : OpenClaim := { program := "ytojafgooobpoiaadoor", sum := "fc034a9caddabbfafedeb13f03fdf8bc3eb4642b5af955a593a1f1ffca98c295", func := "loop.example/packetfilter/laws.FnFlatParts", spec := "fnFlatParts", unfollowed := true, recurses := true, named := ["loop.example/packetfilter/impl.fieldShapes"], apart := false, laid := [("loop.example/packetfilter/impl.fieldShapes", laid_loop_example_packetfilter_impl_fieldShapes)], narrowed := true }
def FnFlatPartsUptoSaid : Prop := fnFlatPartsUptoRow.holds Tryd.pinned (OpenSpec.upto fnFlatPartsSpec)

/-- 'laws.FnTrimEqual', WHERE WHAT IT READS IS OF BULK AT MOST 1048576: true; the input reads as it did. -/
def fnTrimEqualUptoRow : OpenClaim := { program := "ytojafgooobpoiaadoor", sum := "fc034a9caddabbfafedeb13f03fdf8bc3eb4642b5af955a593a1f1ffca98c295", func := "loop.example/packetfilter/laws.FnTrimEqual", spec := "fnTrimEqual", unfollowed := true, recurses := true, named := ["loop.example/packetfilter/impl.fieldShapes"], apart := false, laid := [("loop.example/packetfilter/impl.fieldShapes", laid_loop_example_packetfilter_impl_fieldShapes)], narrowed := true }
def FnTrimEqualUptoSaid : Prop := fnTrimEqualUptoRow.holds Tryd.pinned (OpenSpec.upto fnTrimEqualSpec)

/-- 'laws.FnHitsSame', WHERE WHAT IT READS IS OF BULK AT MOST 1048576: true; the input reads as it did. -/
def fnHitsSameUptoRow : OpenClaim := { program := "ytojafgooobpoiaadoor", sum := "fc034a9caddabbfafedeb13f03fdf8bc3eb4642b5af955a593a1f1ffca98c295", func := "loop.example/packetfilter/laws.FnHitsSame", spec := "fnHitsSame", unfollowed := true, recurses := true, named := ["loop.example/packetfilter/impl.fieldShapes"], apart := false, laid := [("loop.example/packetfilter/impl.fieldShapes", laid_loop_example_packetfilter_impl_fieldShapes)], narrowed := true }
def FnHitsSameUptoSaid : Prop := fnHitsSameUptoRow.holds Tryd.pinned (OpenSpec.upto fnHitsSameSpec)

end Rows
end Go.Proofs.YtojafgooobpoiaaDoor
