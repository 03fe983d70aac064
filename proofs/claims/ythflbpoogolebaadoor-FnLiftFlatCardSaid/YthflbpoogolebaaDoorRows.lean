/-
  NARROWER THAN 'FOR EVERY INPUT', by the rows' own cells (each row's printed sentence says how): FnSwapFlats: laid · FnLiftFlat: laid · FnByHits: laid.
  DERIVED. THE GIVEN ROWS OF THIS SEAT. 3 by the template 'for every input the law returns true; each argument reads behind the call as it read before'; 0 by the template 'total and deterministic' (their statements: YthflbpoogolebaaDoorTotals.lean).
  GIVEN WITH THE SEED: the statements are not yours to turn. If you find one false, say at which input.
  Laid BY PROGRAM, IN A SANDBOX (cutbox-rows.mjs): the forced cells as the released guide's own fill.sh prints them over the translation 3f820222dce307d0… (all of the seat's roots in one cut). By AI agents, Wed Nov 11 2026. No macro, syntax, notation, axiom, sorry.
-/
import Derived.Test.YthflbpoogolebaaDoorChecked
import GoSem.Claim
import GoSem.ClaimJoined
import GoSem.ClaimMapViews
import Derived.JoinedTies
import Derived.KernelRfl
namespace Go.Proofs.YthflbpoogolebaaDoor
/- THE CELL 'sum', in the pinned program and in every row, IS THE sha256 OF THE DUMP (.gsa) THAT YthflbpoogolebaaDoorProg.lean LOADS. Nothing in Lean hashes anything: it is a label: what it is worth is what the hold of that sum in a sandbox is worth. -/
noncomputable def Tryd.pinned : Pinned := { name := "ythflbpoogolebaadoor", sum := "3f820222dce307d061db717145610f762d8d790548300141fa9c7142c3602818", checked := Tryd.checked }
namespace Rows
def none {H : Type} : Left H := { results := [], args := [] }

/- WHAT THE LISTED PACKAGE-LEVEL VARIABLES READ AS WHEN THE CALL BEGINS. Each datum BY PROGRAM (the guide's laid-datum.mjs) off the statement by which the dump's own 'gosem.cut.vars' lays the variable. In a bare row this is a premise. The card (YthflbpoogolebaaDoorCards.lean) ties it to the program's text. -/
def laid_loop_example_packetfilter_impl_fieldShapes {H : Type} : DataW H := .agg [.agg [.lit (.string [102, 114, 111, 109]), .lit (.int .i64 65535)], .agg [.lit (.string [116, 111]), .lit (.int .i64 65535)], .agg [.lit (.string [112, 111, 114, 116]), .lit (.int .i64 255)], .agg [.lit (.string [112, 114, 111, 116, 111]), .lit (.int .i64 7)]]

/-- 'laws.FnSwapFlats': WHATEVER THE INPUT: true; the input reads as it did. -/
def fnSwapFlatsSpec : ChangeSpec := { name := "fnSwapFlats", vars := ["loop.example/packetfilter/impl.fieldShapes"], fn := fun _ => fun
  | [d1, d2, g1] => { results := [.lit (.bool true)], args := [d1, d2], vars := [g1] }
  | _ => none }
def fnSwapFlatsRow : OpenClaim := { program := "ythflbpoogolebaadoor", sum := "3f820222dce307d061db717145610f762d8d790548300141fa9c7142c3602818", func := "loop.example/packetfilter/laws.FnSwapFlats", spec := "fnSwapFlats", unfollowed := true, recurses := true, named := ["loop.example/packetfilter/impl.fieldShapes"], apart := false, laid := [("loop.example/packetfilter/impl.fieldShapes", laid_loop_example_packetfilter_impl_fieldShapes)] }
def FnSwapFlatsSaid : Prop := fnSwapFlatsRow.holds Tryd.pinned (OpenSpec.ofChange fnSwapFlatsSpec)

/-- ITS FALSE NEIGHBOUR: 'it returns false'. Refute it at one input. -/
def fnSwapFlatsWrong : ChangeSpec := { name := "fnSwapFlats", vars := ["loop.example/packetfilter/impl.fieldShapes"], fn := fun _ => fun
  | [d1, d2, g1] => { results := [.lit (.bool false)], args := [d1, d2], vars := [g1] }
  | _ => none }
def FnSwapFlatsWrongFalsely : Prop := fnSwapFlatsRow.holds Tryd.pinned (OpenSpec.ofChange fnSwapFlatsWrong)

/-- 'laws.FnLiftFlat': WHATEVER THE INPUT: true; the input reads as it did. -/
def fnLiftFlatSpec : ChangeSpec := { name := "fnLiftFlat", vars := ["loop.example/packetfilter/impl.fieldShapes"], fn := fun _ => fun
  | [d1, d2, g1] => { results := [.lit (.bool true)], args := [d1, d2], vars := [g1] }
  | _ => none }
def fnLiftFlatRow : OpenClaim := { program := "ythflbpoogolebaadoor", sum := "3f820222dce307d061db717145610f762d8d790548300141fa9c7142c3602818", func := "loop.example/packetfilter/laws.FnLiftFlat", spec := "fnLiftFlat", unfollowed := true, recurses := true, named := ["loop.example/packetfilter/impl.fieldShapes"], apart := false, laid := [("loop.example/packetfilter/impl.fieldShapes", laid_loop_example_packetfilter_impl_fieldShapes)] }
def FnLiftFlatSaid : Prop := fnLiftFlatRow.holds Tryd.pinned (OpenSpec.ofChange fnLiftFlatSpec)

/-- ITS FALSE NEIGHBOUR: 'it returns false'. Refute it at one input. -/
def fnLiftFlatWrong : ChangeSpec := { name := "fnLiftFlat", vars := ["loop.example/packetfilter/impl.fieldShapes"], fn := fun _ => fun
  | [d1, d2, g1] => { results := [.lit (.bool false)], args := [d1, d2], vars := [g1] }
  | _ => none }
def FnLiftFlatWrongFalsely : Prop := fnLiftFlatRow.holds Tryd.pinned (OpenSpec.ofChange fnLiftFlatWrong)

/-- 'laws.FnByHits': WHATEVER THE INPUT: true; the input reads as it did. -/
def fnByHitsSpec : ChangeSpec := { name := "fnByHits", vars := ["loop.example/packetfilter/impl.fieldShapes"], fn := fun _ => fun
  | [d1, d2, g1] => { results := [.lit (.bool true)], args := [d1, d2], vars := [g1] }
  | _ => none }
def fnByHitsRow : OpenClaim := { program := "ythflbpoogolebaadoor", sum := "3f820222dce307d061db717145610f762d8d790548300141fa9c7142c3602818", func := "loop.example/packetfilter/laws.FnByHits", spec := "fnByHits", unfollowed := true, recurses := true, named := ["loop.example/packetfilter/impl.fieldShapes"], apart := false, laid := [("loop.example/packetfilter/impl.fieldShapes", laid_loop_example_packetfilter_impl_fieldShapes)] }
def FnByHitsSaid : Prop := fnByHitsRow.holds Tryd.pinned (OpenSpec.ofChange fnByHitsSpec)

/-- ITS FALSE NEIGHBOUR: 'it returns false'. Refute it at one input. -/
def fnByHitsWrong : ChangeSpec := { name := "fnByHits", vars := ["loop.example/packetfilter/impl.fieldShapes"], fn := fun _ => fun
  | [d1, d2, g1] => { results := [.lit (.bool false)], args := [d1, d2], vars := [g1] }
  | _ => none }
def FnByHitsWrongFalsely : Prop := fnByHitsRow.holds Tryd.pinned (OpenSpec.ofChange fnByHitsWrong)

/- THE SECOND FORM. 'bulk': how many values and letters a reading holds, each counted each time it is reached (what is shared counts as often as it is met; a slice's spare places count too). A statement '..UptoSaid' is the law's where the arguments, and the package variables that the reading takes, are together of bulk at most 1048576: NARROWER than '..Said'. Prove '..Said' where nothing that the law and all that it calls make is longer than what came in: it says more and counts as full. Else prove '..UptoSaid'. A law counts once. -/
mutual
def uptoBulk {H : Type} : DataW H → Nat
  | .lit (.string bytes) => bytes.length + 1
  | .lit _ => 1
  | .nil => 1
  | .ptr d => uptoBulk d + 1
  | .slice elems spare => uptoBulkAll elems + uptoBulkAll spare + 1
  | .agg parts => uptoBulkAll parts + 1
  | .iface _ d => uptoBulk d + 1
  | .map entries => uptoBulkEntries entries + 1
  | .held _ => 1
def uptoBulkAll {H : Type} : List (DataW H) → Nat
  | [] => 0
  | d :: r => uptoBulk d + uptoBulkAll r
def uptoBulkEntries {H : Type} : List (Lit × DataW H) → Nat
  | [] => 0
  | x :: r => uptoBulkEntry x + uptoBulkEntries r
def uptoBulkEntry {H : Type} : Lit × DataW H → Nat
  | (.string bytes, d) => bytes.length + uptoBulk d + 1
  | (_, d) => uptoBulk d + 1
 end
def uptoSmall : (H : Type) → List (DataW H) → Bool := fun _ ds => decide (uptoBulkAll ds ≤ 1048576)
def OpenSpec.upto (s : _root_.Go.ChangeSpec) : _root_.Go.OpenSpec := { _root_.Go.OpenSpec.ofChange s with cond := some uptoSmall }

/-- 'laws.FnSwapFlats', WHERE WHAT IT READS IS OF BULK AT MOST 1048576: true; the input reads as it did. -/
def fnSwapFlatsUptoRow : OpenClaim := { program := "ythflbpoogolebaadoor", sum := "3f820222dce307d061db717145610f762d8d790548300141fa9c7142c3602818", func := "loop.example/packetfilter/laws.FnSwapFlats", spec := "fnSwapFlats", unfollowed := true, recurses := true, named := ["loop.example/packetfilter/impl.fieldShapes"], apart := false, laid := [("loop.example/packetfilter/impl.fieldShapes", laid_loop_example_packetfilter_impl_fieldShapes)], narrowed := true }
def FnSwapFlatsUptoSaid : Prop := fnSwapFlatsUptoRow.holds Tryd.pinned (OpenSpec.upto fnSwapFlatsSpec)

/-- 'laws.FnLiftFlat', WHERE WHAT IT READS IS OF BULK AT MOST 1048576: true; the input reads as it did. -/
def fnLiftFlatUptoRow : OpenClaim := { program := "ythflbpoogolebaadoor", sum := "3f820222dce307d061db717145610f762d8d790548300141fa9c7142c3602818", func := "loop.example/packetfilter/laws.FnLiftFlat", spec := "fnLiftFlat", unfollowed := true, recurses := true, named := ["loop.example/packetfilter/impl.fieldShapes"], apart := false, laid := [("loop.example/packetfilter/impl.fieldShapes", laid_loop_example_packetfilter_impl_fieldShapes)], narrowed := true }
def FnLiftFlatUptoSaid : Prop := fnLiftFlatUptoRow.holds Tryd.pinned (OpenSpec.upto fnLiftFlatSpec)

/-- 'laws.FnByHits', WHERE WHAT IT READS IS OF BULK AT MOST 1048576: true; the input reads as it did. -/
def fnByHitsUptoRow : OpenClaim := { program := "ythflbpoogolebaadoor", sum := "3f820222dce307d061db717145610f762d8d790548300141fa9c7142c3602818", func := "loop.example/packetfilter/laws.FnByHits", spec := "fnByHits", unfollowed := true, recurses := true, named := ["loop.example/packetfilter/impl.fieldShapes"], apart := false, laid := [("loop.example/packetfilter/impl.fieldShapes", laid_loop_example_packetfilter_impl_fieldShapes)], narrowed := true }
def FnByHitsUptoSaid : Prop := fnByHitsUptoRow.holds Tryd.pinned (OpenSpec.upto fnByHitsSpec)

end Rows
end Go.Proofs.YthflbpoogolebaaDoor
