/-
  NARROWER THAN 'FOR EVERY INPUT', by the rows' own cells (each row's printed sentence says how): FnFlatsSame: laid · FnNewlyOpen: laid.
  DERIVED. THE GIVEN ROWS OF THIS SEAT. 2 by the template 'for every input the law returns true; each argument reads behind the call as it read before'; 0 by the template 'total and deterministic' (their statements: YtajcogpfmpehkaaGreatDoorTotals.lean).
  GIVEN WITH THE SEED: the statements are not yours to turn. If you find one false, say at which input.
  Laid BY PROGRAM, IN A SANDBOX (cutbox-rows.mjs): the forced cells as the released guide's own fill.sh prints them over the translation c858bcbca6a4c647… (all of the seat's roots in one cut). By AI agents, Wed Nov 11 2026. No macro, syntax, notation, axiom, sorry.
-/
import Derived.Test.YtajcogpfmpehkaaGreatDoorChecked
import GoSem.Claim
import GoSem.ClaimJoined
import GoSem.ClaimMapViews
import Derived.JoinedTies
import Derived.KernelRfl
namespace Go.Proofs.YtajcogpfmpehkaaGreatDoor
/- THE CELL 'sum', in the pinned program and in every row, IS THE sha256 OF THE DUMP (.gsa) THAT YtajcogpfmpehkaaGreatDoorProg.lean LOADS. Nothing in Lean hashes anything: it is a label: what it is worth is what the hold of that sum in a sandbox is worth. -/
noncomputable def Tryz.pinned : Pinned := { name := "ytajcogpfmpehkaagreatdoor", sum := "c858bcbca6a4c64757ddc1881cbff17f57a82818663180c8a3dbd880fd534acb", checked := Tryz.checked }
namespace Rows
def none {H : Type} : Left H := { results := [], args := [] }

/- WHAT THE LISTED PACKAGE-LEVEL VARIABLES READ AS WHEN THE CALL BEGINS. Each datum BY PROGRAM (the guide's laid-datum.mjs) off the statement by which the dump's own 'gosem.cut.vars' lays the variable. In a bare row this is a premise. The card (YtajcogpfmpehkaaGreatDoorCards.lean) ties it to the program's text. -/
def laid_loop_example_packetfilter_impl_fieldShapes {H : Type} : DataW H := .agg [.agg [.lit (.string [102, 114, 111, 109]), .lit (.int .i64 65535)], .agg [.lit (.string [116, 111]), .lit (.int .i64 65535)], .agg [.lit (.string [112, 111, 114, 116]), .lit (.int .i64 255)], .agg [.lit (.string [112, 114, 111, 116, 111]), .lit (.int .i64 7)]]

/-- 'laws.FnFlatsSame': WHATEVER THE INPUT: true; the input reads as it did. -/
def fnFlatsSameSpec : ChangeSpec := { name := "fnFlatsSame", vars := ["loop.example/packetfilter/impl.fieldShapes"], fn := fun _ => fun
  | [d, g1] => { results := [.lit (.bool true)], args := [d], vars := [g1] }
  | _ => none }
def fnFlatsSameRow : OpenClaim := { program := "ytajcogpfmpehkaagreatdoor", sum := "c858bcbca6a4c64757ddc1881cbff17f57a82818663180c8a3dbd880fd534acb", func := "loop.example/packetfilter/laws.FnFlatsSame", spec := "fnFlatsSame", unfollowed := true, recurses := true, named := ["loop.example/packetfilter/impl.fieldShapes"], apart := false, laid := [("loop.example/packetfilter/impl.fieldShapes", laid_loop_example_packetfilter_impl_fieldShapes)] }
def FnFlatsSameSaid : Prop := fnFlatsSameRow.holds Tryz.pinned (OpenSpec.ofChange fnFlatsSameSpec)

/-- ITS FALSE NEIGHBOUR: 'it returns false'. Refute it at one input. -/
def fnFlatsSameWrong : ChangeSpec := { name := "fnFlatsSame", vars := ["loop.example/packetfilter/impl.fieldShapes"], fn := fun _ => fun
  | [d, g1] => { results := [.lit (.bool false)], args := [d], vars := [g1] }
  | _ => none }
def FnFlatsSameWrongFalsely : Prop := fnFlatsSameRow.holds Tryz.pinned (OpenSpec.ofChange fnFlatsSameWrong)

/-- 'laws.FnNewlyOpen': WHATEVER THE INPUT: true; the input reads as it did. -/
def fnNewlyOpenSpec : ChangeSpec := { name := "fnNewlyOpen", vars := ["loop.example/packetfilter/impl.fieldShapes"], fn := fun _ => fun
  | [d1, d2, g1] => { results := [.lit (.bool true)], args := [d1, d2], vars := [g1] }
  | _ => none }
def fnNewlyOpenRow : OpenClaim := { program := "ytajcogpfmpehkaagreatdoor", sum := "c858bcbca6a4c64757ddc1881cbff17f57a82818663180c8a3dbd880fd534acb", func := "loop.example/packetfilter/laws.FnNewlyOpen", spec := "fnNewlyOpen", unfollowed := true, recurses := true, named := ["loop.example/packetfilter/impl.fieldShapes"], apart := false, laid := [("loop.example/packetfilter/impl.fieldShapes", laid_loop_example_packetfilter_impl_fieldShapes)] }
def FnNewlyOpenSaid : Prop := fnNewlyOpenRow.holds Tryz.pinned (OpenSpec.ofChange fnNewlyOpenSpec)

/-- ITS FALSE NEIGHBOUR: 'it returns false'. Refute it at one input. -/
def fnNewlyOpenWrong : ChangeSpec := { name := "fnNewlyOpen", vars := ["loop.example/packetfilter/impl.fieldShapes"], fn := fun _ => fun
  | [d1, d2, g1] => { results := [.lit (.bool false)], args := [d1, d2], vars := [g1] }
  | _ => none }
def FnNewlyOpenWrongFalsely : Prop := fnNewlyOpenRow.holds Tryz.pinned (OpenSpec.ofChange fnNewlyOpenWrong)

/- THE SECOND FORM. 'bulk': how many values and letters a reading holds, each counted each time it is reached (what is shared counts as often as it is met; a slice's spare places count too). A statement '..UptoSaid' is the law's where the arguments, and the package variables that the reading takes, are together of bulk at most 1048576: NARROWER than '..Said'. Prove '..Said' where nothing that the law and all that it calls make is longer than what came in: it says more and counts as full. Else prove '..UptoSaid'. A law counts once. -/
mutual
def uptoBulk {H : Type} : DataW H → Nat
  | .lit (.string bytes) => bytes.length + 1
  | .lit _ => 1
  | .nil => 1
  | .ptr d => uptoBulk d + 1
  | .slice elems spare => uptoBulkAll elems + uptoBulkAll spare + 1
  | .agg parts => uptoBulkAll parts + 1
  | .iface _ d => uptoBulk d + 1
  | .map entries => uptoBulkEntries entries + 1
  | .held _ => 1
def uptoBulkAll {H : Type} : List (DataW H) → Nat
  | [] => 0
  | d :: r => uptoBulk d + uptoBulkAll r
def uptoBulkEntries {H : Type} : List (Lit × DataW H) → Nat
  | [] => 0
  | x :: r => uptoBulkEntry x + uptoBulkEntries r
def uptoBulkEntry {H : Type} : Lit × DataW H → Nat
  | (.string bytes, d) => bytes.length + uptoBulk d + 1
  | (_, d) => uptoBulk d + 1
 end
def uptoSmall : (H : Type) → List (DataW H) → Bool := fun _ ds => decide (uptoBulkAll ds ≤ 1048576)
def OpenSpec.upto (s : _root_.Go.ChangeSpec) : _root_.Go.OpenSpec := { _root_.Go.OpenSpec.ofChange s with cond := some uptoSmall }

/-- 'laws.FnFlatsSame', WHERE WHAT IT READS IS OF BULK AT MOST 1048576: true; the input reads as it did. -/
def fnFlatsSameUptoRow : OpenClaim := { program := "ytajcogpfmpehkaagreatdoor", sum := "c858bcbca6a4c64757ddc1881cbff17f57a82818663180c8a3dbd880fd534acb", func := "loop.example/packetfilter/laws.FnFlatsSame", spec := "fnFlatsSame", unfollowed := true, recurses := true, named := ["loop.example/packetfilter/impl.fieldShapes"], apart := false, laid := [("loop.example/packetfilter/impl.fieldShapes", laid_loop_example_packetfilter_impl_fieldShapes)], narrowed := true }
def FnFlatsSameUptoSaid : Prop := fnFlatsSameUptoRow.holds Tryz.pinned (OpenSpec.upto fnFlatsSameSpec)

/-- 'laws.FnNewlyOpen', WHERE WHAT IT READS IS OF BULK AT MOST 1048576: true; the input reads as it did. -/
def fnNewlyOpenUptoRow : OpenClaim := { program := "ytajcogpfmpehkaagreatdoor", sum := "c858bcbca6a4c64757ddc1881cbff17f57a82818663180c8a3dbd880fd534acb", func := "loop.example/packetfilter/laws.FnNewlyOpen", spec := "fnNewlyOpen", unfollowed := true, recurses := true, named := ["loop.example/packetfilter/impl.fieldShapes"], apart := false, laid := [("loop.example/packetfilter/impl.fieldShapes", laid_loop_example_packetfilter_impl_fieldShapes)], narrowed := true }
def FnNewlyOpenUptoSaid : Prop := fnNewlyOpenUptoRow.holds Tryz.pinned (OpenSpec.upto fnNewlyOpenSpec)

end Rows
end Go.Proofs.YtajcogpfmpehkaaGreatDoor
