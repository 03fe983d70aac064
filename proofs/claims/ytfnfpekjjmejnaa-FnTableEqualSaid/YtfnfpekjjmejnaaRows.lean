/-
  No cell of these rows narrows 'for every input' (looked for: loops, veiled, ifaces, maps, wideKeys, modest, calm, conditions, laid).
  DERIVED. THE GIVEN ROWS OF THIS SEAT. 12 by the template 'for every input the law returns true; each argument reads behind the call as it read before'; 0 by the template 'total and deterministic' (their statements: YtfnfpekjjmejnaaTotals.lean).
  GIVEN WITH THE SEED: the statements are not yours to turn. If you find one false, say at which input.
  Laid BY PROGRAM, IN A SANDBOX (cutbox-rows.mjs): the forced cells as the released guide's own fill.sh prints them over the translation 0b4fbe24e1f9fdad… (all of the seat's roots in one cut). By AI agents, Wed Nov 11 2026. No macro, syntax, notation, axiom, sorry.
-/
import Derived.Test.YtfnfpekjjmejnaaChecked
import GoSem.Claim
import GoSem.ClaimJoined
import GoSem.ClaimMapViews
import Derived.JoinedTies
import Derived.KernelRfl
namespace Go.Proofs.Ytfnfpekjjmejnaa
/- THE CELL 'sum', in the pinned program and in every row, IS THE sha256 OF THE DUMP (.gsa) THAT YtfnfpekjjmejnaaProg.lean LOADS. Nothing in Lean hashes anything: it is a label: what it is worth is what the hold of that sum in a sandbox is worth. -/
noncomputable def Try.pinned : Pinned := { name := "ytfnfpekjjmejnaa", sum := "0b4fbe24e1f9fdad0f3cba71281b2605a52b02c0b2f2d86766e68a512a6ce7c9", checked := Try.checked }
namespace Rows
def none {H : Type} : Left H := { results := [], args := [] }

/-- 'laws.FnExactTableValid': WHATEVER THE INPUT: true; the input reads as it did. -/
def fnExactTableValidSpec : ChangeSpec := { name := "fnExactTableValid", fn := fun _ => fun
  | [d] => { results := [.lit (.bool true)], args := [d] }
  | _ => none }
def fnExactTableValidRow : OpenClaim := { program := "ytfnfpekjjmejnaa", sum := "0b4fbe24e1f9fdad0f3cba71281b2605a52b02c0b2f2d86766e68a512a6ce7c9", func := "loop.example/packetfilter/laws.FnExactTableValid", spec := "fnExactTableValid", apart := false }
def FnExactTableValidSaid : Prop := fnExactTableValidRow.holds Try.pinned (OpenSpec.ofChange fnExactTableValidSpec)

/-- ITS FALSE NEIGHBOUR: 'it returns false'. Refute it at one input. -/
def fnExactTableValidWrong : ChangeSpec := { name := "fnExactTableValid", fn := fun _ => fun
  | [d] => { results := [.lit (.bool false)], args := [d] }
  | _ => none }
def FnExactTableValidWrongFalsely : Prop := fnExactTableValidRow.holds Try.pinned (OpenSpec.ofChange fnExactTableValidWrong)

/-- 'laws.FnTableValid': WHATEVER THE INPUT: true; the input reads as it did. -/
def fnTableValidSpec : ChangeSpec := { name := "fnTableValid", fn := fun _ => fun
  | [d] => { results := [.lit (.bool true)], args := [d] }
  | _ => none }
def fnTableValidRow : OpenClaim := { program := "ytfnfpekjjmejnaa", sum := "0b4fbe24e1f9fdad0f3cba71281b2605a52b02c0b2f2d86766e68a512a6ce7c9", func := "loop.example/packetfilter/laws.FnTableValid", spec := "fnTableValid", apart := false }
def FnTableValidSaid : Prop := fnTableValidRow.holds Try.pinned (OpenSpec.ofChange fnTableValidSpec)

/-- ITS FALSE NEIGHBOUR: 'it returns false'. Refute it at one input. -/
def fnTableValidWrong : ChangeSpec := { name := "fnTableValid", fn := fun _ => fun
  | [d] => { results := [.lit (.bool false)], args := [d] }
  | _ => none }
def FnTableValidWrongFalsely : Prop := fnTableValidRow.holds Try.pinned (OpenSpec.ofChange fnTableValidWrong)

/-- 'laws.FnExactTableFind': WHATEVER THE INPUT: true; the input reads as it did. -/
def fnExactTableFindSpec : ChangeSpec := { name := "fnExactTableFind", fn := fun _ => fun
  | [d1, d2] => { results := [.lit (.bool true)], args := [d1, d2] }
  | _ => none }
def fnExactTableFindRow : OpenClaim := { program := "ytfnfpekjjmejnaa", sum := "0b4fbe24e1f9fdad0f3cba71281b2605a52b02c0b2f2d86766e68a512a6ce7c9", func := "loop.example/packetfilter/laws.FnExactTableFind", spec := "fnExactTableFind", apart := false }
def FnExactTableFindSaid : Prop := fnExactTableFindRow.holds Try.pinned (OpenSpec.ofChange fnExactTableFindSpec)

/-- ITS FALSE NEIGHBOUR: 'it returns false'. Refute it at one input. -/
def fnExactTableFindWrong : ChangeSpec := { name := "fnExactTableFind", fn := fun _ => fun
  | [d1, d2] => { results := [.lit (.bool false)], args := [d1, d2] }
  | _ => none }
def FnExactTableFindWrongFalsely : Prop := fnExactTableFindRow.holds Try.pinned (OpenSpec.ofChange fnExactTableFindWrong)

/-- 'laws.FnExactTableDrop': WHATEVER THE INPUT: true; the input reads as it did. -/
def fnExactTableDropSpec : ChangeSpec := { name := "fnExactTableDrop", fn := fun _ => fun
  | [d1, d2] => { results := [.lit (.bool true)], args := [d1, d2] }
  | _ => none }
def fnExactTableDropRow : OpenClaim := { program := "ytfnfpekjjmejnaa", sum := "0b4fbe24e1f9fdad0f3cba71281b2605a52b02c0b2f2d86766e68a512a6ce7c9", func := "loop.example/packetfilter/laws.FnExactTableDrop", spec := "fnExactTableDrop", unfollowed := true, recurses := true, apart := false }
def FnExactTableDropSaid : Prop := fnExactTableDropRow.holds Try.pinned (OpenSpec.ofChange fnExactTableDropSpec)

/-- ITS FALSE NEIGHBOUR: 'it returns false'. Refute it at one input. -/
def fnExactTableDropWrong : ChangeSpec := { name := "fnExactTableDrop", fn := fun _ => fun
  | [d1, d2] => { results := [.lit (.bool false)], args := [d1, d2] }
  | _ => none }
def FnExactTableDropWrongFalsely : Prop := fnExactTableDropRow.holds Try.pinned (OpenSpec.ofChange fnExactTableDropWrong)

/-- 'laws.FnExactTableShrink': WHATEVER THE INPUT: true; the input reads as it did. -/
def fnExactTableShrinkSpec : ChangeSpec := { name := "fnExactTableShrink", fn := fun _ => fun
  | [d] => { results := [.lit (.bool true)], args := [d] }
  | _ => none }
def fnExactTableShrinkRow : OpenClaim := { program := "ytfnfpekjjmejnaa", sum := "0b4fbe24e1f9fdad0f3cba71281b2605a52b02c0b2f2d86766e68a512a6ce7c9", func := "loop.example/packetfilter/laws.FnExactTableShrink", spec := "fnExactTableShrink", apart := false }
def FnExactTableShrinkSaid : Prop := fnExactTableShrinkRow.holds Try.pinned (OpenSpec.ofChange fnExactTableShrinkSpec)

/-- ITS FALSE NEIGHBOUR: 'it returns false'. Refute it at one input. -/
def fnExactTableShrinkWrong : ChangeSpec := { name := "fnExactTableShrink", fn := fun _ => fun
  | [d] => { results := [.lit (.bool false)], args := [d] }
  | _ => none }
def FnExactTableShrinkWrongFalsely : Prop := fnExactTableShrinkRow.holds Try.pinned (OpenSpec.ofChange fnExactTableShrinkWrong)

/-- 'laws.FnTableDrop': WHATEVER THE INPUT: true; the input reads as it did. -/
def fnTableDropSpec : ChangeSpec := { name := "fnTableDrop", fn := fun _ => fun
  | [d] => { results := [.lit (.bool true)], args := [d] }
  | _ => none }
def fnTableDropRow : OpenClaim := { program := "ytfnfpekjjmejnaa", sum := "0b4fbe24e1f9fdad0f3cba71281b2605a52b02c0b2f2d86766e68a512a6ce7c9", func := "loop.example/packetfilter/laws.FnTableDrop", spec := "fnTableDrop", unfollowed := true, recurses := true, apart := false }
def FnTableDropSaid : Prop := fnTableDropRow.holds Try.pinned (OpenSpec.ofChange fnTableDropSpec)

/-- ITS FALSE NEIGHBOUR: 'it returns false'. Refute it at one input. -/
def fnTableDropWrong : ChangeSpec := { name := "fnTableDrop", fn := fun _ => fun
  | [d] => { results := [.lit (.bool false)], args := [d] }
  | _ => none }
def FnTableDropWrongFalsely : Prop := fnTableDropRow.holds Try.pinned (OpenSpec.ofChange fnTableDropWrong)

/-- 'laws.FnTableFind': WHATEVER THE INPUT: true; the input reads as it did. -/
def fnTableFindSpec : ChangeSpec := { name := "fnTableFind", fn := fun _ => fun
  | [d] => { results := [.lit (.bool true)], args := [d] }
  | _ => none }
def fnTableFindRow : OpenClaim := { program := "ytfnfpekjjmejnaa", sum := "0b4fbe24e1f9fdad0f3cba71281b2605a52b02c0b2f2d86766e68a512a6ce7c9", func := "loop.example/packetfilter/laws.FnTableFind", spec := "fnTableFind", apart := false }
def FnTableFindSaid : Prop := fnTableFindRow.holds Try.pinned (OpenSpec.ofChange fnTableFindSpec)

/-- ITS FALSE NEIGHBOUR: 'it returns false'. Refute it at one input. -/
def fnTableFindWrong : ChangeSpec := { name := "fnTableFind", fn := fun _ => fun
  | [d] => { results := [.lit (.bool false)], args := [d] }
  | _ => none }
def FnTableFindWrongFalsely : Prop := fnTableFindRow.holds Try.pinned (OpenSpec.ofChange fnTableFindWrong)

/-- 'laws.FnTableShrink': WHATEVER THE INPUT: true; the input reads as it did. -/
def fnTableShrinkSpec : ChangeSpec := { name := "fnTableShrink", fn := fun _ => fun
  | [d] => { results := [.lit (.bool true)], args := [d] }
  | _ => none }
def fnTableShrinkRow : OpenClaim := { program := "ytfnfpekjjmejnaa", sum := "0b4fbe24e1f9fdad0f3cba71281b2605a52b02c0b2f2d86766e68a512a6ce7c9", func := "loop.example/packetfilter/laws.FnTableShrink", spec := "fnTableShrink", apart := false }
def FnTableShrinkSaid : Prop := fnTableShrinkRow.holds Try.pinned (OpenSpec.ofChange fnTableShrinkSpec)

/-- ITS FALSE NEIGHBOUR: 'it returns false'. Refute it at one input. -/
def fnTableShrinkWrong : ChangeSpec := { name := "fnTableShrink", fn := fun _ => fun
  | [d] => { results := [.lit (.bool false)], args := [d] }
  | _ => none }
def FnTableShrinkWrongFalsely : Prop := fnTableShrinkRow.holds Try.pinned (OpenSpec.ofChange fnTableShrinkWrong)

/-- 'laws.FnExactTablePut': WHATEVER THE INPUT: true; the input reads as it did. -/
def fnExactTablePutSpec : ChangeSpec := { name := "fnExactTablePut", fn := fun _ => fun
  | [d1, d2] => { results := [.lit (.bool true)], args := [d1, d2] }
  | _ => none }
def fnExactTablePutRow : OpenClaim := { program := "ytfnfpekjjmejnaa", sum := "0b4fbe24e1f9fdad0f3cba71281b2605a52b02c0b2f2d86766e68a512a6ce7c9", func := "loop.example/packetfilter/laws.FnExactTablePut", spec := "fnExactTablePut", inPlace := ["slices.overlaps[loop.example/packetfilter/impl.Entry]"], unfollowed := true, recurses := true, apart := false }
def FnExactTablePutSaid : Prop := fnExactTablePutRow.holds Try.pinned (OpenSpec.ofChange fnExactTablePutSpec)

/-- ITS FALSE NEIGHBOUR: 'it returns false'. Refute it at one input. -/
def fnExactTablePutWrong : ChangeSpec := { name := "fnExactTablePut", fn := fun _ => fun
  | [d1, d2] => { results := [.lit (.bool false)], args := [d1, d2] }
  | _ => none }
def FnExactTablePutWrongFalsely : Prop := fnExactTablePutRow.holds Try.pinned (OpenSpec.ofChange fnExactTablePutWrong)

/-- 'laws.FnTableWhole': WHATEVER THE INPUT: true; the input reads as it did. -/
def fnTableWholeSpec : ChangeSpec := { name := "fnTableWhole", fn := fun _ => fun
  | [d] => { results := [.lit (.bool true)], args := [d] }
  | _ => none }
def fnTableWholeRow : OpenClaim := { program := "ytfnfpekjjmejnaa", sum := "0b4fbe24e1f9fdad0f3cba71281b2605a52b02c0b2f2d86766e68a512a6ce7c9", func := "loop.example/packetfilter/laws.FnTableWhole", spec := "fnTableWhole", inPlace := ["slices.overlaps[loop.example/packetfilter/impl.Entry]"], unfollowed := true, recurses := true, apart := false }
def FnTableWholeSaid : Prop := fnTableWholeRow.holds Try.pinned (OpenSpec.ofChange fnTableWholeSpec)

/-- ITS FALSE NEIGHBOUR: 'it returns false'. Refute it at one input. -/
def fnTableWholeWrong : ChangeSpec := { name := "fnTableWhole", fn := fun _ => fun
  | [d] => { results := [.lit (.bool false)], args := [d] }
  | _ => none }
def FnTableWholeWrongFalsely : Prop := fnTableWholeRow.holds Try.pinned (OpenSpec.ofChange fnTableWholeWrong)

/-- 'laws.FnTablePut': WHATEVER THE INPUT: true; the input reads as it did. -/
def fnTablePutSpec : ChangeSpec := { name := "fnTablePut", fn := fun _ => fun
  | [d] => { results := [.lit (.bool true)], args := [d] }
  | _ => none }
def fnTablePutRow : OpenClaim := { program := "ytfnfpekjjmejnaa", sum := "0b4fbe24e1f9fdad0f3cba71281b2605a52b02c0b2f2d86766e68a512a6ce7c9", func := "loop.example/packetfilter/laws.FnTablePut", spec := "fnTablePut", inPlace := ["slices.overlaps[loop.example/packetfilter/impl.Entry]"], unfollowed := true, recurses := true, apart := false }
def FnTablePutSaid : Prop := fnTablePutRow.holds Try.pinned (OpenSpec.ofChange fnTablePutSpec)

/-- ITS FALSE NEIGHBOUR: 'it returns false'. Refute it at one input. -/
def fnTablePutWrong : ChangeSpec := { name := "fnTablePut", fn := fun _ => fun
  | [d] => { results := [.lit (.bool false)], args := [d] }
  | _ => none }
def FnTablePutWrongFalsely : Prop := fnTablePutRow.holds Try.pinned (OpenSpec.ofChange fnTablePutWrong)

/-- 'laws.FnTableEqual': WHATEVER THE INPUT: true; the input reads as it did. -/
def fnTableEqualSpec : ChangeSpec := { name := "fnTableEqual", fn := fun _ => fun
  | [d1, d2] => { results := [.lit (.bool true)], args := [d1, d2] }
  | _ => none }
def fnTableEqualRow : OpenClaim := { program := "ytfnfpekjjmejnaa", sum := "0b4fbe24e1f9fdad0f3cba71281b2605a52b02c0b2f2d86766e68a512a6ce7c9", func := "loop.example/packetfilter/laws.FnTableEqual", spec := "fnTableEqual", inPlace := ["slices.overlaps[loop.example/packetfilter/impl.Entry]"], unfollowed := true, recurses := true, apart := false }
def FnTableEqualSaid : Prop := fnTableEqualRow.holds Try.pinned (OpenSpec.ofChange fnTableEqualSpec)

/-- ITS FALSE NEIGHBOUR: 'it returns false'. Refute it at one input. -/
def fnTableEqualWrong : ChangeSpec := { name := "fnTableEqual", fn := fun _ => fun
  | [d1, d2] => { results := [.lit (.bool false)], args := [d1, d2] }
  | _ => none }
def FnTableEqualWrongFalsely : Prop := fnTableEqualRow.holds Try.pinned (OpenSpec.ofChange fnTableEqualWrong)

/- THE SECOND FORM. 'bulk': how many values and letters a reading holds, each counted each time it is reached (what is shared counts as often as it is met; a slice's spare places count too). A statement '..UptoSaid' is the law's where the arguments, and the package variables that the reading takes, are together of bulk at most 1048576: NARROWER than '..Said'. Prove '..Said' where nothing that the law and all that it calls make is longer than what came in: it says more and counts as full. Else prove '..UptoSaid'. A law counts once. -/
mutual
def uptoBulk {H : Type} : DataW H → Nat
  | .lit (.string bytes) => bytes.length + 1
  | .lit _ => 1
  | .nil => 1
  | .ptr d => uptoBulk d + 1
  | .slice elems spare => uptoBulkAll elems + uptoBulkAll spare + 1
  | .agg parts => uptoBulkAll parts + 1
  | .iface _ d => uptoBulk d + 1
  | .map entries => uptoBulkEntries entries + 1
  | .held _ => 1
def uptoBulkAll {H : Type} : List (DataW H) → Nat
  | [] => 0
  | d :: r => uptoBulk d + uptoBulkAll r
def uptoBulkEntries {H : Type} : List (Lit × DataW H) → Nat
  | [] => 0
  | x :: r => uptoBulkEntry x + uptoBulkEntries r
def uptoBulkEntry {H : Type} : Lit × DataW H → Nat
  | (.string bytes, d) => bytes.length + uptoBulk d + 1
  | (_, d) => uptoBulk d + 1
 end
def uptoSmall : (H : Type) → List (DataW H) → Bool := fun _ ds => decide (uptoBulkAll ds ≤ 1048576)
def OpenSpec.upto (s : _root_.Go.ChangeSpec) : _root_.Go.OpenSpec := { _root_.Go.OpenSpec.ofChange s with cond := some uptoSmall }

/-- 'laws.FnExactTableValid', WHERE WHAT IT READS IS OF BULK AT MOST 1048576: true; the input reads as it did. -/
def fnExactTableValidUptoRow : OpenClaim := { program := "ytfnfpekjjmejnaa", sum := "0b4fbe24e1f9fdad0f3cba71281b2605a52b02c0b2f2d86766e68a512a6ce7c9", func := "loop.example/packetfilter/laws.FnExactTableValid", spec := "fnExactTableValid", apart := false, narrowed := true }
def FnExactTableValidUptoSaid : Prop := fnExactTableValidUptoRow.holds Try.pinned (OpenSpec.upto fnExactTableValidSpec)

/-- 'laws.FnTableValid', WHERE WHAT IT READS IS OF BULK AT MOST 1048576: true; the input reads as it did. -/
def fnTableValidUptoRow : OpenClaim := { program := "ytfnfpekjjmejnaa", sum := "0b4fbe24e1f9fdad0f3cba71281b2605a52b02c0b2f2d86766e68a512a6ce7c9", func := "loop.example/packetfilter/laws.FnTableValid", spec := "fnTableValid", apart := false, narrowed := true }
def FnTableValidUptoSaid : Prop := fnTableValidUptoRow.holds Try.pinned (OpenSpec.upto fnTableValidSpec)

/-- 'laws.FnExactTableFind', WHERE WHAT IT READS IS OF BULK AT MOST 1048576: true; the input reads as it did. -/
def fnExactTableFindUptoRow : OpenClaim := { program := "ytfnfpekjjmejnaa", sum := "0b4fbe24e1f9fdad0f3cba71281b2605a52b02c0b2f2d86766e68a512a6ce7c9", func := "loop.example/packetfilter/laws.FnExactTableFind", spec := "fnExactTableFind", apart := false, narrowed := true }
def FnExactTableFindUptoSaid : Prop := fnExactTableFindUptoRow.holds Try.pinned (OpenSpec.upto fnExactTableFindSpec)

/-- 'laws.FnExactTableDrop', WHERE WHAT IT READS IS OF BULK AT MOST 1048576: true; the input reads as it did. -/
def fnExactTableDropUptoRow : OpenClaim := { program := "ytfnfpekjjmejnaa", sum := "0b4fbe24e1f9fdad0f3cba71281b2605a52b02c0b2f2d86766e68a512a6ce7c9", func := "loop.example/packetfilter/laws.FnExactTableDrop", spec := "fnExactTableDrop", unfollowed := true, recurses := true, apart := false, narrowed := true }
def FnExactTableDropUptoSaid : Prop := fnExactTableDropUptoRow.holds Try.pinned (OpenSpec.upto fnExactTableDropSpec)

/-- 'laws.FnExactTableShrink', WHERE WHAT IT READS IS OF BULK AT MOST 1048576: true; the input reads as it did. -/
def fnExactTableShrinkUptoRow : OpenClaim := { program := "ytfnfpekjjmejnaa", sum := "0b4fbe24e1f9fdad0f3cba71281b2605a52b02c0b2f2d86766e68a512a6ce7c9", func := "loop.example/packetfilter/laws.FnExactTableShrink", spec := "fnExactTableShrink", apart := false, narrowed := true }
def FnExactTableShrinkUptoSaid : Prop := fnExactTableShrinkUptoRow.holds Try.pinned (OpenSpec.upto fnExactTableShrinkSpec)

/-- 'laws.FnTableDrop', WHERE WHAT IT READS IS OF BULK AT MOST 1048576: true; the input reads as it did. -/
def fnTableDropUptoRow : OpenClaim := { program := "ytfnfpekjjmejnaa", sum := "0b4fbe24e1f9fdad0f3cba71281b2605a52b02c0b2f2d86766e68a512a6ce7c9", func := "loop.example/packetfilter/laws.FnTableDrop", spec := "fnTableDrop", unfollowed := true, recurses := true, apart := false, narrowed := true }
def FnTableDropUptoSaid : Prop := fnTableDropUptoRow.holds Try.pinned (OpenSpec.upto fnTableDropSpec)

/-- 'laws.FnTableFind', WHERE WHAT IT READS IS OF BULK AT MOST 1048576: true; the input reads as it did. -/
def fnTableFindUptoRow : OpenClaim := { program := "ytfnfpekjjmejnaa", sum := "0b4fbe24e1f9fdad0f3cba71281b2605a52b02c0b2f2d86766e68a512a6ce7c9", func := "loop.example/packetfilter/laws.FnTableFind", spec := "fnTableFind", apart := false, narrowed := true }
def FnTableFindUptoSaid : Prop := fnTableFindUptoRow.holds Try.pinned (OpenSpec.upto fnTableFindSpec)

/-- 'laws.FnTableShrink', WHERE WHAT IT READS IS OF BULK AT MOST 1048576: true; the input reads as it did. -/
def fnTableShrinkUptoRow : OpenClaim := { program := "ytfnfpekjjmejnaa", sum := "0b4fbe24e1f9fdad0f3cba71281b2605a52b02c0b2f2d86766e68a512a6ce7c9", func := "loop.example/packetfilter/laws.FnTableShrink", spec := "fnTableShrink", apart := false, narrowed := true }
def FnTableShrinkUptoSaid : Prop := fnTableShrinkUptoRow.holds Try.pinned (OpenSpec.upto fnTableShrinkSpec)

/-- 'laws.FnExactTablePut', WHERE WHAT IT READS IS OF BULK AT MOST 1048576: true; the input reads as it did. -/
def fnExactTablePutUptoRow : OpenClaim := { program := "ytfnfpekjjmejnaa", sum := "0b4fbe24e1f9fdad0f3cba71281b2605a52b02c0b2f2d86766e68a512a6ce7c9", func := "loop.example/packetfilter/laws.FnExactTablePut", spec := "fnExactTablePut", inPlace := ["slices.overlaps[loop.example/packetfilter/impl.Entry]"], unfollowed := true, recurses := true, apart := false, narrowed := true }
def FnExactTablePutUptoSaid : Prop := fnExactTablePutUptoRow.holds Try.pinned (OpenSpec.upto fnExactTablePutSpec)

/-- 'laws.FnTableWhole', WHERE WHAT IT READS IS OF BULK AT MOST 1048576: true; the input reads as it did. -/
def fnTableWholeUptoRow : OpenClaim := { program := "ytfnfpekjjmejnaa", sum := "0b4fbe24e1f9fdad0f3cba71281b2605a52b02c0b2f2d86766e68a512a6ce7c9", func := "loop.example/packetfilter/laws.FnTableWhole", spec := "fnTableWhole", inPlace := ["slices.overlaps[loop.example/packetfilter/impl.Entry]"], unfollowed := true, recurses := true, apart := false, narrowed := true }
def FnTableWholeUptoSaid : Prop := fnTableWholeUptoRow.holds Try.pinned (OpenSpec.upto fnTableWholeSpec)

/-- 'laws.FnTablePut', WHERE WHAT IT READS IS OF BULK AT MOST 1048576: true; the input reads as it did. -/
def fnTablePutUptoRow : OpenClaim := { program := "ytfnfpekjjmejnaa", sum := "0b4fbe24e1f9fdad0f3cba71281b2605a52b02c0b2f2d86766e68a512a6ce7c9", func := "loop.example/packetfilter/laws.FnTablePut", spec := "fnTablePut", inPlace := ["slices.overlaps[loop.example/packetfilter/impl.Entry]"], unfollowed := true, recurses := true, apart := false, narrowed := true }
def FnTablePutUptoSaid : Prop := fnTablePutUptoRow.holds Try.pinned (OpenSpec.upto fnTablePutSpec)

/-- 'laws.FnTableEqual', WHERE WHAT IT READS IS OF BULK AT MOST 1048576: true; the input reads as it did. -/
def fnTableEqualUptoRow : OpenClaim := { program := "ytfnfpekjjmejnaa", sum := "0b4fbe24e1f9fdad0f3cba71281b2605a52b02c0b2f2d86766e68a512a6ce7c9", func := "loop.example/packetfilter/laws.FnTableEqual", spec := "fnTableEqual", inPlace := ["slices.overlaps[loop.example/packetfilter/impl.Entry]"], unfollowed := true, recurses := true, apart := false, narrowed := true }
def FnTableEqualUptoSaid : Prop := fnTableEqualUptoRow.holds Try.pinned (OpenSpec.upto fnTableEqualSpec)

end Rows
end Go.Proofs.Ytfnfpekjjmejnaa
