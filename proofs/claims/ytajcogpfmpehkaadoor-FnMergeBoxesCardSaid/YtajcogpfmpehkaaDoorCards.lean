/-
  DERIVED. GIVEN WITH THE SEED: THE CARDS: each row of YtajcogpfmpehkaaDoorRows.lean that lists a variable, with what it lists TIED to the program's text (the seventh form; the later family's looks); each row that meets fmt, with fmt's text TOLD by the authors' own Lean function (tested against real Go, not proved from fmt's source: count such statements apart). THE CARD IS WHAT COUNTS. Prove the row's statement (the work); the ties are given (YtajcogpfmpehkaaDoorTie.lean); close each card by the builder's one call (the guide's Derived/Test/ToyasCard.lean, 'card_holds'). Laid BY PROGRAM, IN A SANDBOX (cutbox-door.mjs). By AI agents, Wed Nov 11 2026. No macro, syntax, notation, axiom, sorry.
-/
import Derived.Test.YtajcogpfmpehkaaDoorRows
import GoSem.ClaimSeven
namespace Go.Proofs.YtajcogpfmpehkaaDoor
namespace Rows

/-- THE TIED CARD OF 'laws.FnTrimEqual'. -/
def fnTrimEqualCard : Claim7 := { stood := { row := fnTrimEqualRow, standIns := [], harness := (true, "6d7fa53fe011e5356388f4fb820dc03f1941af2db45abc4ee8b00f18afa815d3"), looks := false }, kinds := [], alts := [], laidByText := true, laidKinds := [.data], laidTests := true, laidLooks := .later }
def FnTrimEqualCardSaid : Prop := Claim7.holds Tryd.pinned (.plain (OpenSpec.ofChange fnTrimEqualSpec)) fnTrimEqualCard

/-- THE TIED CARD OF 'laws.FnFirstDiffer'. -/
def fnFirstDifferCard : Claim7 := { stood := { row := fnFirstDifferRow, standIns := [], harness := (true, "6d7fa53fe011e5356388f4fb820dc03f1941af2db45abc4ee8b00f18afa815d3"), looks := false }, kinds := [], alts := [], laidByText := true, laidKinds := [.data], laidTests := true, laidLooks := .later }
def FnFirstDifferCardSaid : Prop := Claim7.holds Tryd.pinned (.plain (OpenSpec.ofChange fnFirstDifferSpec)) fnFirstDifferCard

/-- THE TIED CARD OF 'laws.FnMergeBoxes'. -/
def fnMergeBoxesCard : Claim7 := { stood := { row := fnMergeBoxesRow, standIns := [], harness := (true, "6d7fa53fe011e5356388f4fb820dc03f1941af2db45abc4ee8b00f18afa815d3"), looks := false }, kinds := [], alts := [], laidByText := true, laidKinds := [.data], laidTests := true, laidLooks := .later }
def FnMergeBoxesCardSaid : Prop := Claim7.holds Tryd.pinned (.plain (OpenSpec.ofChange fnMergeBoxesSpec)) fnMergeBoxesCard

/-- THE TIED CARD OF 'laws.FnMergeSelf'. -/
def fnMergeSelfCard : Claim7 := { stood := { row := fnMergeSelfRow, standIns := [], harness := (true, "6d7fa53fe011e5356388f4fb820dc03f1941af2db45abc4ee8b00f18afa815d3"), looks := false }, kinds := [], alts := [], laidByText := true, laidKinds := [.data], laidTests := true, laidLooks := .later }
def FnMergeSelfCardSaid : Prop := Claim7.holds Tryd.pinned (.plain (OpenSpec.ofChange fnMergeSelfSpec)) fnMergeSelfCard

/-- THE SECOND FORM's CARD OF 'laws.FnTrimEqual'. -/
def fnTrimEqualUptoCard : Claim7 := { stood := { row := fnTrimEqualUptoRow, standIns := [], harness := (true, "6d7fa53fe011e5356388f4fb820dc03f1941af2db45abc4ee8b00f18afa815d3"), looks := false }, kinds := [], alts := [], laidByText := true, laidKinds := [.data], laidTests := true, laidLooks := .later }
def FnTrimEqualUptoCardSaid : Prop := Claim7.holds Tryd.pinned (.plain (OpenSpec.upto fnTrimEqualSpec)) fnTrimEqualUptoCard

/-- THE SECOND FORM's CARD OF 'laws.FnFirstDiffer'. -/
def fnFirstDifferUptoCard : Claim7 := { stood := { row := fnFirstDifferUptoRow, standIns := [], harness := (true, "6d7fa53fe011e5356388f4fb820dc03f1941af2db45abc4ee8b00f18afa815d3"), looks := false }, kinds := [], alts := [], laidByText := true, laidKinds := [.data], laidTests := true, laidLooks := .later }
def FnFirstDifferUptoCardSaid : Prop := Claim7.holds Tryd.pinned (.plain (OpenSpec.upto fnFirstDifferSpec)) fnFirstDifferUptoCard

/-- THE SECOND FORM's CARD OF 'laws.FnMergeBoxes'. -/
def fnMergeBoxesUptoCard : Claim7 := { stood := { row := fnMergeBoxesUptoRow, standIns := [], harness := (true, "6d7fa53fe011e5356388f4fb820dc03f1941af2db45abc4ee8b00f18afa815d3"), looks := false }, kinds := [], alts := [], laidByText := true, laidKinds := [.data], laidTests := true, laidLooks := .later }
def FnMergeBoxesUptoCardSaid : Prop := Claim7.holds Tryd.pinned (.plain (OpenSpec.upto fnMergeBoxesSpec)) fnMergeBoxesUptoCard

/-- THE SECOND FORM's CARD OF 'laws.FnMergeSelf'. -/
def fnMergeSelfUptoCard : Claim7 := { stood := { row := fnMergeSelfUptoRow, standIns := [], harness := (true, "6d7fa53fe011e5356388f4fb820dc03f1941af2db45abc4ee8b00f18afa815d3"), looks := false }, kinds := [], alts := [], laidByText := true, laidKinds := [.data], laidTests := true, laidLooks := .later }
def FnMergeSelfUptoCardSaid : Prop := Claim7.holds Tryd.pinned (.plain (OpenSpec.upto fnMergeSelfSpec)) fnMergeSelfUptoCard
end Rows
end Go.Proofs.YtajcogpfmpehkaaDoor
