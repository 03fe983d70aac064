/-
  DERIVED. GIVEN WITH THE SEED: THE CARDS: each row of YtgmonbhdgnamnaaDoorRows.lean that lists a variable, with what it lists TIED to the program's text (the seventh form; the later family's looks); each row that meets fmt, with fmt's text TOLD by the authors' own Lean function (tested against real Go, not proved from fmt's source: count such statements apart). THE CARD IS WHAT COUNTS. Prove the row's statement (the work); the ties are given (YtgmonbhdgnamnaaDoorTie.lean); close each card by the builder's one call (the guide's Derived/Test/ToyasCard.lean, 'card_holds'). Laid BY PROGRAM, IN A SANDBOX (cutbox-door.mjs). By AI agents, Wed Nov 11 2026. No macro, syntax, notation, axiom, sorry.
-/
import Derived.Test.YtgmonbhdgnamnaaDoorRows
import GoSem.ClaimSeven
namespace Go.Proofs.YtgmonbhdgnamnaaDoor
namespace Rows

/-- THE TIED CARD OF 'laws.FnExactMergeBoxes'. -/
def fnExactMergeBoxesCard : Claim7 := { stood := { row := fnExactMergeBoxesRow, standIns := [], harness := (true, "1e732f5d1023c8c7dafb1bf98677d40cf73e58eaa6e29909eff3835549ff4d0c"), looks := false }, kinds := [], alts := [], laidByText := true, laidKinds := [.data], laidTests := true, laidLooks := .later }
def FnExactMergeBoxesCardSaid : Prop := Claim7.holds Tryd.pinned (.plain (OpenSpec.ofChange fnExactMergeBoxesSpec)) fnExactMergeBoxesCard

/-- THE TIED CARD OF 'laws.FnMergeBoxes'. -/
def fnMergeBoxesCard : Claim7 := { stood := { row := fnMergeBoxesRow, standIns := [], harness := (true, "1e732f5d1023c8c7dafb1bf98677d40cf73e58eaa6e29909eff3835549ff4d0c"), looks := false }, kinds := [], alts := [], laidByText := true, laidKinds := [.data], laidTests := true, laidLooks := .later }
def FnMergeBoxesCardSaid : Prop := Claim7.holds Tryd.pinned (.plain (OpenSpec.ofChange fnMergeBoxesSpec)) fnMergeBoxesCard

/-- THE TIED CARD OF 'laws.FnMergeSelf'. -/
def fnMergeSelfCard : Claim7 := { stood := { row := fnMergeSelfRow, standIns := [], harness := (true, "1e732f5d1023c8c7dafb1bf98677d40cf73e58eaa6e29909eff3835549ff4d0c"), looks := false }, kinds := [], alts := [], laidByText := true, laidKinds := [.data], laidTests := true, laidLooks := .later }
def FnMergeSelfCardSaid : Prop := Claim7.holds Tryd.pinned (.plain (OpenSpec.ofChange fnMergeSelfSpec)) fnMergeSelfCard

/-- THE TIED CARD OF 'laws.FnExactDeadFlats'. -/
def fnExactDeadFlatsCard : Claim7 := { stood := { row := fnExactDeadFlatsRow, standIns := [], harness := (true, "1e732f5d1023c8c7dafb1bf98677d40cf73e58eaa6e29909eff3835549ff4d0c"), looks := false }, kinds := [], alts := [], laidByText := true, laidKinds := [.data], laidTests := true, laidLooks := .later }
def FnExactDeadFlatsCardSaid : Prop := Claim7.holds Tryd.pinned (.plain (OpenSpec.ofChange fnExactDeadFlatsSpec)) fnExactDeadFlatsCard

/-- THE TIED CARD OF 'laws.FnExactLivePart'. -/
def fnExactLivePartCard : Claim7 := { stood := { row := fnExactLivePartRow, standIns := [], harness := (true, "1e732f5d1023c8c7dafb1bf98677d40cf73e58eaa6e29909eff3835549ff4d0c"), looks := false }, kinds := [], alts := [], laidByText := true, laidKinds := [.data], laidTests := true, laidLooks := .later }
def FnExactLivePartCardSaid : Prop := Claim7.holds Tryd.pinned (.plain (OpenSpec.ofChange fnExactLivePartSpec)) fnExactLivePartCard

/-- THE TIED CARD OF 'laws.FnExactDropDead'. -/
def fnExactDropDeadCard : Claim7 := { stood := { row := fnExactDropDeadRow, standIns := [], harness := (true, "1e732f5d1023c8c7dafb1bf98677d40cf73e58eaa6e29909eff3835549ff4d0c"), looks := false }, kinds := [], alts := [], laidByText := true, laidKinds := [.data], laidTests := true, laidLooks := .later }
def FnExactDropDeadCardSaid : Prop := Claim7.holds Tryd.pinned (.plain (OpenSpec.ofChange fnExactDropDeadSpec)) fnExactDropDeadCard

/-- THE TIED CARD OF 'laws.FnDeadAfter'. -/
def fnDeadAfterCard : Claim7 := { stood := { row := fnDeadAfterRow, standIns := [], harness := (true, "1e732f5d1023c8c7dafb1bf98677d40cf73e58eaa6e29909eff3835549ff4d0c"), looks := false }, kinds := [], alts := [], laidByText := true, laidKinds := [.data], laidTests := true, laidLooks := .later }
def FnDeadAfterCardSaid : Prop := Claim7.holds Tryd.pinned (.plain (OpenSpec.ofChange fnDeadAfterSpec)) fnDeadAfterCard

/-- THE TIED CARD OF 'laws.FnDeadFlats'. -/
def fnDeadFlatsCard : Claim7 := { stood := { row := fnDeadFlatsRow, standIns := [], harness := (true, "1e732f5d1023c8c7dafb1bf98677d40cf73e58eaa6e29909eff3835549ff4d0c"), looks := false }, kinds := [], alts := [], laidByText := true, laidKinds := [.data], laidTests := true, laidLooks := .later }
def FnDeadFlatsCardSaid : Prop := Claim7.holds Tryd.pinned (.plain (OpenSpec.ofChange fnDeadFlatsSpec)) fnDeadFlatsCard

/-- THE TIED CARD OF 'laws.FnLivePart'. -/
def fnLivePartCard : Claim7 := { stood := { row := fnLivePartRow, standIns := [], harness := (true, "1e732f5d1023c8c7dafb1bf98677d40cf73e58eaa6e29909eff3835549ff4d0c"), looks := false }, kinds := [], alts := [], laidByText := true, laidKinds := [.data], laidTests := true, laidLooks := .later }
def FnLivePartCardSaid : Prop := Claim7.holds Tryd.pinned (.plain (OpenSpec.ofChange fnLivePartSpec)) fnLivePartCard

/-- THE SECOND FORM's CARD OF 'laws.FnExactMergeBoxes'. -/
def fnExactMergeBoxesUptoCard : Claim7 := { stood := { row := fnExactMergeBoxesUptoRow, standIns := [], harness := (true, "1e732f5d1023c8c7dafb1bf98677d40cf73e58eaa6e29909eff3835549ff4d0c"), looks := false }, kinds := [], alts := [], laidByText := true, laidKinds := [.data], laidTests := true, laidLooks := .later }
def FnExactMergeBoxesUptoCardSaid : Prop := Claim7.holds Tryd.pinned (.plain (OpenSpec.upto fnExactMergeBoxesSpec)) fnExactMergeBoxesUptoCard

/-- THE SECOND FORM's CARD OF 'laws.FnMergeBoxes'. -/
def fnMergeBoxesUptoCard : Claim7 := { stood := { row := fnMergeBoxesUptoRow, standIns := [], harness := (true, "1e732f5d1023c8c7dafb1bf98677d40cf73e58eaa6e29909eff3835549ff4d0c"), looks := false }, kinds := [], alts := [], laidByText := true, laidKinds := [.data], laidTests := true, laidLooks := .later }
def FnMergeBoxesUptoCardSaid : Prop := Claim7.holds Tryd.pinned (.plain (OpenSpec.upto fnMergeBoxesSpec)) fnMergeBoxesUptoCard

/-- THE SECOND FORM's CARD OF 'laws.FnMergeSelf'. -/
def fnMergeSelfUptoCard : Claim7 := { stood := { row := fnMergeSelfUptoRow, standIns := [], harness := (true, "1e732f5d1023c8c7dafb1bf98677d40cf73e58eaa6e29909eff3835549ff4d0c"), looks := false }, kinds := [], alts := [], laidByText := true, laidKinds := [.data], laidTests := true, laidLooks := .later }
def FnMergeSelfUptoCardSaid : Prop := Claim7.holds Tryd.pinned (.plain (OpenSpec.upto fnMergeSelfSpec)) fnMergeSelfUptoCard

/-- THE SECOND FORM's CARD OF 'laws.FnExactDeadFlats'. -/
def fnExactDeadFlatsUptoCard : Claim7 := { stood := { row := fnExactDeadFlatsUptoRow, standIns := [], harness := (true, "1e732f5d1023c8c7dafb1bf98677d40cf73e58eaa6e29909eff3835549ff4d0c"), looks := false }, kinds := [], alts := [], laidByText := true, laidKinds := [.data], laidTests := true, laidLooks := .later }
def FnExactDeadFlatsUptoCardSaid : Prop := Claim7.holds Tryd.pinned (.plain (OpenSpec.upto fnExactDeadFlatsSpec)) fnExactDeadFlatsUptoCard

/-- THE SECOND FORM's CARD OF 'laws.FnExactLivePart'. -/
def fnExactLivePartUptoCard : Claim7 := { stood := { row := fnExactLivePartUptoRow, standIns := [], harness := (true, "1e732f5d1023c8c7dafb1bf98677d40cf73e58eaa6e29909eff3835549ff4d0c"), looks := false }, kinds := [], alts := [], laidByText := true, laidKinds := [.data], laidTests := true, laidLooks := .later }
def FnExactLivePartUptoCardSaid : Prop := Claim7.holds Tryd.pinned (.plain (OpenSpec.upto fnExactLivePartSpec)) fnExactLivePartUptoCard

/-- THE SECOND FORM's CARD OF 'laws.FnExactDropDead'. -/
def fnExactDropDeadUptoCard : Claim7 := { stood := { row := fnExactDropDeadUptoRow, standIns := [], harness := (true, "1e732f5d1023c8c7dafb1bf98677d40cf73e58eaa6e29909eff3835549ff4d0c"), looks := false }, kinds := [], alts := [], laidByText := true, laidKinds := [.data], laidTests := true, laidLooks := .later }
def FnExactDropDeadUptoCardSaid : Prop := Claim7.holds Tryd.pinned (.plain (OpenSpec.upto fnExactDropDeadSpec)) fnExactDropDeadUptoCard

/-- THE SECOND FORM's CARD OF 'laws.FnDeadAfter'. -/
def fnDeadAfterUptoCard : Claim7 := { stood := { row := fnDeadAfterUptoRow, standIns := [], harness := (true, "1e732f5d1023c8c7dafb1bf98677d40cf73e58eaa6e29909eff3835549ff4d0c"), looks := false }, kinds := [], alts := [], laidByText := true, laidKinds := [.data], laidTests := true, laidLooks := .later }
def FnDeadAfterUptoCardSaid : Prop := Claim7.holds Tryd.pinned (.plain (OpenSpec.upto fnDeadAfterSpec)) fnDeadAfterUptoCard

/-- THE SECOND FORM's CARD OF 'laws.FnDeadFlats'. -/
def fnDeadFlatsUptoCard : Claim7 := { stood := { row := fnDeadFlatsUptoRow, standIns := [], harness := (true, "1e732f5d1023c8c7dafb1bf98677d40cf73e58eaa6e29909eff3835549ff4d0c"), looks := false }, kinds := [], alts := [], laidByText := true, laidKinds := [.data], laidTests := true, laidLooks := .later }
def FnDeadFlatsUptoCardSaid : Prop := Claim7.holds Tryd.pinned (.plain (OpenSpec.upto fnDeadFlatsSpec)) fnDeadFlatsUptoCard

/-- THE SECOND FORM's CARD OF 'laws.FnLivePart'. -/
def fnLivePartUptoCard : Claim7 := { stood := { row := fnLivePartUptoRow, standIns := [], harness := (true, "1e732f5d1023c8c7dafb1bf98677d40cf73e58eaa6e29909eff3835549ff4d0c"), looks := false }, kinds := [], alts := [], laidByText := true, laidKinds := [.data], laidTests := true, laidLooks := .later }
def FnLivePartUptoCardSaid : Prop := Claim7.holds Tryd.pinned (.plain (OpenSpec.upto fnLivePartSpec)) fnLivePartUptoCard
end Rows
end Go.Proofs.YtgmonbhdgnamnaaDoor
