/-
  DERIVED. GIVEN WITH THE SEED: THE CARDS: each row of YtibanpeiigbofaaDoorRows.lean that lists a variable, with what it lists TIED to the program's text (the seventh form; the later family's looks); each row that meets fmt, with fmt's text TOLD by the authors' own Lean function (tested against real Go, not proved from fmt's source: count such statements apart). THE CARD IS WHAT COUNTS. Prove the row's statement (the work); the ties are given (YtibanpeiigbofaaDoorTie.lean); close each card by the builder's one call (the guide's Derived/Test/ToyasCard.lean, 'card_holds'). Laid BY PROGRAM, IN A SANDBOX (cutbox-door.mjs). By AI agents, Wed Nov 11 2026. No macro, syntax, notation, axiom, sorry.
-/
import Derived.Test.YtibanpeiigbofaaDoorRows
import GoSem.ClaimSeven
namespace Go.Proofs.YtibanpeiigbofaaDoor
namespace Rows

/-- THE TIED CARD OF 'laws.FnExactMergeFlats'. -/
def fnExactMergeFlatsCard : Claim7 := { stood := { row := fnExactMergeFlatsRow, standIns := [], harness := (true, "751b07351ae8948cc8c55f8bbe0dd4b48db8b8a1e47273521891182d0fd1a198"), looks := false }, kinds := [], alts := [], laidByText := true, laidKinds := [.data], laidTests := true, laidLooks := .later }
def FnExactMergeFlatsCardSaid : Prop := Claim7.holds Tryd.pinned (.plain (OpenSpec.ofChange fnExactMergeFlatsSpec)) fnExactMergeFlatsCard

/-- THE TIED CARD OF 'laws.FnExactFlatParts'. -/
def fnExactFlatPartsCard : Claim7 := { stood := { row := fnExactFlatPartsRow, standIns := [], harness := (true, "751b07351ae8948cc8c55f8bbe0dd4b48db8b8a1e47273521891182d0fd1a198"), looks := false }, kinds := [], alts := [], laidByText := true, laidKinds := [.data], laidTests := true, laidLooks := .later }
def FnExactFlatPartsCardSaid : Prop := Claim7.holds Tryd.pinned (.plain (OpenSpec.ofChange fnExactFlatPartsSpec)) fnExactFlatPartsCard

/-- THE TIED CARD OF 'laws.FnExactShorten'. -/
def fnExactShortenCard : Claim7 := { stood := { row := fnExactShortenRow, standIns := [], harness := (true, "751b07351ae8948cc8c55f8bbe0dd4b48db8b8a1e47273521891182d0fd1a198"), looks := false }, kinds := [], alts := [], laidByText := true, laidKinds := [.data], laidTests := true, laidLooks := .later }
def FnExactShortenCardSaid : Prop := Claim7.holds Tryd.pinned (.plain (OpenSpec.ofChange fnExactShortenSpec)) fnExactShortenCard

/-- THE TIED CARD OF 'laws.FnExactFirstDiffer'. -/
def fnExactFirstDifferCard : Claim7 := { stood := { row := fnExactFirstDifferRow, standIns := [], harness := (true, "751b07351ae8948cc8c55f8bbe0dd4b48db8b8a1e47273521891182d0fd1a198"), looks := false }, kinds := [], alts := [], laidByText := true, laidKinds := [.data], laidTests := true, laidLooks := .later }
def FnExactFirstDifferCardSaid : Prop := Claim7.holds Tryd.pinned (.plain (OpenSpec.ofChange fnExactFirstDifferSpec)) fnExactFirstDifferCard

/-- THE TIED CARD OF 'laws.FnExactFlatsSame'. -/
def fnExactFlatsSameCard : Claim7 := { stood := { row := fnExactFlatsSameRow, standIns := [], harness := (true, "751b07351ae8948cc8c55f8bbe0dd4b48db8b8a1e47273521891182d0fd1a198"), looks := false }, kinds := [], alts := [], laidByText := true, laidKinds := [.data], laidTests := true, laidLooks := .later }
def FnExactFlatsSameCardSaid : Prop := Claim7.holds Tryd.pinned (.plain (OpenSpec.ofChange fnExactFlatsSameSpec)) fnExactFlatsSameCard

/-- THE TIED CARD OF 'laws.FnExactNewlyOpen'. -/
def fnExactNewlyOpenCard : Claim7 := { stood := { row := fnExactNewlyOpenRow, standIns := [], harness := (true, "751b07351ae8948cc8c55f8bbe0dd4b48db8b8a1e47273521891182d0fd1a198"), looks := false }, kinds := [], alts := [], laidByText := true, laidKinds := [.data], laidTests := true, laidLooks := .later }
def FnExactNewlyOpenCardSaid : Prop := Claim7.holds Tryd.pinned (.plain (OpenSpec.ofChange fnExactNewlyOpenSpec)) fnExactNewlyOpenCard

/-- THE TIED CARD OF 'laws.FnByHits'. -/
def fnByHitsCard : Claim7 := { stood := { row := fnByHitsRow, standIns := [], harness := (true, "751b07351ae8948cc8c55f8bbe0dd4b48db8b8a1e47273521891182d0fd1a198"), looks := false }, kinds := [], alts := [], laidByText := true, laidKinds := [.data], laidTests := true, laidLooks := .later }
def FnByHitsCardSaid : Prop := Claim7.holds Tryd.pinned (.plain (OpenSpec.ofChange fnByHitsSpec)) fnByHitsCard

/-- THE TIED CARD OF 'laws.FnMergeBoxes'. -/
def fnMergeBoxesCard : Claim7 := { stood := { row := fnMergeBoxesRow, standIns := [], harness := (true, "751b07351ae8948cc8c55f8bbe0dd4b48db8b8a1e47273521891182d0fd1a198"), looks := false }, kinds := [], alts := [], laidByText := true, laidKinds := [.data], laidTests := true, laidLooks := .later }
def FnMergeBoxesCardSaid : Prop := Claim7.holds Tryd.pinned (.plain (OpenSpec.ofChange fnMergeBoxesSpec)) fnMergeBoxesCard

/-- THE TIED CARD OF 'laws.FnMergeSelf'. -/
def fnMergeSelfCard : Claim7 := { stood := { row := fnMergeSelfRow, standIns := [], harness := (true, "751b07351ae8948cc8c55f8bbe0dd4b48db8b8a1e47273521891182d0fd1a198"), looks := false }, kinds := [], alts := [], laidByText := true, laidKinds := [.data], laidTests := true, laidLooks := .later }
def FnMergeSelfCardSaid : Prop := Claim7.holds Tryd.pinned (.plain (OpenSpec.ofChange fnMergeSelfSpec)) fnMergeSelfCard

/-- THE TIED CARD OF 'laws.FnDeadAfter'. -/
def fnDeadAfterCard : Claim7 := { stood := { row := fnDeadAfterRow, standIns := [], harness := (true, "751b07351ae8948cc8c55f8bbe0dd4b48db8b8a1e47273521891182d0fd1a198"), looks := false }, kinds := [], alts := [], laidByText := true, laidKinds := [.data], laidTests := true, laidLooks := .later }
def FnDeadAfterCardSaid : Prop := Claim7.holds Tryd.pinned (.plain (OpenSpec.ofChange fnDeadAfterSpec)) fnDeadAfterCard

/-- THE TIED CARD OF 'laws.FnDeadFlats'. -/
def fnDeadFlatsCard : Claim7 := { stood := { row := fnDeadFlatsRow, standIns := [], harness := (true, "751b07351ae8948cc8c55f8bbe0dd4b48db8b8a1e47273521891182d0fd1a198"), looks := false }, kinds := [], alts := [], laidByText := true, laidKinds := [.data], laidTests := true, laidLooks := .later }
def FnDeadFlatsCardSaid : Prop := Claim7.holds Tryd.pinned (.plain (OpenSpec.ofChange fnDeadFlatsSpec)) fnDeadFlatsCard

/-- THE TIED CARD OF 'laws.FnLivePart'. -/
def fnLivePartCard : Claim7 := { stood := { row := fnLivePartRow, standIns := [], harness := (true, "751b07351ae8948cc8c55f8bbe0dd4b48db8b8a1e47273521891182d0fd1a198"), looks := false }, kinds := [], alts := [], laidByText := true, laidKinds := [.data], laidTests := true, laidLooks := .later }
def FnLivePartCardSaid : Prop := Claim7.holds Tryd.pinned (.plain (OpenSpec.ofChange fnLivePartSpec)) fnLivePartCard

/-- THE SECOND FORM's CARD OF 'laws.FnExactMergeFlats'. -/
def fnExactMergeFlatsUptoCard : Claim7 := { stood := { row := fnExactMergeFlatsUptoRow, standIns := [], harness := (true, "751b07351ae8948cc8c55f8bbe0dd4b48db8b8a1e47273521891182d0fd1a198"), looks := false }, kinds := [], alts := [], laidByText := true, laidKinds := [.data], laidTests := true, laidLooks := .later }
def FnExactMergeFlatsUptoCardSaid : Prop := Claim7.holds Tryd.pinned (.plain (OpenSpec.upto fnExactMergeFlatsSpec)) fnExactMergeFlatsUptoCard

/-- THE SECOND FORM's CARD OF 'laws.FnExactFlatParts'. -/
def fnExactFlatPartsUptoCard : Claim7 := { stood := { row := fnExactFlatPartsUptoRow, standIns := [], harness := (true, "751b07351ae8948cc8c55f8bbe0dd4b48db8b8a1e47273521891182d0fd1a198"), looks := false }, kinds := [], alts := [], laidByText := true, laidKinds := [.data], laidTests := true, laidLooks := .later }
def FnExactFlatPartsUptoCardSaid : Prop := Claim7.holds Tryd.pinned (.plain (OpenSpec.upto fnExactFlatPartsSpec)) fnExactFlatPartsUptoCard

/-- THE SECOND FORM's CARD OF 'laws.FnExactShorten'. -/
def fnExactShortenUptoCard : Claim7 := { stood := { row := fnExactShortenUptoRow, standIns := [], harness := (true, "751b07351ae8948cc8c55f8bbe0dd4b48db8b8a1e47273521891182d0fd1a198"), looks := false }, kinds := [], alts := [], laidByText := true, laidKinds := [.data], laidTests := true, laidLooks := .later }
def FnExactShortenUptoCardSaid : Prop := Claim7.holds Tryd.pinned (.plain (OpenSpec.upto fnExactShortenSpec)) fnExactShortenUptoCard

/-- THE SECOND FORM's CARD OF 'laws.FnExactFirstDiffer'. -/
def fnExactFirstDifferUptoCard : Claim7 := { stood := { row := fnExactFirstDifferUptoRow, standIns := [], harness := (true, "751b07351ae8948cc8c55f8bbe0dd4b48db8b8a1e47273521891182d0fd1a198"), looks := false }, kinds := [], alts := [], laidByText := true, laidKinds := [.data], laidTests := true, laidLooks := .later }
def FnExactFirstDifferUptoCardSaid : Prop := Claim7.holds Tryd.pinned (.plain (OpenSpec.upto fnExactFirstDifferSpec)) fnExactFirstDifferUptoCard

/-- THE SECOND FORM's CARD OF 'laws.FnExactFlatsSame'. -/
def fnExactFlatsSameUptoCard : Claim7 := { stood := { row := fnExactFlatsSameUptoRow, standIns := [], harness := (true, "751b07351ae8948cc8c55f8bbe0dd4b48db8b8a1e47273521891182d0fd1a198"), looks := false }, kinds := [], alts := [], laidByText := true, laidKinds := [.data], laidTests := true, laidLooks := .later }
def FnExactFlatsSameUptoCardSaid : Prop := Claim7.holds Tryd.pinned (.plain (OpenSpec.upto fnExactFlatsSameSpec)) fnExactFlatsSameUptoCard

/-- THE SECOND FORM's CARD OF 'laws.FnExactNewlyOpen'. -/
def fnExactNewlyOpenUptoCard : Claim7 := { stood := { row := fnExactNewlyOpenUptoRow, standIns := [], harness := (true, "751b07351ae8948cc8c55f8bbe0dd4b48db8b8a1e47273521891182d0fd1a198"), looks := false }, kinds := [], alts := [], laidByText := true, laidKinds := [.data], laidTests := true, laidLooks := .later }
def FnExactNewlyOpenUptoCardSaid : Prop := Claim7.holds Tryd.pinned (.plain (OpenSpec.upto fnExactNewlyOpenSpec)) fnExactNewlyOpenUptoCard

/-- THE SECOND FORM's CARD OF 'laws.FnByHits'. -/
def fnByHitsUptoCard : Claim7 := { stood := { row := fnByHitsUptoRow, standIns := [], harness := (true, "751b07351ae8948cc8c55f8bbe0dd4b48db8b8a1e47273521891182d0fd1a198"), looks := false }, kinds := [], alts := [], laidByText := true, laidKinds := [.data], laidTests := true, laidLooks := .later }
def FnByHitsUptoCardSaid : Prop := Claim7.holds Tryd.pinned (.plain (OpenSpec.upto fnByHitsSpec)) fnByHitsUptoCard

/-- THE SECOND FORM's CARD OF 'laws.FnMergeBoxes'. -/
def fnMergeBoxesUptoCard : Claim7 := { stood := { row := fnMergeBoxesUptoRow, standIns := [], harness := (true, "751b07351ae8948cc8c55f8bbe0dd4b48db8b8a1e47273521891182d0fd1a198"), looks := false }, kinds := [], alts := [], laidByText := true, laidKinds := [.data], laidTests := true, laidLooks := .later }
def FnMergeBoxesUptoCardSaid : Prop := Claim7.holds Tryd.pinned (.plain (OpenSpec.upto fnMergeBoxesSpec)) fnMergeBoxesUptoCard

/-- THE SECOND FORM's CARD OF 'laws.FnMergeSelf'. -/
def fnMergeSelfUptoCard : Claim7 := { stood := { row := fnMergeSelfUptoRow, standIns := [], harness := (true, "751b07351ae8948cc8c55f8bbe0dd4b48db8b8a1e47273521891182d0fd1a198"), looks := false }, kinds := [], alts := [], laidByText := true, laidKinds := [.data], laidTests := true, laidLooks := .later }
def FnMergeSelfUptoCardSaid : Prop := Claim7.holds Tryd.pinned (.plain (OpenSpec.upto fnMergeSelfSpec)) fnMergeSelfUptoCard

/-- THE SECOND FORM's CARD OF 'laws.FnDeadAfter'. -/
def fnDeadAfterUptoCard : Claim7 := { stood := { row := fnDeadAfterUptoRow, standIns := [], harness := (true, "751b07351ae8948cc8c55f8bbe0dd4b48db8b8a1e47273521891182d0fd1a198"), looks := false }, kinds := [], alts := [], laidByText := true, laidKinds := [.data], laidTests := true, laidLooks := .later }
def FnDeadAfterUptoCardSaid : Prop := Claim7.holds Tryd.pinned (.plain (OpenSpec.upto fnDeadAfterSpec)) fnDeadAfterUptoCard

/-- THE SECOND FORM's CARD OF 'laws.FnDeadFlats'. -/
def fnDeadFlatsUptoCard : Claim7 := { stood := { row := fnDeadFlatsUptoRow, standIns := [], harness := (true, "751b07351ae8948cc8c55f8bbe0dd4b48db8b8a1e47273521891182d0fd1a198"), looks := false }, kinds := [], alts := [], laidByText := true, laidKinds := [.data], laidTests := true, laidLooks := .later }
def FnDeadFlatsUptoCardSaid : Prop := Claim7.holds Tryd.pinned (.plain (OpenSpec.upto fnDeadFlatsSpec)) fnDeadFlatsUptoCard

/-- THE SECOND FORM's CARD OF 'laws.FnLivePart'. -/
def fnLivePartUptoCard : Claim7 := { stood := { row := fnLivePartUptoRow, standIns := [], harness := (true, "751b07351ae8948cc8c55f8bbe0dd4b48db8b8a1e47273521891182d0fd1a198"), looks := false }, kinds := [], alts := [], laidByText := true, laidKinds := [.data], laidTests := true, laidLooks := .later }
def FnLivePartUptoCardSaid : Prop := Claim7.holds Tryd.pinned (.plain (OpenSpec.upto fnLivePartSpec)) fnLivePartUptoCard
end Rows
end Go.Proofs.YtibanpeiigbofaaDoor
