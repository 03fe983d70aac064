/-
  DERIVED. GIVEN WITH THE SEED: THE CARDS: each row of YtkcnbkkgpampaaaDoorRows.lean that lists a variable, with what it lists TIED to the program's text (the seventh form; the later family's looks); each row that meets fmt, with fmt's text TOLD by the authors' own Lean function (tested against real Go, not proved from fmt's source: count such statements apart). THE CARD IS WHAT COUNTS. Prove the row's statement (the work); the ties are given (YtkcnbkkgpampaaaDoorTie.lean); close each card by the builder's one call (the guide's Derived/Test/ToyasCard.lean, 'card_holds'). Laid BY PROGRAM, IN A SANDBOX (cutbox-door.mjs). By AI agents, Wed Nov 11 2026. No macro, syntax, notation, axiom, sorry.
-/
import Derived.Test.YtkcnbkkgpampaaaDoorRows
import GoSem.ClaimSeven
namespace Go.Proofs.YtkcnbkkgpampaaaDoor
namespace Rows

/-- THE TIED CARD OF 'laws.FnExactCanSwap'. -/
def fnExactCanSwapCard : Claim7 := { stood := { row := fnExactCanSwapRow, standIns := [], harness := (true, "1b6a1b6e35ef0ce4a57f1544a843820877b8e47a19e368411bab0cf11ccaa42f"), looks := false }, kinds := [], alts := [], laidByText := true, laidKinds := [.data], laidTests := true, laidLooks := .later }
def FnExactCanSwapCardSaid : Prop := Claim7.holds Tryd.pinned (.plain (OpenSpec.ofChange fnExactCanSwapSpec)) fnExactCanSwapCard

/-- THE TIED CARD OF 'laws.FnExactDecidedBy'. -/
def fnExactDecidedByCard : Claim7 := { stood := { row := fnExactDecidedByRow, standIns := [], harness := (true, "1b6a1b6e35ef0ce4a57f1544a843820877b8e47a19e368411bab0cf11ccaa42f"), looks := false }, kinds := [], alts := [], laidByText := true, laidKinds := [.data], laidTests := true, laidLooks := .later }
def FnExactDecidedByCardSaid : Prop := Claim7.holds Tryd.pinned (.plain (OpenSpec.ofChange fnExactDecidedBySpec)) fnExactDecidedByCard

/-- THE TIED CARD OF 'laws.FnExactTrimTail'. -/
def fnExactTrimTailCard : Claim7 := { stood := { row := fnExactTrimTailRow, standIns := [], harness := (true, "1b6a1b6e35ef0ce4a57f1544a843820877b8e47a19e368411bab0cf11ccaa42f"), looks := false }, kinds := [], alts := [], laidByText := true, laidKinds := [.data], laidTests := true, laidLooks := .later }
def FnExactTrimTailCardSaid : Prop := Claim7.holds Tryd.pinned (.plain (OpenSpec.ofChange fnExactTrimTailSpec)) fnExactTrimTailCard

/-- THE TIED CARD OF 'laws.FnExactSwapFlats'. -/
def fnExactSwapFlatsCard : Claim7 := { stood := { row := fnExactSwapFlatsRow, standIns := [], harness := (true, "1b6a1b6e35ef0ce4a57f1544a843820877b8e47a19e368411bab0cf11ccaa42f"), looks := false }, kinds := [], alts := [], laidByText := true, laidKinds := [.data], laidTests := true, laidLooks := .later }
def FnExactSwapFlatsCardSaid : Prop := Claim7.holds Tryd.pinned (.plain (OpenSpec.ofChange fnExactSwapFlatsSpec)) fnExactSwapFlatsCard

/-- THE TIED CARD OF 'laws.FnFlatBoxes'. -/
def fnFlatBoxesCard : Claim7 := { stood := { row := fnFlatBoxesRow, standIns := [], harness := (true, "1b6a1b6e35ef0ce4a57f1544a843820877b8e47a19e368411bab0cf11ccaa42f"), looks := false }, kinds := [], alts := [], laidByText := true, laidKinds := [.data], laidTests := true, laidLooks := .later }
def FnFlatBoxesCardSaid : Prop := Claim7.holds Tryd.pinned (.plain (OpenSpec.ofChange fnFlatBoxesSpec)) fnFlatBoxesCard

/-- THE TIED CARD OF 'laws.FnCanSwap'. -/
def fnCanSwapCard : Claim7 := { stood := { row := fnCanSwapRow, standIns := [], harness := (true, "1b6a1b6e35ef0ce4a57f1544a843820877b8e47a19e368411bab0cf11ccaa42f"), looks := false }, kinds := [], alts := [], laidByText := true, laidKinds := [.data], laidTests := true, laidLooks := .later }
def FnCanSwapCardSaid : Prop := Claim7.holds Tryd.pinned (.plain (OpenSpec.ofChange fnCanSwapSpec)) fnCanSwapCard

/-- THE TIED CARD OF 'laws.FnExactHitCounts'. -/
def fnExactHitCountsCard : Claim7 := { stood := { row := fnExactHitCountsRow, standIns := [], harness := (true, "1b6a1b6e35ef0ce4a57f1544a843820877b8e47a19e368411bab0cf11ccaa42f"), looks := false }, kinds := [], alts := [], laidByText := true, laidKinds := [.data], laidTests := true, laidLooks := .later }
def FnExactHitCountsCardSaid : Prop := Claim7.holds Tryd.pinned (.plain (OpenSpec.ofChange fnExactHitCountsSpec)) fnExactHitCountsCard

/-- THE TIED CARD OF 'laws.FnExactLiftFlat'. -/
def fnExactLiftFlatCard : Claim7 := { stood := { row := fnExactLiftFlatRow, standIns := [], harness := (true, "1b6a1b6e35ef0ce4a57f1544a843820877b8e47a19e368411bab0cf11ccaa42f"), looks := false }, kinds := [], alts := [], laidByText := true, laidKinds := [.data], laidTests := true, laidLooks := .later }
def FnExactLiftFlatCardSaid : Prop := Claim7.holds Tryd.pinned (.plain (OpenSpec.ofChange fnExactLiftFlatSpec)) fnExactLiftFlatCard

/-- THE TIED CARD OF 'laws.FnDecidedBy'. -/
def fnDecidedByCard : Claim7 := { stood := { row := fnDecidedByRow, standIns := [], harness := (true, "1b6a1b6e35ef0ce4a57f1544a843820877b8e47a19e368411bab0cf11ccaa42f"), looks := false }, kinds := [], alts := [], laidByText := true, laidKinds := [.data], laidTests := true, laidLooks := .later }
def FnDecidedByCardSaid : Prop := Claim7.holds Tryd.pinned (.plain (OpenSpec.ofChange fnDecidedBySpec)) fnDecidedByCard

/-- THE TIED CARD OF 'laws.FnJudgeFlat'. -/
def fnJudgeFlatCard : Claim7 := { stood := { row := fnJudgeFlatRow, standIns := [], harness := (true, "1b6a1b6e35ef0ce4a57f1544a843820877b8e47a19e368411bab0cf11ccaa42f"), looks := false }, kinds := [], alts := [], laidByText := true, laidKinds := [.data], laidTests := true, laidLooks := .later }
def FnJudgeFlatCardSaid : Prop := Claim7.holds Tryd.pinned (.plain (OpenSpec.ofChange fnJudgeFlatSpec)) fnJudgeFlatCard

/-- THE TIED CARD OF 'laws.FnExactByHits'. -/
def fnExactByHitsCard : Claim7 := { stood := { row := fnExactByHitsRow, standIns := [], harness := (true, "1b6a1b6e35ef0ce4a57f1544a843820877b8e47a19e368411bab0cf11ccaa42f"), looks := false }, kinds := [], alts := [], laidByText := true, laidKinds := [.data], laidTests := true, laidLooks := .later }
def FnExactByHitsCardSaid : Prop := Claim7.holds Tryd.pinned (.plain (OpenSpec.ofChange fnExactByHitsSpec)) fnExactByHitsCard

/-- THE TIED CARD OF 'laws.FnTrimTail'. -/
def fnTrimTailCard : Claim7 := { stood := { row := fnTrimTailRow, standIns := [], harness := (true, "1b6a1b6e35ef0ce4a57f1544a843820877b8e47a19e368411bab0cf11ccaa42f"), looks := false }, kinds := [], alts := [], laidByText := true, laidKinds := [.data], laidTests := true, laidLooks := .later }
def FnTrimTailCardSaid : Prop := Claim7.holds Tryd.pinned (.plain (OpenSpec.ofChange fnTrimTailSpec)) fnTrimTailCard

/-- THE SECOND FORM's CARD OF 'laws.FnExactCanSwap'. -/
def fnExactCanSwapUptoCard : Claim7 := { stood := { row := fnExactCanSwapUptoRow, standIns := [], harness := (true, "1b6a1b6e35ef0ce4a57f1544a843820877b8e47a19e368411bab0cf11ccaa42f"), looks := false }, kinds := [], alts := [], laidByText := true, laidKinds := [.data], laidTests := true, laidLooks := .later }
def FnExactCanSwapUptoCardSaid : Prop := Claim7.holds Tryd.pinned (.plain (OpenSpec.upto fnExactCanSwapSpec)) fnExactCanSwapUptoCard

/-- THE SECOND FORM's CARD OF 'laws.FnExactDecidedBy'. -/
def fnExactDecidedByUptoCard : Claim7 := { stood := { row := fnExactDecidedByUptoRow, standIns := [], harness := (true, "1b6a1b6e35ef0ce4a57f1544a843820877b8e47a19e368411bab0cf11ccaa42f"), looks := false }, kinds := [], alts := [], laidByText := true, laidKinds := [.data], laidTests := true, laidLooks := .later }
def FnExactDecidedByUptoCardSaid : Prop := Claim7.holds Tryd.pinned (.plain (OpenSpec.upto fnExactDecidedBySpec)) fnExactDecidedByUptoCard

/-- THE SECOND FORM's CARD OF 'laws.FnExactTrimTail'. -/
def fnExactTrimTailUptoCard : Claim7 := { stood := { row := fnExactTrimTailUptoRow, standIns := [], harness := (true, "1b6a1b6e35ef0ce4a57f1544a843820877b8e47a19e368411bab0cf11ccaa42f"), looks := false }, kinds := [], alts := [], laidByText := true, laidKinds := [.data], laidTests := true, laidLooks := .later }
def FnExactTrimTailUptoCardSaid : Prop := Claim7.holds Tryd.pinned (.plain (OpenSpec.upto fnExactTrimTailSpec)) fnExactTrimTailUptoCard

/-- THE SECOND FORM's CARD OF 'laws.FnExactSwapFlats'. -/
def fnExactSwapFlatsUptoCard : Claim7 := { stood := { row := fnExactSwapFlatsUptoRow, standIns := [], harness := (true, "1b6a1b6e35ef0ce4a57f1544a843820877b8e47a19e368411bab0cf11ccaa42f"), looks := false }, kinds := [], alts := [], laidByText := true, laidKinds := [.data], laidTests := true, laidLooks := .later }
def FnExactSwapFlatsUptoCardSaid : Prop := Claim7.holds Tryd.pinned (.plain (OpenSpec.upto fnExactSwapFlatsSpec)) fnExactSwapFlatsUptoCard

/-- THE SECOND FORM's CARD OF 'laws.FnFlatBoxes'. -/
def fnFlatBoxesUptoCard : Claim7 := { stood := { row := fnFlatBoxesUptoRow, standIns := [], harness := (true, "1b6a1b6e35ef0ce4a57f1544a843820877b8e47a19e368411bab0cf11ccaa42f"), looks := false }, kinds := [], alts := [], laidByText := true, laidKinds := [.data], laidTests := true, laidLooks := .later }
def FnFlatBoxesUptoCardSaid : Prop := Claim7.holds Tryd.pinned (.plain (OpenSpec.upto fnFlatBoxesSpec)) fnFlatBoxesUptoCard

/-- THE SECOND FORM's CARD OF 'laws.FnCanSwap'. -/
def fnCanSwapUptoCard : Claim7 := { stood := { row := fnCanSwapUptoRow, standIns := [], harness := (true, "1b6a1b6e35ef0ce4a57f1544a843820877b8e47a19e368411bab0cf11ccaa42f"), looks := false }, kinds := [], alts := [], laidByText := true, laidKinds := [.data], laidTests := true, laidLooks := .later }
def FnCanSwapUptoCardSaid : Prop := Claim7.holds Tryd.pinned (.plain (OpenSpec.upto fnCanSwapSpec)) fnCanSwapUptoCard

/-- THE SECOND FORM's CARD OF 'laws.FnExactHitCounts'. -/
def fnExactHitCountsUptoCard : Claim7 := { stood := { row := fnExactHitCountsUptoRow, standIns := [], harness := (true, "1b6a1b6e35ef0ce4a57f1544a843820877b8e47a19e368411bab0cf11ccaa42f"), looks := false }, kinds := [], alts := [], laidByText := true, laidKinds := [.data], laidTests := true, laidLooks := .later }
def FnExactHitCountsUptoCardSaid : Prop := Claim7.holds Tryd.pinned (.plain (OpenSpec.upto fnExactHitCountsSpec)) fnExactHitCountsUptoCard

/-- THE SECOND FORM's CARD OF 'laws.FnExactLiftFlat'. -/
def fnExactLiftFlatUptoCard : Claim7 := { stood := { row := fnExactLiftFlatUptoRow, standIns := [], harness := (true, "1b6a1b6e35ef0ce4a57f1544a843820877b8e47a19e368411bab0cf11ccaa42f"), looks := false }, kinds := [], alts := [], laidByText := true, laidKinds := [.data], laidTests := true, laidLooks := .later }
def FnExactLiftFlatUptoCardSaid : Prop := Claim7.holds Tryd.pinned (.plain (OpenSpec.upto fnExactLiftFlatSpec)) fnExactLiftFlatUptoCard

/-- THE SECOND FORM's CARD OF 'laws.FnDecidedBy'. -/
def fnDecidedByUptoCard : Claim7 := { stood := { row := fnDecidedByUptoRow, standIns := [], harness := (true, "1b6a1b6e35ef0ce4a57f1544a843820877b8e47a19e368411bab0cf11ccaa42f"), looks := false }, kinds := [], alts := [], laidByText := true, laidKinds := [.data], laidTests := true, laidLooks := .later }
def FnDecidedByUptoCardSaid : Prop := Claim7.holds Tryd.pinned (.plain (OpenSpec.upto fnDecidedBySpec)) fnDecidedByUptoCard

/-- THE SECOND FORM's CARD OF 'laws.FnJudgeFlat'. -/
def fnJudgeFlatUptoCard : Claim7 := { stood := { row := fnJudgeFlatUptoRow, standIns := [], harness := (true, "1b6a1b6e35ef0ce4a57f1544a843820877b8e47a19e368411bab0cf11ccaa42f"), looks := false }, kinds := [], alts := [], laidByText := true, laidKinds := [.data], laidTests := true, laidLooks := .later }
def FnJudgeFlatUptoCardSaid : Prop := Claim7.holds Tryd.pinned (.plain (OpenSpec.upto fnJudgeFlatSpec)) fnJudgeFlatUptoCard

/-- THE SECOND FORM's CARD OF 'laws.FnExactByHits'. -/
def fnExactByHitsUptoCard : Claim7 := { stood := { row := fnExactByHitsUptoRow, standIns := [], harness := (true, "1b6a1b6e35ef0ce4a57f1544a843820877b8e47a19e368411bab0cf11ccaa42f"), looks := false }, kinds := [], alts := [], laidByText := true, laidKinds := [.data], laidTests := true, laidLooks := .later }
def FnExactByHitsUptoCardSaid : Prop := Claim7.holds Tryd.pinned (.plain (OpenSpec.upto fnExactByHitsSpec)) fnExactByHitsUptoCard

/-- THE SECOND FORM's CARD OF 'laws.FnTrimTail'. -/
def fnTrimTailUptoCard : Claim7 := { stood := { row := fnTrimTailUptoRow, standIns := [], harness := (true, "1b6a1b6e35ef0ce4a57f1544a843820877b8e47a19e368411bab0cf11ccaa42f"), looks := false }, kinds := [], alts := [], laidByText := true, laidKinds := [.data], laidTests := true, laidLooks := .later }
def FnTrimTailUptoCardSaid : Prop := Claim7.holds Tryd.pinned (.plain (OpenSpec.upto fnTrimTailSpec)) fnTrimTailUptoCard
end Rows
end Go.Proofs.YtkcnbkkgpampaaaDoor
