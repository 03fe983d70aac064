/-
  DERIVED. GIVEN WITH THE SEED: THE CARDS: each row of YthflbpoogolebaaDoorRows.lean that lists a variable, with what it lists TIED to the program's text (the seventh form; the later family's looks); each row that meets fmt, with fmt's text TOLD by the authors' own Lean function (tested against real Go, not proved from fmt's source: count such statements apart). THE CARD IS WHAT COUNTS. Prove the row's statement (the work); the ties are given (YthflbpoogolebaaDoorTie.lean); close each card by the builder's one call (the guide's Derived/Test/ToyasCard.lean, 'card_holds'). Laid BY PROGRAM, IN A SANDBOX (cutbox-door.mjs). By AI agents, Wed Nov 11 2026. No macro, syntax, notation, axiom, sorry.
-/
import Derived.Test.YthflbpoogolebaaDoorRows
import GoSem.ClaimSeven
namespace Go.Proofs.YthflbpoogolebaaDoor
namespace Rows

/-- THE TIED CARD OF 'laws.FnSwapFlats'. -/
def fnSwapFlatsCard : Claim7 := { stood := { row := fnSwapFlatsRow, standIns := [], harness := (true, "a3277ee59625b681ab4e4afe57795dcadd288f668c2ba7e5b316c59cba322b4f"), looks := false }, kinds := [], alts := [], laidByText := true, laidKinds := [.data], laidTests := true, laidLooks := .later }
def FnSwapFlatsCardSaid : Prop := Claim7.holds Tryd.pinned (.plain (OpenSpec.ofChange fnSwapFlatsSpec)) fnSwapFlatsCard

/-- THE TIED CARD OF 'laws.FnLiftFlat'. -/
def fnLiftFlatCard : Claim7 := { stood := { row := fnLiftFlatRow, standIns := [], harness := (true, "a3277ee59625b681ab4e4afe57795dcadd288f668c2ba7e5b316c59cba322b4f"), looks := false }, kinds := [], alts := [], laidByText := true, laidKinds := [.data], laidTests := true, laidLooks := .later }
def FnLiftFlatCardSaid : Prop := Claim7.holds Tryd.pinned (.plain (OpenSpec.ofChange fnLiftFlatSpec)) fnLiftFlatCard

/-- THE TIED CARD OF 'laws.FnByHits'. -/
def fnByHitsCard : Claim7 := { stood := { row := fnByHitsRow, standIns := [], harness := (true, "a3277ee59625b681ab4e4afe57795dcadd288f668c2ba7e5b316c59cba322b4f"), looks := false }, kinds := [], alts := [], laidByText := true, laidKinds := [.data], laidTests := true, laidLooks := .later }
def FnByHitsCardSaid : Prop := Claim7.holds Tryd.pinned (.plain (OpenSpec.ofChange fnByHitsSpec)) fnByHitsCard

/-- THE SECOND FORM's CARD OF 'laws.FnSwapFlats'. -/
def fnSwapFlatsUptoCard : Claim7 := { stood := { row := fnSwapFlatsUptoRow, standIns := [], harness := (true, "a3277ee59625b681ab4e4afe57795dcadd288f668c2ba7e5b316c59cba322b4f"), looks := false }, kinds := [], alts := [], laidByText := true, laidKinds := [.data], laidTests := true, laidLooks := .later }
def FnSwapFlatsUptoCardSaid : Prop := Claim7.holds Tryd.pinned (.plain (OpenSpec.upto fnSwapFlatsSpec)) fnSwapFlatsUptoCard

/-- THE SECOND FORM's CARD OF 'laws.FnLiftFlat'. -/
def fnLiftFlatUptoCard : Claim7 := { stood := { row := fnLiftFlatUptoRow, standIns := [], harness := (true, "a3277ee59625b681ab4e4afe57795dcadd288f668c2ba7e5b316c59cba322b4f"), looks := false }, kinds := [], alts := [], laidByText := true, laidKinds := [.data], laidTests := true, laidLooks := .later }
def FnLiftFlatUptoCardSaid : Prop := Claim7.holds Tryd.pinned (.plain (OpenSpec.upto fnLiftFlatSpec)) fnLiftFlatUptoCard

/-- THE SECOND FORM's CARD OF 'laws.FnByHits'. -/
def fnByHitsUptoCard : Claim7 := { stood := { row := fnByHitsUptoRow, standIns := [], harness := (true, "a3277ee59625b681ab4e4afe57795dcadd288f668c2ba7e5b316c59cba322b4f"), looks := false }, kinds := [], alts := [], laidByText := true, laidKinds := [.data], laidTests := true, laidLooks := .later }
def FnByHitsUptoCardSaid : Prop := Claim7.holds Tryd.pinned (.plain (OpenSpec.upto fnByHitsSpec)) fnByHitsUptoCard
end Rows
end Go.Proofs.YthflbpoogolebaaDoor
