/-
  DERIVED. GIVEN WITH THE SEED: THE CARDS: each row of YtfcbbahlhjdefaaGreatDoorRows.lean that lists a variable, with what it lists TIED to the program's text (the seventh form; the later family's looks); each row that meets fmt, with fmt's text TOLD by the authors' own Lean function (tested against real Go, not proved from fmt's source: count such statements apart). THE CARD IS WHAT COUNTS. Prove the row's statement (the work); the ties are given (YtfcbbahlhjdefaaGreatDoorTie.lean); close each card by the builder's one call (the guide's Derived/Test/ToyasCard.lean, 'card_holds'). Laid BY PROGRAM, IN A SANDBOX (cutbox-door.mjs). By AI agents, Wed Nov 11 2026. No macro, syntax, notation, axiom, sorry.
-/
import Derived.Test.YtfcbbahlhjdefaaGreatDoorRows
import GoSem.ClaimSeven
namespace Go.Proofs.YtfcbbahlhjdefaaGreatDoor
namespace Rows

/-- THE TIED CARD OF 'laws.FnUnfold'. -/
def fnUnfoldCard : Claim7 := { stood := { row := fnUnfoldRow, standIns := [], harness := (true, "aca25d019ea7ac4d389b32542eecd83a455dc74c6b5553e50f86d1476aa5d65e"), looks := false }, kinds := [], alts := [], laidByText := true, laidKinds := [.data], laidTests := true, laidLooks := .later }
def FnUnfoldCardSaid : Prop := Claim7.holds Tryz.pinned (.plain (OpenSpec.ofChange fnUnfoldSpec)) fnUnfoldCard

/-- THE TIED CARD OF 'laws.FnExactUnfold'. -/
def fnExactUnfoldCard : Claim7 := { stood := { row := fnExactUnfoldRow, standIns := [], harness := (true, "aca25d019ea7ac4d389b32542eecd83a455dc74c6b5553e50f86d1476aa5d65e"), looks := false }, kinds := [], alts := [], laidByText := true, laidKinds := [.data], laidTests := true, laidLooks := .later }
def FnExactUnfoldCardSaid : Prop := Claim7.holds Tryz.pinned (.plain (OpenSpec.ofChange fnExactUnfoldSpec)) fnExactUnfoldCard

/-- THE SECOND FORM's CARD OF 'laws.FnUnfold'. -/
def fnUnfoldUptoCard : Claim7 := { stood := { row := fnUnfoldUptoRow, standIns := [], harness := (true, "aca25d019ea7ac4d389b32542eecd83a455dc74c6b5553e50f86d1476aa5d65e"), looks := false }, kinds := [], alts := [], laidByText := true, laidKinds := [.data], laidTests := true, laidLooks := .later }
def FnUnfoldUptoCardSaid : Prop := Claim7.holds Tryz.pinned (.plain (OpenSpec.upto fnUnfoldSpec)) fnUnfoldUptoCard

/-- THE SECOND FORM's CARD OF 'laws.FnExactUnfold'. -/
def fnExactUnfoldUptoCard : Claim7 := { stood := { row := fnExactUnfoldUptoRow, standIns := [], harness := (true, "aca25d019ea7ac4d389b32542eecd83a455dc74c6b5553e50f86d1476aa5d65e"), looks := false }, kinds := [], alts := [], laidByText := true, laidKinds := [.data], laidTests := true, laidLooks := .later }
def FnExactUnfoldUptoCardSaid : Prop := Claim7.holds Tryz.pinned (.plain (OpenSpec.upto fnExactUnfoldSpec)) fnExactUnfoldUptoCard
end Rows
end Go.Proofs.YtfcbbahlhjdefaaGreatDoor
