/-
  DERIVED. GIVEN WITH THE SEED: THE CARDS: each row of YtojafgooobpoiaaGreatDoorRows.lean that lists a variable, with what it lists TIED to the program's text (the seventh form; the later family's looks); each row that meets fmt, with fmt's text TOLD by the authors' own Lean function (tested against real Go, not proved from fmt's source: count such statements apart). THE CARD IS WHAT COUNTS. Prove the row's statement (the work); the ties are given (YtojafgooobpoiaaGreatDoorTie.lean); close each card by the builder's one call (the guide's Derived/Test/ToyasCard.lean, 'card_holds'). Laid BY PROGRAM, IN A SANDBOX (cutbox-door.mjs). By AI agents, Wed Nov 11 2026. No macro, syntax, notation, axiom, sorry.
-/
import Derived.Test.YtojafgooobpoiaaGreatDoorRows
import GoSem.ClaimSeven
namespace Go.Proofs.YtojafgooobpoiaaGreatDoor
namespace Rows

/-- THE TIED CARD OF 'laws.FnShorten'. -/
def fnShortenCard : Claim7 := { stood := { row := fnShortenRow, standIns := [], harness := (true, "3414f9d9567f08d97e58c70313acf814d15047b64593a0a7299b2c6045cef0c1"), looks := false }, kinds := [], alts := [], laidByText := true, laidKinds := [.data], laidTests := true, laidLooks := .later }
def FnShortenCardSaid : Prop := Claim7.holds Tryz.pinned (.plain (OpenSpec.ofChange fnShortenSpec)) fnShortenCard

/-- THE SECOND FORM's CARD OF 'laws.FnShorten'. -/
def fnShortenUptoCard : Claim7 := { stood := { row := fnShortenUptoRow, standIns := [], harness := (true, "3414f9d9567f08d97e58c70313acf814d15047b64593a0a7299b2c6045cef0c1"), looks := false }, kinds := [], alts := [], laidByText := true, laidKinds := [.data], laidTests := true, laidLooks := .later }
def FnShortenUptoCardSaid : Prop := Claim7.holds Tryz.pinned (.plain (OpenSpec.upto fnShortenSpec)) fnShortenUptoCard
end Rows
end Go.Proofs.YtojafgooobpoiaaGreatDoor
