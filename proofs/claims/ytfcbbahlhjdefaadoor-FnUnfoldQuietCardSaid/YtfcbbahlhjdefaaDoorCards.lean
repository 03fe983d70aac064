/-
  DERIVED. GIVEN WITH THE SEED: THE CARDS: each row of YtfcbbahlhjdefaaDoorRows.lean that lists a variable, with what it lists TIED to the program's text (the seventh form; the later family's looks); each row that meets fmt, with fmt's text TOLD by the authors' own Lean function (tested against real Go, not proved from fmt's source: count such statements apart). THE CARD IS WHAT COUNTS. Prove the row's statement (the work); the ties are given (YtfcbbahlhjdefaaDoorTie.lean); close each card by the builder's one call (the guide's Derived/Test/ToyasCard.lean, 'card_holds'). Laid BY PROGRAM, IN A SANDBOX (cutbox-door.mjs). By AI agents, Wed Nov 11 2026. No macro, syntax, notation, axiom, sorry.
-/
import Derived.Test.YtfcbbahlhjdefaaDoorRows
import GoSem.ClaimSeven
namespace Go.Proofs.YtfcbbahlhjdefaaDoor
namespace Rows

/-- THE TIED CARD OF 'laws.FnUnfoldQuiet'. -/
def fnUnfoldQuietCard : Claim7 := { stood := { row := fnUnfoldQuietRow, standIns := [], harness := (true, "76afc59eb65f19fab47f6f8a151d98907fda0452d96ec18c96e98b0b9083e23a"), looks := false }, kinds := [], alts := [], laidByText := true, laidKinds := [.data], laidTests := true, laidLooks := .later }
def FnUnfoldQuietCardSaid : Prop := Claim7.holds Tryd.pinned (.plain (OpenSpec.ofChange fnUnfoldQuietSpec)) fnUnfoldQuietCard

/-- THE SECOND FORM's CARD OF 'laws.FnUnfoldQuiet'. -/
def fnUnfoldQuietUptoCard : Claim7 := { stood := { row := fnUnfoldQuietUptoRow, standIns := [], harness := (true, "76afc59eb65f19fab47f6f8a151d98907fda0452d96ec18c96e98b0b9083e23a"), looks := false }, kinds := [], alts := [], laidByText := true, laidKinds := [.data], laidTests := true, laidLooks := .later }
def FnUnfoldQuietUptoCardSaid : Prop := Claim7.holds Tryd.pinned (.plain (OpenSpec.upto fnUnfoldQuietSpec)) fnUnfoldQuietUptoCard
end Rows
end Go.Proofs.YtfcbbahlhjdefaaDoor
