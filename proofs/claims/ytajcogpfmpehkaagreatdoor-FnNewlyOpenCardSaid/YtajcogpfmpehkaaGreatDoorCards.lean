/-
  DERIVED. GIVEN WITH THE SEED: THE CARDS: each row of YtajcogpfmpehkaaGreatDoorRows.lean that lists a variable, with what it lists TIED to the program's text (the seventh form; the later family's looks); each row that meets fmt, with fmt's text TOLD by the authors' own Lean function (tested against real Go, not proved from fmt's source: count such statements apart). THE CARD IS WHAT COUNTS. Prove the row's statement (the work); the ties are given (YtajcogpfmpehkaaGreatDoorTie.lean); close each card by the builder's one call (the guide's Derived/Test/ToyasCard.lean, 'card_holds'). Laid BY PROGRAM, IN A SANDBOX (cutbox-door.mjs). By AI agents, Wed Nov 11 2026. No macro, syntax, notation, axiom, sorry.
-/
import Derived.Test.YtajcogpfmpehkaaGreatDoorRows
import GoSem.ClaimSeven
namespace Go.Proofs.YtajcogpfmpehkaaGreatDoor
namespace Rows

/-- THE TIED CARD OF 'laws.FnFlatsSame'. -/
def fnFlatsSameCard : Claim7 := { stood := { row := fnFlatsSameRow, standIns := [], harness := (true, "fbb11ecb0a8b9e7f50a62e4f57dfd8ba9e116b8443085a243ea6f7889074e518"), looks := false }, kinds := [], alts := [], laidByText := true, laidKinds := [.data], laidTests := true, laidLooks := .later }
def FnFlatsSameCardSaid : Prop := Claim7.holds Tryz.pinned (.plain (OpenSpec.ofChange fnFlatsSameSpec)) fnFlatsSameCard

/-- THE TIED CARD OF 'laws.FnNewlyOpen'. -/
def fnNewlyOpenCard : Claim7 := { stood := { row := fnNewlyOpenRow, standIns := [], harness := (true, "fbb11ecb0a8b9e7f50a62e4f57dfd8ba9e116b8443085a243ea6f7889074e518"), looks := false }, kinds := [], alts := [], laidByText := true, laidKinds := [.data], laidTests := true, laidLooks := .later }
def FnNewlyOpenCardSaid : Prop := Claim7.holds Tryz.pinned (.plain (OpenSpec.ofChange fnNewlyOpenSpec)) fnNewlyOpenCard

/-- THE SECOND FORM's CARD OF 'laws.FnFlatsSame'. -/
def fnFlatsSameUptoCard : Claim7 := { stood := { row := fnFlatsSameUptoRow, standIns := [], harness := (true, "fbb11ecb0a8b9e7f50a62e4f57dfd8ba9e116b8443085a243ea6f7889074e518"), looks := false }, kinds := [], alts := [], laidByText := true, laidKinds := [.data], laidTests := true, laidLooks := .later }
def FnFlatsSameUptoCardSaid : Prop := Claim7.holds Tryz.pinned (.plain (OpenSpec.upto fnFlatsSameSpec)) fnFlatsSameUptoCard

/-- THE SECOND FORM's CARD OF 'laws.FnNewlyOpen'. -/
def fnNewlyOpenUptoCard : Claim7 := { stood := { row := fnNewlyOpenUptoRow, standIns := [], harness := (true, "fbb11ecb0a8b9e7f50a62e4f57dfd8ba9e116b8443085a243ea6f7889074e518"), looks := false }, kinds := [], alts := [], laidByText := true, laidKinds := [.data], laidTests := true, laidLooks := .later }
def FnNewlyOpenUptoCardSaid : Prop := Claim7.holds Tryz.pinned (.plain (OpenSpec.upto fnNewlyOpenSpec)) fnNewlyOpenUptoCard
end Rows
end Go.Proofs.YtajcogpfmpehkaaGreatDoor
