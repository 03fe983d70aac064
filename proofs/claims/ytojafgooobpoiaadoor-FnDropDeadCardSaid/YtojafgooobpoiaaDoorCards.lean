/-
  DERIVED. GIVEN WITH THE SEED: THE CARDS: each row of YtojafgooobpoiaaDoorRows.lean that lists a variable, with what it lists TIED to the program's text (the seventh form; the later family's looks); each row that meets fmt, with fmt's text TOLD by the authors' own Lean function (tested against real Go, not proved from fmt's source: count such statements apart). THE CARD IS WHAT COUNTS. Prove the row's statement (the work); the ties are given (YtojafgooobpoiaaDoorTie.lean); close each card by the builder's one call (the guide's Derived/Test/ToyasCard.lean, 'card_holds'). Laid BY PROGRAM, IN A SANDBOX (cutbox-door.mjs). By AI agents, Wed Nov 11 2026. No macro, syntax, notation, axiom, sorry.
-/
import Derived.Test.YtojafgooobpoiaaDoorRows
import GoSem.ClaimSeven
namespace Go.Proofs.YtojafgooobpoiaaDoor
namespace Rows

/-- THE TIED CARD OF 'laws.FnDropDead'. -/
def fnDropDeadCard : Claim7 := { stood := { row := fnDropDeadRow, standIns := [], harness := (true, "bc9f36208fe80eedd88cc5d577b53ae4966b781e5223df3ab3c8d10ef23edf86"), looks := false }, kinds := [], alts := [], laidByText := true, laidKinds := [.data], laidTests := true, laidLooks := .later }
def FnDropDeadCardSaid : Prop := Claim7.holds Tryd.pinned (.plain (OpenSpec.ofChange fnDropDeadSpec)) fnDropDeadCard

/-- THE TIED CARD OF 'laws.FnMergeFlats'. -/
def fnMergeFlatsCard : Claim7 := { stood := { row := fnMergeFlatsRow, standIns := [], harness := (true, "bc9f36208fe80eedd88cc5d577b53ae4966b781e5223df3ab3c8d10ef23edf86"), looks := false }, kinds := [], alts := [], laidByText := true, laidKinds := [.data], laidTests := true, laidLooks := .later }
def FnMergeFlatsCardSaid : Prop := Claim7.holds Tryd.pinned (.plain (OpenSpec.ofChange fnMergeFlatsSpec)) fnMergeFlatsCard

/-- THE TIED CARD OF 'laws.FnFlatParts'. -/
def fnFlatPartsCard : Claim7 := { stood := { row := fnFlatPartsRow, standIns := [], harness := (true, "bc9f36208fe80eedd88cc5d577b53ae4966b781e5223df3ab3c8d10ef23edf86"), looks := false }, kinds := [], alts := [], laidByText := true, laidKinds := [.data], laidTests := true, laidLooks := .later }
def FnFlatPartsCardSaid : Prop := Claim7.holds Tryd.pinned (.plain (OpenSpec.ofChange fnFlatPartsSpec)) fnFlatPartsCard

/-- THE TIED CARD OF 'laws.FnTrimEqual'. -/
def fnTrimEqualCard : Claim7 := { stood := { row := fnTrimEqualRow, standIns := [], harness := (true, "bc9f36208fe80eedd88cc5d577b53ae4966b781e5223df3ab3c8d10ef23edf86"), looks := false }, kinds := [], alts := [], laidByText := true, laidKinds := [.data], laidTests := true, laidLooks := .later }
def FnTrimEqualCardSaid : Prop := Claim7.holds Tryd.pinned (.plain (OpenSpec.ofChange fnTrimEqualSpec)) fnTrimEqualCard

/-- THE TIED CARD OF 'laws.FnHitsSame'. -/
def fnHitsSameCard : Claim7 := { stood := { row := fnHitsSameRow, standIns := [], harness := (true, "bc9f36208fe80eedd88cc5d577b53ae4966b781e5223df3ab3c8d10ef23edf86"), looks := false }, kinds := [], alts := [], laidByText := true, laidKinds := [.data], laidTests := true, laidLooks := .later }
def FnHitsSameCardSaid : Prop := Claim7.holds Tryd.pinned (.plain (OpenSpec.ofChange fnHitsSameSpec)) fnHitsSameCard

/-- THE SECOND FORM's CARD OF 'laws.FnDropDead'. -/
def fnDropDeadUptoCard : Claim7 := { stood := { row := fnDropDeadUptoRow, standIns := [], harness := (true, "bc9f36208fe80eedd88cc5d577b53ae4966b781e5223df3ab3c8d10ef23edf86"), looks := false }, kinds := [], alts := [], laidByText := true, laidKinds := [.data], laidTests := true, laidLooks := .later }
def FnDropDeadUptoCardSaid : Prop := Claim7.holds Tryd.pinned (.plain (OpenSpec.upto fnDropDeadSpec)) fnDropDeadUptoCard

/-- THE SECOND FORM's CARD OF 'laws.FnMergeFlats'. -/
def fnMergeFlatsUptoCard : Claim7 := { stood := { row := fnMergeFlatsUptoRow, standIns := [], harness := (true, "bc9f36208fe80eedd88cc5d577b53ae4966b781e5223df3ab3c8d10ef23edf86"), looks := false }, kinds := [], alts := [], laidByText := true, laidKinds := [.data], laidTests := true, laidLooks := .later }
def FnMergeFlatsUptoCardSaid : Prop := Claim7.holds Tryd.pinned (.plain (OpenSpec.upto fnMergeFlatsSpec)) fnMergeFlatsUptoCard

/-- THE SECOND FORM's CARD OF 'laws.FnFlatParts'. -/
def fnFlatPartsUptoCard : Claim7 := { stood := { row := fnFlatPartsUptoRow, standIns := [], harness := (true, "bc9f36208fe80eedd88cc5d577b53ae4966b781e5223df3ab3c8d10ef23edf86"), looks := false }, kinds := [], alts := [], laidByText := true, laidKinds := [.data], laidTests := true, laidLooks := .later }
def FnFlatPartsUptoCardSaid : Prop := Claim7.holds Tryd.pinned (.plain (OpenSpec.upto fnFlatPartsSpec)) fnFlatPartsUptoCard

/-- THE SECOND FORM's CARD OF 'laws.FnTrimEqual'. -/
def fnTrimEqualUptoCard : Claim7 := { stood := { row := fnTrimEqualUptoRow, standIns := [], harness := (true, "bc9f36208fe80eedd88cc5d577b53ae4966b781e5223df3ab3c8d10ef23edf86"), looks := false }, kinds := [], alts := [], laidByText := true, laidKinds := [.data], laidTests := true, laidLooks := .later }
def FnTrimEqualUptoCardSaid : Prop := Claim7.holds Tryd.pinned (.plain (OpenSpec.upto fnTrimEqualSpec)) fnTrimEqualUptoCard

/-- THE SECOND FORM's CARD OF 'laws.FnHitsSame'. -/
def fnHitsSameUptoCard : Claim7 := { stood := { row := fnHitsSameUptoRow, standIns := [], harness := (true, "bc9f36208fe80eedd88cc5d577b53ae4966b781e5223df3ab3c8d10ef23edf86"), looks := false }, kinds := [], alts := [], laidByText := true, laidKinds := [.data], laidTests := true, laidLooks := .later }
def FnHitsSameUptoCardSaid : Prop := Claim7.holds Tryd.pinned (.plain (OpenSpec.upto fnHitsSameSpec)) fnHitsSameUptoCard
end Rows
end Go.Proofs.YtojafgooobpoiaaDoor
