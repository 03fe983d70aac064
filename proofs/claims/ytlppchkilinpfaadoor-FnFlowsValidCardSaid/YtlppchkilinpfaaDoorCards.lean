/-
  DERIVED. GIVEN WITH THE SEED: THE CARDS: each row of YtlppchkilinpfaaDoorRows.lean that lists a variable, with what it lists TIED to the program's text (the seventh form; the later family's looks); each row that meets fmt, with fmt's text TOLD by the authors' own Lean function (tested against real Go, not proved from fmt's source: count such statements apart). THE CARD IS WHAT COUNTS. Prove the row's statement (the work); the ties are given (YtlppchkilinpfaaDoorTie.lean); close each card by the builder's one call (the guide's Derived/Test/ToyasCard.lean, 'card_holds'). Laid BY PROGRAM, IN A SANDBOX (cutbox-door.mjs). By AI agents, Wed Nov 11 2026. No macro, syntax, notation, axiom, sorry.
-/
import Derived.Test.YtlppchkilinpfaaDoorRows
import GoSem.ClaimSeven
namespace Go.Proofs.YtlppchkilinpfaaDoor
namespace Rows

/-- THE TIED CARD OF 'laws.FnExactReversePacket'. -/
def fnExactReversePacketCard : Claim7 := { stood := { row := fnExactReversePacketRow, standIns := [], harness := (true, "99c073b9f15c960cb3ccabc6f753a90f0c7b01ab3f067183d7ee6f0e288d14ac"), looks := false }, kinds := [], alts := [], laidByText := true, laidKinds := [.data], laidTests := true, laidLooks := .later }
def FnExactReversePacketCardSaid : Prop := Claim7.holds Tryd.pinned (.plain (OpenSpec.ofChange fnExactReversePacketSpec)) fnExactReversePacketCard

/-- THE TIED CARD OF 'laws.FnReversePacket'. -/
def fnReversePacketCard : Claim7 := { stood := { row := fnReversePacketRow, standIns := [], harness := (true, "99c073b9f15c960cb3ccabc6f753a90f0c7b01ab3f067183d7ee6f0e288d14ac"), looks := false }, kinds := [], alts := [], laidByText := true, laidKinds := [.data], laidTests := true, laidLooks := .later }
def FnReversePacketCardSaid : Prop := Claim7.holds Tryd.pinned (.plain (OpenSpec.ofChange fnReversePacketSpec)) fnReversePacketCard

/-- THE TIED CARD OF 'laws.FnExactFlowsValid'. -/
def fnExactFlowsValidCard : Claim7 := { stood := { row := fnExactFlowsValidRow, standIns := [], harness := (true, "99c073b9f15c960cb3ccabc6f753a90f0c7b01ab3f067183d7ee6f0e288d14ac"), looks := false }, kinds := [], alts := [], laidByText := true, laidKinds := [.data], laidTests := true, laidLooks := .later }
def FnExactFlowsValidCardSaid : Prop := Claim7.holds Tryd.pinned (.plain (OpenSpec.ofChange fnExactFlowsValidSpec)) fnExactFlowsValidCard

/-- THE TIED CARD OF 'laws.FnExactKnownFlow'. -/
def fnExactKnownFlowCard : Claim7 := { stood := { row := fnExactKnownFlowRow, standIns := [], harness := (true, "99c073b9f15c960cb3ccabc6f753a90f0c7b01ab3f067183d7ee6f0e288d14ac"), looks := false }, kinds := [], alts := [], laidByText := true, laidKinds := [.data], laidTests := true, laidLooks := .later }
def FnExactKnownFlowCardSaid : Prop := Claim7.holds Tryd.pinned (.plain (OpenSpec.ofChange fnExactKnownFlowSpec)) fnExactKnownFlowCard

/-- THE TIED CARD OF 'laws.FnFlowsValid'. -/
def fnFlowsValidCard : Claim7 := { stood := { row := fnFlowsValidRow, standIns := [], harness := (true, "99c073b9f15c960cb3ccabc6f753a90f0c7b01ab3f067183d7ee6f0e288d14ac"), looks := false }, kinds := [], alts := [], laidByText := true, laidKinds := [.data], laidTests := true, laidLooks := .later }
def FnFlowsValidCardSaid : Prop := Claim7.holds Tryd.pinned (.plain (OpenSpec.ofChange fnFlowsValidSpec)) fnFlowsValidCard

/-- THE TIED CARD OF 'laws.FnExactExpireFlows'. -/
def fnExactExpireFlowsCard : Claim7 := { stood := { row := fnExactExpireFlowsRow, standIns := [], harness := (true, "99c073b9f15c960cb3ccabc6f753a90f0c7b01ab3f067183d7ee6f0e288d14ac"), looks := false }, kinds := [], alts := [], laidByText := true, laidKinds := [.data], laidTests := true, laidLooks := .later }
def FnExactExpireFlowsCardSaid : Prop := Claim7.holds Tryd.pinned (.plain (OpenSpec.ofChange fnExactExpireFlowsSpec)) fnExactExpireFlowsCard

/-- THE TIED CARD OF 'laws.FnKnownFlow'. -/
def fnKnownFlowCard : Claim7 := { stood := { row := fnKnownFlowRow, standIns := [], harness := (true, "99c073b9f15c960cb3ccabc6f753a90f0c7b01ab3f067183d7ee6f0e288d14ac"), looks := false }, kinds := [], alts := [], laidByText := true, laidKinds := [.data], laidTests := true, laidLooks := .later }
def FnKnownFlowCardSaid : Prop := Claim7.holds Tryd.pinned (.plain (OpenSpec.ofChange fnKnownFlowSpec)) fnKnownFlowCard

/-- THE TIED CARD OF 'laws.FnExpireFlows'. -/
def fnExpireFlowsCard : Claim7 := { stood := { row := fnExpireFlowsRow, standIns := [], harness := (true, "99c073b9f15c960cb3ccabc6f753a90f0c7b01ab3f067183d7ee6f0e288d14ac"), looks := false }, kinds := [], alts := [], laidByText := true, laidKinds := [.data], laidTests := true, laidLooks := .later }
def FnExpireFlowsCardSaid : Prop := Claim7.holds Tryd.pinned (.plain (OpenSpec.ofChange fnExpireFlowsSpec)) fnExpireFlowsCard

/-- THE SECOND FORM's CARD OF 'laws.FnExactReversePacket'. -/
def fnExactReversePacketUptoCard : Claim7 := { stood := { row := fnExactReversePacketUptoRow, standIns := [], harness := (true, "99c073b9f15c960cb3ccabc6f753a90f0c7b01ab3f067183d7ee6f0e288d14ac"), looks := false }, kinds := [], alts := [], laidByText := true, laidKinds := [.data], laidTests := true, laidLooks := .later }
def FnExactReversePacketUptoCardSaid : Prop := Claim7.holds Tryd.pinned (.plain (OpenSpec.upto fnExactReversePacketSpec)) fnExactReversePacketUptoCard

/-- THE SECOND FORM's CARD OF 'laws.FnReversePacket'. -/
def fnReversePacketUptoCard : Claim7 := { stood := { row := fnReversePacketUptoRow, standIns := [], harness := (true, "99c073b9f15c960cb3ccabc6f753a90f0c7b01ab3f067183d7ee6f0e288d14ac"), looks := false }, kinds := [], alts := [], laidByText := true, laidKinds := [.data], laidTests := true, laidLooks := .later }
def FnReversePacketUptoCardSaid : Prop := Claim7.holds Tryd.pinned (.plain (OpenSpec.upto fnReversePacketSpec)) fnReversePacketUptoCard

/-- THE SECOND FORM's CARD OF 'laws.FnExactFlowsValid'. -/
def fnExactFlowsValidUptoCard : Claim7 := { stood := { row := fnExactFlowsValidUptoRow, standIns := [], harness := (true, "99c073b9f15c960cb3ccabc6f753a90f0c7b01ab3f067183d7ee6f0e288d14ac"), looks := false }, kinds := [], alts := [], laidByText := true, laidKinds := [.data], laidTests := true, laidLooks := .later }
def FnExactFlowsValidUptoCardSaid : Prop := Claim7.holds Tryd.pinned (.plain (OpenSpec.upto fnExactFlowsValidSpec)) fnExactFlowsValidUptoCard

/-- THE SECOND FORM's CARD OF 'laws.FnExactKnownFlow'. -/
def fnExactKnownFlowUptoCard : Claim7 := { stood := { row := fnExactKnownFlowUptoRow, standIns := [], harness := (true, "99c073b9f15c960cb3ccabc6f753a90f0c7b01ab3f067183d7ee6f0e288d14ac"), looks := false }, kinds := [], alts := [], laidByText := true, laidKinds := [.data], laidTests := true, laidLooks := .later }
def FnExactKnownFlowUptoCardSaid : Prop := Claim7.holds Tryd.pinned (.plain (OpenSpec.upto fnExactKnownFlowSpec)) fnExactKnownFlowUptoCard

/-- THE SECOND FORM's CARD OF 'laws.FnFlowsValid'. -/
def fnFlowsValidUptoCard : Claim7 := { stood := { row := fnFlowsValidUptoRow, standIns := [], harness := (true, "99c073b9f15c960cb3ccabc6f753a90f0c7b01ab3f067183d7ee6f0e288d14ac"), looks := false }, kinds := [], alts := [], laidByText := true, laidKinds := [.data], laidTests := true, laidLooks := .later }
def FnFlowsValidUptoCardSaid : Prop := Claim7.holds Tryd.pinned (.plain (OpenSpec.upto fnFlowsValidSpec)) fnFlowsValidUptoCard

/-- THE SECOND FORM's CARD OF 'laws.FnExactExpireFlows'. -/
def fnExactExpireFlowsUptoCard : Claim7 := { stood := { row := fnExactExpireFlowsUptoRow, standIns := [], harness := (true, "99c073b9f15c960cb3ccabc6f753a90f0c7b01ab3f067183d7ee6f0e288d14ac"), looks := false }, kinds := [], alts := [], laidByText := true, laidKinds := [.data], laidTests := true, laidLooks := .later }
def FnExactExpireFlowsUptoCardSaid : Prop := Claim7.holds Tryd.pinned (.plain (OpenSpec.upto fnExactExpireFlowsSpec)) fnExactExpireFlowsUptoCard

/-- THE SECOND FORM's CARD OF 'laws.FnKnownFlow'. -/
def fnKnownFlowUptoCard : Claim7 := { stood := { row := fnKnownFlowUptoRow, standIns := [], harness := (true, "99c073b9f15c960cb3ccabc6f753a90f0c7b01ab3f067183d7ee6f0e288d14ac"), looks := false }, kinds := [], alts := [], laidByText := true, laidKinds := [.data], laidTests := true, laidLooks := .later }
def FnKnownFlowUptoCardSaid : Prop := Claim7.holds Tryd.pinned (.plain (OpenSpec.upto fnKnownFlowSpec)) fnKnownFlowUptoCard

/-- THE SECOND FORM's CARD OF 'laws.FnExpireFlows'. -/
def fnExpireFlowsUptoCard : Claim7 := { stood := { row := fnExpireFlowsUptoRow, standIns := [], harness := (true, "99c073b9f15c960cb3ccabc6f753a90f0c7b01ab3f067183d7ee6f0e288d14ac"), looks := false }, kinds := [], alts := [], laidByText := true, laidKinds := [.data], laidTests := true, laidLooks := .later }
def FnExpireFlowsUptoCardSaid : Prop := Claim7.holds Tryd.pinned (.plain (OpenSpec.upto fnExpireFlowsSpec)) fnExpireFlowsUptoCard
end Rows
end Go.Proofs.YtlppchkilinpfaaDoor
