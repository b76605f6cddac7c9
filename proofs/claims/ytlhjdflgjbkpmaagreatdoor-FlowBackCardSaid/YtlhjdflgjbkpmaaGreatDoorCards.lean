/-
  DERIVED. GIVEN WITH THE SEED: THE CARDS: each row of YtlhjdflgjbkpmaaGreatDoorRows.lean that lists a variable, with what it lists TIED to the program's text (the seventh form; the later family's looks); each row that meets fmt, with fmt's text TOLD by the authors' own Lean function (tested against real Go, not proved from fmt's source: count such statements apart). THE CARD IS WHAT COUNTS. Prove the row's statement (the work); the ties are given (YtlhjdflgjbkpmaaGreatDoorTie.lean); close each card by the builder's one call (the guide's Derived/Test/ToyasCard.lean, 'card_holds'). Laid BY PROGRAM, IN A SANDBOX (cutbox-door.mjs). By AI agents, Wed Nov 11 2026. No macro, syntax, notation, axiom, sorry.
-/
import Derived.Test.YtlhjdflgjbkpmaaGreatDoorRows
import GoSem.ClaimSeven
namespace Go.Proofs.YtlhjdflgjbkpmaaGreatDoor
namespace Rows

/-- THE TIED CARD OF 'clearancelaw24.FlowSettles'. -/
def flowSettlesCard : Claim7 := { stood := { row := flowSettlesRow, standIns := [], harness := (true, "75b76cc74979cf06505b8fdc34d39dc5da1c5a38ed4ad147736600ce688ebf00"), looks := false }, kinds := [], alts := [], laidByText := true, laidKinds := [.data], laidTests := true, laidLooks := .later }
def FlowSettlesCardSaid : Prop := Claim7.holds Tryz.pinned (.plain (OpenSpec.ofChange flowSettlesSpec)) flowSettlesCard

/-- THE TIED CARD OF 'clearancelaw24.FlowSteps'. -/
def flowStepsCard : Claim7 := { stood := { row := flowStepsRow, standIns := [], harness := (true, "75b76cc74979cf06505b8fdc34d39dc5da1c5a38ed4ad147736600ce688ebf00"), looks := false }, kinds := [], alts := [], laidByText := true, laidKinds := [.data], laidTests := true, laidLooks := .later }
def FlowStepsCardSaid : Prop := Claim7.holds Tryz.pinned (.plain (OpenSpec.ofChange flowStepsSpec)) flowStepsCard

/-- THE TIED CARD OF 'clearancelaw24.FlowWhy'. -/
def flowWhyCard : Claim7 := { stood := { row := flowWhyRow, standIns := [], harness := (true, "75b76cc74979cf06505b8fdc34d39dc5da1c5a38ed4ad147736600ce688ebf00"), looks := false }, kinds := [], alts := [], laidByText := true, laidKinds := [.data], laidTests := true, laidLooks := .later }
def FlowWhyCardSaid : Prop := Claim7.holds Tryz.pinned (.plain (OpenSpec.ofChange flowWhySpec)) flowWhyCard

/-- THE TIED CARD OF 'clearancelaw24.FlowTakes'. -/
def flowTakesCard : Claim7 := { stood := { row := flowTakesRow, standIns := [], harness := (true, "75b76cc74979cf06505b8fdc34d39dc5da1c5a38ed4ad147736600ce688ebf00"), looks := false }, kinds := [], alts := [], laidByText := true, laidKinds := [.data], laidTests := true, laidLooks := .later }
def FlowTakesCardSaid : Prop := Claim7.holds Tryz.pinned (.plain (OpenSpec.ofChange flowTakesSpec)) flowTakesCard

/-- THE TIED CARD OF 'clearancelaw24.FlowBack'. -/
def flowBackCard : Claim7 := { stood := { row := flowBackRow, standIns := [], harness := (true, "75b76cc74979cf06505b8fdc34d39dc5da1c5a38ed4ad147736600ce688ebf00"), looks := false }, kinds := [], alts := [], laidByText := true, laidKinds := [.data], laidTests := true, laidLooks := .later }
def FlowBackCardSaid : Prop := Claim7.holds Tryz.pinned (.plain (OpenSpec.ofChange flowBackSpec)) flowBackCard

/-- THE TIED CARD OF 'clearancelaw24.FlowBound'. -/
def flowBoundCard : Claim7 := { stood := { row := flowBoundRow, standIns := [], harness := (true, "75b76cc74979cf06505b8fdc34d39dc5da1c5a38ed4ad147736600ce688ebf00"), looks := false }, kinds := [], alts := [], laidByText := true, laidKinds := [.data], laidTests := true, laidLooks := .later }
def FlowBoundCardSaid : Prop := Claim7.holds Tryz.pinned (.plain (OpenSpec.ofChange flowBoundSpec)) flowBoundCard

/-- THE SECOND FORM's CARD OF 'clearancelaw24.FlowSettles'. -/
def flowSettlesUptoCard : Claim7 := { stood := { row := flowSettlesUptoRow, standIns := [], harness := (true, "75b76cc74979cf06505b8fdc34d39dc5da1c5a38ed4ad147736600ce688ebf00"), looks := false }, kinds := [], alts := [], laidByText := true, laidKinds := [.data], laidTests := true, laidLooks := .later }
def FlowSettlesUptoCardSaid : Prop := Claim7.holds Tryz.pinned (.plain (OpenSpec.upto flowSettlesSpec)) flowSettlesUptoCard

/-- THE SECOND FORM's CARD OF 'clearancelaw24.FlowSteps'. -/
def flowStepsUptoCard : Claim7 := { stood := { row := flowStepsUptoRow, standIns := [], harness := (true, "75b76cc74979cf06505b8fdc34d39dc5da1c5a38ed4ad147736600ce688ebf00"), looks := false }, kinds := [], alts := [], laidByText := true, laidKinds := [.data], laidTests := true, laidLooks := .later }
def FlowStepsUptoCardSaid : Prop := Claim7.holds Tryz.pinned (.plain (OpenSpec.upto flowStepsSpec)) flowStepsUptoCard

/-- THE SECOND FORM's CARD OF 'clearancelaw24.FlowWhy'. -/
def flowWhyUptoCard : Claim7 := { stood := { row := flowWhyUptoRow, standIns := [], harness := (true, "75b76cc74979cf06505b8fdc34d39dc5da1c5a38ed4ad147736600ce688ebf00"), looks := false }, kinds := [], alts := [], laidByText := true, laidKinds := [.data], laidTests := true, laidLooks := .later }
def FlowWhyUptoCardSaid : Prop := Claim7.holds Tryz.pinned (.plain (OpenSpec.upto flowWhySpec)) flowWhyUptoCard

/-- THE SECOND FORM's CARD OF 'clearancelaw24.FlowTakes'. -/
def flowTakesUptoCard : Claim7 := { stood := { row := flowTakesUptoRow, standIns := [], harness := (true, "75b76cc74979cf06505b8fdc34d39dc5da1c5a38ed4ad147736600ce688ebf00"), looks := false }, kinds := [], alts := [], laidByText := true, laidKinds := [.data], laidTests := true, laidLooks := .later }
def FlowTakesUptoCardSaid : Prop := Claim7.holds Tryz.pinned (.plain (OpenSpec.upto flowTakesSpec)) flowTakesUptoCard

/-- THE SECOND FORM's CARD OF 'clearancelaw24.FlowBack'. -/
def flowBackUptoCard : Claim7 := { stood := { row := flowBackUptoRow, standIns := [], harness := (true, "75b76cc74979cf06505b8fdc34d39dc5da1c5a38ed4ad147736600ce688ebf00"), looks := false }, kinds := [], alts := [], laidByText := true, laidKinds := [.data], laidTests := true, laidLooks := .later }
def FlowBackUptoCardSaid : Prop := Claim7.holds Tryz.pinned (.plain (OpenSpec.upto flowBackSpec)) flowBackUptoCard

/-- THE SECOND FORM's CARD OF 'clearancelaw24.FlowBound'. -/
def flowBoundUptoCard : Claim7 := { stood := { row := flowBoundUptoRow, standIns := [], harness := (true, "75b76cc74979cf06505b8fdc34d39dc5da1c5a38ed4ad147736600ce688ebf00"), looks := false }, kinds := [], alts := [], laidByText := true, laidKinds := [.data], laidTests := true, laidLooks := .later }
def FlowBoundUptoCardSaid : Prop := Claim7.holds Tryz.pinned (.plain (OpenSpec.upto flowBoundSpec)) flowBoundUptoCard
end Rows
end Go.Proofs.YtlhjdflgjbkpmaaGreatDoor
