/-
  DERIVED. GIVEN WITH THE SEED: THE CARDS: each row of YtiaifdnlkdcbiaaDoorRows.lean that lists a variable, with what it lists TIED to the program's text (the seventh form; the later family's looks); each row that meets fmt, with fmt's text TOLD by the authors' own Lean function (tested against real Go, not proved from fmt's source: count such statements apart). THE CARD IS WHAT COUNTS. Prove the row's statement (the work); the ties are given (YtiaifdnlkdcbiaaDoorTie.lean); close each card by the builder's one call (the guide's Derived/Test/ToyasCard.lean, 'card_holds'). Laid BY PROGRAM, IN A SANDBOX (cutbox-door.mjs). By AI agents, Wed Nov 11 2026. No macro, syntax, notation, axiom, sorry.
-/
import Derived.Test.YtiaifdnlkdcbiaaDoorRows
import GoSem.ClaimSeven
namespace Go.Proofs.YtiaifdnlkdcbiaaDoor
namespace Rows

/-- THE TIED CARD OF 'clearancelaw13.ScopeFinds'. -/
def scopeFindsCard : Claim7 := { stood := { row := scopeFindsRow, standIns := [], harness := (true, "2ef7047dcc10855200fddb58ba48179c8ba187dcbefd4f0896ce11a55a9dcf62"), looks := false }, kinds := [], alts := [], laidByText := true, laidKinds := [.data], laidTests := true, laidLooks := .later }
def ScopeFindsCardSaid : Prop := Claim7.holds Tryd.pinned (.plain (OpenSpec.ofChange scopeFindsSpec)) scopeFindsCard

/-- THE TIED CARD OF 'clearancelaw13.ScopeFaults'. -/
def scopeFaultsCard : Claim7 := { stood := { row := scopeFaultsRow, standIns := [], harness := (true, "2ef7047dcc10855200fddb58ba48179c8ba187dcbefd4f0896ce11a55a9dcf62"), looks := false }, kinds := [], alts := [], laidByText := true, laidKinds := [.data], laidTests := true, laidLooks := .later }
def ScopeFaultsCardSaid : Prop := Claim7.holds Tryd.pinned (.plain (OpenSpec.ofChange scopeFaultsSpec)) scopeFaultsCard

/-- THE TIED CARD OF 'clearancelaw13.ScopeKeeps'. -/
def scopeKeepsCard : Claim7 := { stood := { row := scopeKeepsRow, standIns := [], harness := (true, "2ef7047dcc10855200fddb58ba48179c8ba187dcbefd4f0896ce11a55a9dcf62"), looks := false }, kinds := [], alts := [], laidByText := true, laidKinds := [.data], laidTests := true, laidLooks := .later }
def ScopeKeepsCardSaid : Prop := Claim7.holds Tryd.pinned (.plain (OpenSpec.ofChange scopeKeepsSpec)) scopeKeepsCard

/-- THE TIED CARD OF 'clearancelaw13.ScopeLives'. -/
def scopeLivesCard : Claim7 := { stood := { row := scopeLivesRow, standIns := [], harness := (true, "2ef7047dcc10855200fddb58ba48179c8ba187dcbefd4f0896ce11a55a9dcf62"), looks := false }, kinds := [], alts := [], laidByText := true, laidKinds := [.data], laidTests := true, laidLooks := .later }
def ScopeLivesCardSaid : Prop := Claim7.holds Tryd.pinned (.plain (OpenSpec.ofChange scopeLivesSpec)) scopeLivesCard

/-- THE SECOND FORM's CARD OF 'clearancelaw13.ScopeFinds'. -/
def scopeFindsUptoCard : Claim7 := { stood := { row := scopeFindsUptoRow, standIns := [], harness := (true, "2ef7047dcc10855200fddb58ba48179c8ba187dcbefd4f0896ce11a55a9dcf62"), looks := false }, kinds := [], alts := [], laidByText := true, laidKinds := [.data], laidTests := true, laidLooks := .later }
def ScopeFindsUptoCardSaid : Prop := Claim7.holds Tryd.pinned (.plain (OpenSpec.upto scopeFindsSpec)) scopeFindsUptoCard

/-- THE SECOND FORM's CARD OF 'clearancelaw13.ScopeFaults'. -/
def scopeFaultsUptoCard : Claim7 := { stood := { row := scopeFaultsUptoRow, standIns := [], harness := (true, "2ef7047dcc10855200fddb58ba48179c8ba187dcbefd4f0896ce11a55a9dcf62"), looks := false }, kinds := [], alts := [], laidByText := true, laidKinds := [.data], laidTests := true, laidLooks := .later }
def ScopeFaultsUptoCardSaid : Prop := Claim7.holds Tryd.pinned (.plain (OpenSpec.upto scopeFaultsSpec)) scopeFaultsUptoCard

/-- THE SECOND FORM's CARD OF 'clearancelaw13.ScopeKeeps'. -/
def scopeKeepsUptoCard : Claim7 := { stood := { row := scopeKeepsUptoRow, standIns := [], harness := (true, "2ef7047dcc10855200fddb58ba48179c8ba187dcbefd4f0896ce11a55a9dcf62"), looks := false }, kinds := [], alts := [], laidByText := true, laidKinds := [.data], laidTests := true, laidLooks := .later }
def ScopeKeepsUptoCardSaid : Prop := Claim7.holds Tryd.pinned (.plain (OpenSpec.upto scopeKeepsSpec)) scopeKeepsUptoCard

/-- THE SECOND FORM's CARD OF 'clearancelaw13.ScopeLives'. -/
def scopeLivesUptoCard : Claim7 := { stood := { row := scopeLivesUptoRow, standIns := [], harness := (true, "2ef7047dcc10855200fddb58ba48179c8ba187dcbefd4f0896ce11a55a9dcf62"), looks := false }, kinds := [], alts := [], laidByText := true, laidKinds := [.data], laidTests := true, laidLooks := .later }
def ScopeLivesUptoCardSaid : Prop := Claim7.holds Tryd.pinned (.plain (OpenSpec.upto scopeLivesSpec)) scopeLivesUptoCard
end Rows
end Go.Proofs.YtiaifdnlkdcbiaaDoor
