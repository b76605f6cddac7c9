/-
  DERIVED. GIVEN WITH THE SEED: THE CARDS: each row of YtiaifdnlkdcbiaaGreatDoorRows.lean that lists a variable, with what it lists TIED to the program's text (the seventh form; the later family's looks); each row that meets fmt, with fmt's text TOLD by the authors' own Lean function (tested against real Go, not proved from fmt's source: count such statements apart). THE CARD IS WHAT COUNTS. Prove the row's statement (the work); the ties are given (YtiaifdnlkdcbiaaGreatDoorTie.lean); close each card by the builder's one call (the guide's Derived/Test/ToyasCard.lean, 'card_holds'). Laid BY PROGRAM, IN A SANDBOX (cutbox-door.mjs). By AI agents, Wed Nov 11 2026. No macro, syntax, notation, axiom, sorry.
-/
import Derived.Test.YtiaifdnlkdcbiaaGreatDoorRows
import GoSem.ClaimSeven
namespace Go.Proofs.YtiaifdnlkdcbiaaGreatDoor
namespace Rows

/-- THE TIED CARD OF 'clearancelaw13.ScopeAdds'. -/
def scopeAddsCard : Claim7 := { stood := { row := scopeAddsRow, standIns := [], harness := (true, "fab6aba588a85a855adaae2dcec24ddbd49fe22f89cb8119575eeb3b35836948"), looks := false }, kinds := [], alts := [], laidByText := true, laidKinds := [.data], laidTests := true, laidLooks := .later }
def ScopeAddsCardSaid : Prop := Claim7.holds Tryz.pinned (.plain (OpenSpec.ofChange scopeAddsSpec)) scopeAddsCard

/-- THE SECOND FORM's CARD OF 'clearancelaw13.ScopeAdds'. -/
def scopeAddsUptoCard : Claim7 := { stood := { row := scopeAddsUptoRow, standIns := [], harness := (true, "fab6aba588a85a855adaae2dcec24ddbd49fe22f89cb8119575eeb3b35836948"), looks := false }, kinds := [], alts := [], laidByText := true, laidKinds := [.data], laidTests := true, laidLooks := .later }
def ScopeAddsUptoCardSaid : Prop := Claim7.holds Tryz.pinned (.plain (OpenSpec.upto scopeAddsSpec)) scopeAddsUptoCard
end Rows
end Go.Proofs.YtiaifdnlkdcbiaaGreatDoor
