/-
  DERIVED. GIVEN WITH THE SEED: THE CARDS: each row of YtningfhcklabmaaDoorRows.lean that lists a variable, with what it lists TIED to the program's text (the seventh form; the later family's looks); each row that meets fmt, with fmt's text TOLD by the authors' own Lean function (tested against real Go, not proved from fmt's source: count such statements apart). THE CARD IS WHAT COUNTS. Prove the row's statement (the work); the ties are given (YtningfhcklabmaaDoorTie.lean); close each card by the builder's one call (the guide's Derived/Test/ToyasCard.lean, 'card_holds'). Laid BY PROGRAM, IN A SANDBOX (cutbox-door.mjs). By AI agents, Wed Nov 11 2026. No macro, syntax, notation, axiom, sorry.
-/
import Derived.Test.YtningfhcklabmaaDoorRows
import GoSem.ClaimSeven
namespace Go.Proofs.YtningfhcklabmaaDoor
namespace Rows

/-- THE TIED CARD OF 'clearancelaw11.SpellBack'. -/
def spellBackCard : Claim7 := { stood := { row := spellBackRow, standIns := [], harness := (true, "b7e72a4d7ccd63fcf2b944f81e4f20245213469b45eec68a597299a1d0301a63"), looks := false }, kinds := [], alts := [], laidByText := true, laidKinds := [.data], laidTests := true, laidLooks := .later }
def SpellBackCardSaid : Prop := Claim7.holds Tryd.pinned (.plain (OpenSpec.ofChange spellBackSpec)) spellBackCard

/-- THE SECOND FORM's CARD OF 'clearancelaw11.SpellBack'. -/
def spellBackUptoCard : Claim7 := { stood := { row := spellBackUptoRow, standIns := [], harness := (true, "b7e72a4d7ccd63fcf2b944f81e4f20245213469b45eec68a597299a1d0301a63"), looks := false }, kinds := [], alts := [], laidByText := true, laidKinds := [.data], laidTests := true, laidLooks := .later }
def SpellBackUptoCardSaid : Prop := Claim7.holds Tryd.pinned (.plain (OpenSpec.upto spellBackSpec)) spellBackUptoCard
end Rows
end Go.Proofs.YtningfhcklabmaaDoor
