/-
  DERIVED. GIVEN WITH THE SEED: THE CARDS: each row of YtieckcbckgalhaaDoorRows.lean that lists a variable, with what it lists TIED to the program's text (the seventh form; the later family's looks); each row that meets fmt, with fmt's text TOLD by the authors' own Lean function (tested against real Go, not proved from fmt's source: count such statements apart). THE CARD IS WHAT COUNTS. Prove the row's statement (the work); the ties are given (YtieckcbckgalhaaDoorTie.lean); close each card by the builder's one call (the guide's Derived/Test/ToyasCard.lean, 'card_holds'). Laid BY PROGRAM, IN A SANDBOX (cutbox-door.mjs). By AI agents, Wed Nov 11 2026. No macro, syntax, notation, axiom, sorry.
-/
import Derived.Test.YtieckcbckgalhaaDoorRows
import GoSem.ClaimSeven
namespace Go.Proofs.YtieckcbckgalhaaDoor
namespace Rows

/-- THE TIED CARD OF 'clearancelaw18.AssignFields'. -/
def assignFieldsCard : Claim7 := { stood := { row := assignFieldsRow, standIns := [], harness := (true, "636fffa5e23d5cfd883bbacce41497d71c10235916c99fd534f36de5ae257d32"), looks := false }, kinds := [], alts := [], laidByText := true, laidKinds := [.data], laidTests := true, laidLooks := .later }
def AssignFieldsCardSaid : Prop := Claim7.holds Tryd.pinned (.plain (OpenSpec.ofChange assignFieldsSpec)) assignFieldsCard

/-- THE SECOND FORM's CARD OF 'clearancelaw18.AssignFields'. -/
def assignFieldsUptoCard : Claim7 := { stood := { row := assignFieldsUptoRow, standIns := [], harness := (true, "636fffa5e23d5cfd883bbacce41497d71c10235916c99fd534f36de5ae257d32"), looks := false }, kinds := [], alts := [], laidByText := true, laidKinds := [.data], laidTests := true, laidLooks := .later }
def AssignFieldsUptoCardSaid : Prop := Claim7.holds Tryd.pinned (.plain (OpenSpec.upto assignFieldsSpec)) assignFieldsUptoCard
end Rows
end Go.Proofs.YtieckcbckgalhaaDoor
