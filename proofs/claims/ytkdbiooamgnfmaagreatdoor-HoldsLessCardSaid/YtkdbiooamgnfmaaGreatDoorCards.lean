/-
  DERIVED. GIVEN WITH THE SEED: THE CARDS: each row of YtkdbiooamgnfmaaGreatDoorRows.lean that lists a variable, with what it lists TIED to the program's text (the seventh form; the later family's looks); each row that meets fmt, with fmt's text TOLD by the authors' own Lean function (tested against real Go, not proved from fmt's source: count such statements apart). THE CARD IS WHAT COUNTS. Prove the row's statement (the work); the ties are given (YtkdbiooamgnfmaaGreatDoorTie.lean); close each card by the builder's one call (the guide's Derived/Test/ToyasCard.lean, 'card_holds'). Laid BY PROGRAM, IN A SANDBOX (cutbox-door.mjs). By AI agents, Wed Nov 11 2026. No macro, syntax, notation, axiom, sorry.
-/
import Derived.Test.YtkdbiooamgnfmaaGreatDoorRows
import GoSem.ClaimSeven
namespace Go.Proofs.YtkdbiooamgnfmaaGreatDoor
namespace Rows

/-- THE TIED CARD OF 'clearancelaw19.HoldsTells'. -/
def holdsTellsCard : Claim7 := { stood := { row := holdsTellsRow, standIns := [], harness := (true, "93867d6fc88690d34cac8d3f9595ea4e45958c7bcb22e18da2329ed5074d411e"), looks := false }, kinds := [], alts := [], laidByText := true, laidKinds := [.data], laidTests := true, laidLooks := .later }
def HoldsTellsCardSaid : Prop := Claim7.holds Tryz.pinned (.plain (OpenSpec.ofChange holdsTellsSpec)) holdsTellsCard

/-- THE TIED CARD OF 'clearancelaw19.HoldsLess'. -/
def holdsLessCard : Claim7 := { stood := { row := holdsLessRow, standIns := [], harness := (true, "93867d6fc88690d34cac8d3f9595ea4e45958c7bcb22e18da2329ed5074d411e"), looks := false }, kinds := [], alts := [], laidByText := true, laidKinds := [.data], laidTests := true, laidLooks := .later }
def HoldsLessCardSaid : Prop := Claim7.holds Tryz.pinned (.plain (OpenSpec.ofChange holdsLessSpec)) holdsLessCard

/-- THE SECOND FORM's CARD OF 'clearancelaw19.HoldsTells'. -/
def holdsTellsUptoCard : Claim7 := { stood := { row := holdsTellsUptoRow, standIns := [], harness := (true, "93867d6fc88690d34cac8d3f9595ea4e45958c7bcb22e18da2329ed5074d411e"), looks := false }, kinds := [], alts := [], laidByText := true, laidKinds := [.data], laidTests := true, laidLooks := .later }
def HoldsTellsUptoCardSaid : Prop := Claim7.holds Tryz.pinned (.plain (OpenSpec.upto holdsTellsSpec)) holdsTellsUptoCard

/-- THE SECOND FORM's CARD OF 'clearancelaw19.HoldsLess'. -/
def holdsLessUptoCard : Claim7 := { stood := { row := holdsLessUptoRow, standIns := [], harness := (true, "93867d6fc88690d34cac8d3f9595ea4e45958c7bcb22e18da2329ed5074d411e"), looks := false }, kinds := [], alts := [], laidByText := true, laidKinds := [.data], laidTests := true, laidLooks := .later }
def HoldsLessUptoCardSaid : Prop := Claim7.holds Tryz.pinned (.plain (OpenSpec.upto holdsLessSpec)) holdsLessUptoCard
end Rows
end Go.Proofs.YtkdbiooamgnfmaaGreatDoor
