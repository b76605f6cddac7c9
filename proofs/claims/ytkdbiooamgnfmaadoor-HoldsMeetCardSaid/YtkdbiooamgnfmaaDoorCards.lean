/-
  DERIVED. GIVEN WITH THE SEED: THE CARDS: each row of YtkdbiooamgnfmaaDoorRows.lean that lists a variable, with what it lists TIED to the program's text (the seventh form; the later family's looks); each row that meets fmt, with fmt's text TOLD by the authors' own Lean function (tested against real Go, not proved from fmt's source: count such statements apart). THE CARD IS WHAT COUNTS. Prove the row's statement (the work); the ties are given (YtkdbiooamgnfmaaDoorTie.lean); close each card by the builder's one call (the guide's Derived/Test/ToyasCard.lean, 'card_holds'). Laid BY PROGRAM, IN A SANDBOX (cutbox-door.mjs). By AI agents, Wed Nov 11 2026. No macro, syntax, notation, axiom, sorry.
-/
import Derived.Test.YtkdbiooamgnfmaaDoorRows
import GoSem.ClaimSeven
namespace Go.Proofs.YtkdbiooamgnfmaaDoor
namespace Rows

/-- THE TIED CARD OF 'clearancelaw19.HoldsRow'. -/
def holdsRowCard : Claim7 := { stood := { row := holdsRowRow, standIns := [], harness := (true, "082a7e51c9e030355f72cbf8b45607077ecf244eaea1a3da388b7e8a4ffc3bd3"), looks := false }, kinds := [], alts := [], laidByText := true, laidKinds := [.data], laidTests := true, laidLooks := .later }
def HoldsRowCardSaid : Prop := Claim7.holds Tryd.pinned (.plain (OpenSpec.ofChange holdsRowSpec)) holdsRowCard

/-- THE TIED CARD OF 'clearancelaw19.HoldsMeet'. -/
def holdsMeetCard : Claim7 := { stood := { row := holdsMeetRow, standIns := [], harness := (true, "082a7e51c9e030355f72cbf8b45607077ecf244eaea1a3da388b7e8a4ffc3bd3"), looks := false }, kinds := [], alts := [], laidByText := true, laidKinds := [.data], laidTests := true, laidLooks := .later }
def HoldsMeetCardSaid : Prop := Claim7.holds Tryd.pinned (.plain (OpenSpec.ofChange holdsMeetSpec)) holdsMeetCard

/-- THE SECOND FORM's CARD OF 'clearancelaw19.HoldsRow'. -/
def holdsRowUptoCard : Claim7 := { stood := { row := holdsRowUptoRow, standIns := [], harness := (true, "082a7e51c9e030355f72cbf8b45607077ecf244eaea1a3da388b7e8a4ffc3bd3"), looks := false }, kinds := [], alts := [], laidByText := true, laidKinds := [.data], laidTests := true, laidLooks := .later }
def HoldsRowUptoCardSaid : Prop := Claim7.holds Tryd.pinned (.plain (OpenSpec.upto holdsRowSpec)) holdsRowUptoCard

/-- THE SECOND FORM's CARD OF 'clearancelaw19.HoldsMeet'. -/
def holdsMeetUptoCard : Claim7 := { stood := { row := holdsMeetUptoRow, standIns := [], harness := (true, "082a7e51c9e030355f72cbf8b45607077ecf244eaea1a3da388b7e8a4ffc3bd3"), looks := false }, kinds := [], alts := [], laidByText := true, laidKinds := [.data], laidTests := true, laidLooks := .later }
def HoldsMeetUptoCardSaid : Prop := Claim7.holds Tryd.pinned (.plain (OpenSpec.upto holdsMeetSpec)) holdsMeetUptoCard
end Rows
end Go.Proofs.YtkdbiooamgnfmaaDoor
