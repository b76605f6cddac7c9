/-
  DERIVED. GIVEN WITH THE SEED: THE CARDS: each row of YtgmdjomdmfcpnaaGreatDoorRows.lean that lists a variable, with what it lists TIED to the program's text (the seventh form; the later family's looks); each row that meets fmt, with fmt's text TOLD by the authors' own Lean function (tested against real Go, not proved from fmt's source: count such statements apart). THE CARD IS WHAT COUNTS. Prove the row's statement (the work); the ties are given (YtgmdjomdmfcpnaaGreatDoorTie.lean); close each card by the builder's one call (the guide's Derived/Test/ToyasCard.lean, 'card_holds'). Laid BY PROGRAM, IN A SANDBOX (cutbox-door.mjs). By AI agents, Wed Nov 11 2026. No macro, syntax, notation, axiom, sorry.
-/
import Derived.Test.YtgmdjomdmfcpnaaGreatDoorRows
import GoSem.ClaimSeven
namespace Go.Proofs.YtgmdjomdmfcpnaaGreatDoor
namespace Rows

/-- THE TIED CARD OF 'clearancelaw07.ShapeTells'. -/
def shapeTellsCard : Claim7 := { stood := { row := shapeTellsRow, standIns := [], harness := (true, "46035de0b2ab2232aa64c72949be572754dbd6a385457c0b9b53696e095ab86d"), looks := false }, kinds := [], alts := [], laidByText := true, laidKinds := [.data], laidTests := true, laidLooks := .later }
def ShapeTellsCardSaid : Prop := Claim7.holds Tryz.pinned (.plain (OpenSpec.ofChange shapeTellsSpec)) shapeTellsCard

/-- THE TIED CARD OF 'clearancelaw07.ShapeOps'. -/
def shapeOpsCard : Claim7 := { stood := { row := shapeOpsRow, standIns := [], harness := (true, "46035de0b2ab2232aa64c72949be572754dbd6a385457c0b9b53696e095ab86d"), looks := false }, kinds := [], alts := [], laidByText := true, laidKinds := [.data], laidTests := true, laidLooks := .later }
def ShapeOpsCardSaid : Prop := Claim7.holds Tryz.pinned (.plain (OpenSpec.ofChange shapeOpsSpec)) shapeOpsCard

/-- THE SECOND FORM's CARD OF 'clearancelaw07.ShapeTells'. -/
def shapeTellsUptoCard : Claim7 := { stood := { row := shapeTellsUptoRow, standIns := [], harness := (true, "46035de0b2ab2232aa64c72949be572754dbd6a385457c0b9b53696e095ab86d"), looks := false }, kinds := [], alts := [], laidByText := true, laidKinds := [.data], laidTests := true, laidLooks := .later }
def ShapeTellsUptoCardSaid : Prop := Claim7.holds Tryz.pinned (.plain (OpenSpec.upto shapeTellsSpec)) shapeTellsUptoCard

/-- THE SECOND FORM's CARD OF 'clearancelaw07.ShapeOps'. -/
def shapeOpsUptoCard : Claim7 := { stood := { row := shapeOpsUptoRow, standIns := [], harness := (true, "46035de0b2ab2232aa64c72949be572754dbd6a385457c0b9b53696e095ab86d"), looks := false }, kinds := [], alts := [], laidByText := true, laidKinds := [.data], laidTests := true, laidLooks := .later }
def ShapeOpsUptoCardSaid : Prop := Claim7.holds Tryz.pinned (.plain (OpenSpec.upto shapeOpsSpec)) shapeOpsUptoCard
end Rows
end Go.Proofs.YtgmdjomdmfcpnaaGreatDoor
