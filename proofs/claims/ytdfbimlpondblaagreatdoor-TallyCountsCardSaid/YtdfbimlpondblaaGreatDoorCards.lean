/-
  DERIVED. GIVEN WITH THE SEED: THE CARDS: each row of YtdfbimlpondblaaGreatDoorRows.lean that lists a variable, with what it lists TIED to the program's text (the seventh form; the later family's looks); each row that meets fmt, with fmt's text TOLD by the authors' own Lean function (tested against real Go, not proved from fmt's source: count such statements apart). THE CARD IS WHAT COUNTS. Prove the row's statement (the work); the ties are given (YtdfbimlpondblaaGreatDoorTie.lean); close each card by the builder's one call (the guide's Derived/Test/ToyasCard.lean, 'card_holds'). Laid BY PROGRAM, IN A SANDBOX (cutbox-door.mjs). By AI agents, Wed Nov 11 2026. No macro, syntax, notation, axiom, sorry.
-/
import Derived.Test.YtdfbimlpondblaaGreatDoorRows
import GoSem.ClaimSeven
namespace Go.Proofs.YtdfbimlpondblaaGreatDoor
namespace Rows

/-- THE TIED CARD OF 'clearancelaw17.TallyOf'. -/
def tallyOfCard : Claim7 := { stood := { row := tallyOfRow, standIns := [], harness := (true, "c9d65d03ebb93f5f906cc41ac4eaa317476d7d2c6ed7b0ac2cd62ad693eb5cbf"), looks := false }, kinds := [], alts := [], laidByText := true, laidKinds := [.data], laidTests := true, laidLooks := .later }
def TallyOfCardSaid : Prop := Claim7.holds Tryz.pinned (.plain (OpenSpec.ofChange tallyOfSpec)) tallyOfCard

/-- THE TIED CARD OF 'clearancelaw17.TallyCounts'. -/
def tallyCountsCard : Claim7 := { stood := { row := tallyCountsRow, standIns := [], harness := (true, "c9d65d03ebb93f5f906cc41ac4eaa317476d7d2c6ed7b0ac2cd62ad693eb5cbf"), looks := false }, kinds := [], alts := [], laidByText := true, laidKinds := [.data], laidTests := true, laidLooks := .later }
def TallyCountsCardSaid : Prop := Claim7.holds Tryz.pinned (.plain (OpenSpec.ofChange tallyCountsSpec)) tallyCountsCard

/-- THE SECOND FORM's CARD OF 'clearancelaw17.TallyOf'. -/
def tallyOfUptoCard : Claim7 := { stood := { row := tallyOfUptoRow, standIns := [], harness := (true, "c9d65d03ebb93f5f906cc41ac4eaa317476d7d2c6ed7b0ac2cd62ad693eb5cbf"), looks := false }, kinds := [], alts := [], laidByText := true, laidKinds := [.data], laidTests := true, laidLooks := .later }
def TallyOfUptoCardSaid : Prop := Claim7.holds Tryz.pinned (.plain (OpenSpec.upto tallyOfSpec)) tallyOfUptoCard

/-- THE SECOND FORM's CARD OF 'clearancelaw17.TallyCounts'. -/
def tallyCountsUptoCard : Claim7 := { stood := { row := tallyCountsUptoRow, standIns := [], harness := (true, "c9d65d03ebb93f5f906cc41ac4eaa317476d7d2c6ed7b0ac2cd62ad693eb5cbf"), looks := false }, kinds := [], alts := [], laidByText := true, laidKinds := [.data], laidTests := true, laidLooks := .later }
def TallyCountsUptoCardSaid : Prop := Claim7.holds Tryz.pinned (.plain (OpenSpec.upto tallyCountsSpec)) tallyCountsUptoCard
end Rows
end Go.Proofs.YtdfbimlpondblaaGreatDoor
