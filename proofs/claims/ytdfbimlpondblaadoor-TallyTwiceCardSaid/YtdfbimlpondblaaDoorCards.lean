/-
  DERIVED. GIVEN WITH THE SEED: THE CARDS: each row of YtdfbimlpondblaaDoorRows.lean that lists a variable, with what it lists TIED to the program's text (the seventh form; the later family's looks); each row that meets fmt, with fmt's text TOLD by the authors' own Lean function (tested against real Go, not proved from fmt's source: count such statements apart). THE CARD IS WHAT COUNTS. Prove the row's statement (the work); the ties are given (YtdfbimlpondblaaDoorTie.lean); close each card by the builder's one call (the guide's Derived/Test/ToyasCard.lean, 'card_holds'). Laid BY PROGRAM, IN A SANDBOX (cutbox-door.mjs). By AI agents, Wed Nov 11 2026. No macro, syntax, notation, axiom, sorry.
-/
import Derived.Test.YtdfbimlpondblaaDoorRows
import GoSem.ClaimSeven
namespace Go.Proofs.YtdfbimlpondblaaDoor
namespace Rows

/-- THE TIED CARD OF 'clearancelaw17.TallyTwice'. -/
def tallyTwiceCard : Claim7 := { stood := { row := tallyTwiceRow, standIns := [], harness := (true, "0bd58460a3232f429284afc8e1e5d51504500f099982892b3f3abe80ab5dd81e"), looks := false }, kinds := [], alts := [], laidByText := true, laidKinds := [.data], laidTests := true, laidLooks := .later }
def TallyTwiceCardSaid : Prop := Claim7.holds Tryd.pinned (.plain (OpenSpec.ofChange tallyTwiceSpec)) tallyTwiceCard

/-- THE SECOND FORM's CARD OF 'clearancelaw17.TallyTwice'. -/
def tallyTwiceUptoCard : Claim7 := { stood := { row := tallyTwiceUptoRow, standIns := [], harness := (true, "0bd58460a3232f429284afc8e1e5d51504500f099982892b3f3abe80ab5dd81e"), looks := false }, kinds := [], alts := [], laidByText := true, laidKinds := [.data], laidTests := true, laidLooks := .later }
def TallyTwiceUptoCardSaid : Prop := Claim7.holds Tryd.pinned (.plain (OpenSpec.upto tallyTwiceSpec)) tallyTwiceUptoCard
end Rows
end Go.Proofs.YtdfbimlpondblaaDoor
