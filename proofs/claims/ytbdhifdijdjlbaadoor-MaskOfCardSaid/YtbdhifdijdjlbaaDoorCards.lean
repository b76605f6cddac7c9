/-
  DERIVED. GIVEN WITH THE SEED: THE CARDS: each row of YtbdhifdijdjlbaaDoorRows.lean that lists a variable, with what it lists TIED to the program's text (the seventh form; the later family's looks); each row that meets fmt, with fmt's text TOLD by the authors' own Lean function (tested against real Go, not proved from fmt's source: count such statements apart). THE CARD IS WHAT COUNTS. Prove the row's statement (the work); the ties are given (YtbdhifdijdjlbaaDoorTie.lean); close each card by the builder's one call (the guide's Derived/Test/ToyasCard.lean, 'card_holds'). Laid BY PROGRAM, IN A SANDBOX (cutbox-door.mjs). By AI agents, Wed Nov 11 2026. No macro, syntax, notation, axiom, sorry.
-/
import Derived.Test.YtbdhifdijdjlbaaDoorRows
import GoSem.ClaimSeven
namespace Go.Proofs.YtbdhifdijdjlbaaDoor
namespace Rows

/-- THE TIED CARD OF 'clearancelaw01.MaskEach'. -/
def maskEachCard : Claim7 := { stood := { row := maskEachRow, standIns := [], harness := (true, "13b78a96f38adc071d3a96f16a0da1c91ef5c64cb65e5d04cb1c34d0a326efd4"), looks := false }, kinds := [], alts := [], laidByText := true, laidKinds := [.data], laidTests := true, laidLooks := .later }
def MaskEachCardSaid : Prop := Claim7.holds Tryd.pinned (.plain (OpenSpec.ofChange maskEachSpec)) maskEachCard

/-- THE TIED CARD OF 'clearancelaw01.MaskLists'. -/
def maskListsCard : Claim7 := { stood := { row := maskListsRow, standIns := [], harness := (true, "13b78a96f38adc071d3a96f16a0da1c91ef5c64cb65e5d04cb1c34d0a326efd4"), looks := false }, kinds := [], alts := [], laidByText := true, laidKinds := [.data], laidTests := true, laidLooks := .later }
def MaskListsCardSaid : Prop := Claim7.holds Tryd.pinned (.plain (OpenSpec.ofChange maskListsSpec)) maskListsCard

/-- THE TIED CARD OF 'clearancelaw01.MaskOf'. -/
def maskOfCard : Claim7 := { stood := { row := maskOfRow, standIns := [], harness := (true, "13b78a96f38adc071d3a96f16a0da1c91ef5c64cb65e5d04cb1c34d0a326efd4"), looks := false }, kinds := [], alts := [], laidByText := true, laidKinds := [.data], laidTests := true, laidLooks := .later }
def MaskOfCardSaid : Prop := Claim7.holds Tryd.pinned (.plain (OpenSpec.ofChange maskOfSpec)) maskOfCard

/-- THE TIED CARD OF 'clearancelaw01.MaskCounts'. -/
def maskCountsCard : Claim7 := { stood := { row := maskCountsRow, standIns := [], harness := (true, "13b78a96f38adc071d3a96f16a0da1c91ef5c64cb65e5d04cb1c34d0a326efd4"), looks := false }, kinds := [], alts := [], laidByText := true, laidKinds := [.data], laidTests := true, laidLooks := .later }
def MaskCountsCardSaid : Prop := Claim7.holds Tryd.pinned (.plain (OpenSpec.ofChange maskCountsSpec)) maskCountsCard

/-- THE TIED CARD OF 'clearancelaw01.MaskBack'. -/
def maskBackCard : Claim7 := { stood := { row := maskBackRow, standIns := [], harness := (true, "13b78a96f38adc071d3a96f16a0da1c91ef5c64cb65e5d04cb1c34d0a326efd4"), looks := false }, kinds := [], alts := [], laidByText := true, laidKinds := [.data], laidTests := true, laidLooks := .later }
def MaskBackCardSaid : Prop := Claim7.holds Tryd.pinned (.plain (OpenSpec.ofChange maskBackSpec)) maskBackCard

/-- THE SECOND FORM's CARD OF 'clearancelaw01.MaskEach'. -/
def maskEachUptoCard : Claim7 := { stood := { row := maskEachUptoRow, standIns := [], harness := (true, "13b78a96f38adc071d3a96f16a0da1c91ef5c64cb65e5d04cb1c34d0a326efd4"), looks := false }, kinds := [], alts := [], laidByText := true, laidKinds := [.data], laidTests := true, laidLooks := .later }
def MaskEachUptoCardSaid : Prop := Claim7.holds Tryd.pinned (.plain (OpenSpec.upto maskEachSpec)) maskEachUptoCard

/-- THE SECOND FORM's CARD OF 'clearancelaw01.MaskLists'. -/
def maskListsUptoCard : Claim7 := { stood := { row := maskListsUptoRow, standIns := [], harness := (true, "13b78a96f38adc071d3a96f16a0da1c91ef5c64cb65e5d04cb1c34d0a326efd4"), looks := false }, kinds := [], alts := [], laidByText := true, laidKinds := [.data], laidTests := true, laidLooks := .later }
def MaskListsUptoCardSaid : Prop := Claim7.holds Tryd.pinned (.plain (OpenSpec.upto maskListsSpec)) maskListsUptoCard

/-- THE SECOND FORM's CARD OF 'clearancelaw01.MaskOf'. -/
def maskOfUptoCard : Claim7 := { stood := { row := maskOfUptoRow, standIns := [], harness := (true, "13b78a96f38adc071d3a96f16a0da1c91ef5c64cb65e5d04cb1c34d0a326efd4"), looks := false }, kinds := [], alts := [], laidByText := true, laidKinds := [.data], laidTests := true, laidLooks := .later }
def MaskOfUptoCardSaid : Prop := Claim7.holds Tryd.pinned (.plain (OpenSpec.upto maskOfSpec)) maskOfUptoCard

/-- THE SECOND FORM's CARD OF 'clearancelaw01.MaskCounts'. -/
def maskCountsUptoCard : Claim7 := { stood := { row := maskCountsUptoRow, standIns := [], harness := (true, "13b78a96f38adc071d3a96f16a0da1c91ef5c64cb65e5d04cb1c34d0a326efd4"), looks := false }, kinds := [], alts := [], laidByText := true, laidKinds := [.data], laidTests := true, laidLooks := .later }
def MaskCountsUptoCardSaid : Prop := Claim7.holds Tryd.pinned (.plain (OpenSpec.upto maskCountsSpec)) maskCountsUptoCard

/-- THE SECOND FORM's CARD OF 'clearancelaw01.MaskBack'. -/
def maskBackUptoCard : Claim7 := { stood := { row := maskBackUptoRow, standIns := [], harness := (true, "13b78a96f38adc071d3a96f16a0da1c91ef5c64cb65e5d04cb1c34d0a326efd4"), looks := false }, kinds := [], alts := [], laidByText := true, laidKinds := [.data], laidTests := true, laidLooks := .later }
def MaskBackUptoCardSaid : Prop := Claim7.holds Tryd.pinned (.plain (OpenSpec.upto maskBackSpec)) maskBackUptoCard
end Rows
end Go.Proofs.YtbdhifdijdjlbaaDoor
