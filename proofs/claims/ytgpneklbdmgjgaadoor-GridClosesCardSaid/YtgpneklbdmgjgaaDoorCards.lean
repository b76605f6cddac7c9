/-
  DERIVED. GIVEN WITH THE SEED: THE CARDS: each row of YtgpneklbdmgjgaaDoorRows.lean that lists a variable, with what it lists TIED to the program's text (the seventh form; the later family's looks); each row that meets fmt, with fmt's text TOLD by the authors' own Lean function (tested against real Go, not proved from fmt's source: count such statements apart). THE CARD IS WHAT COUNTS. Prove the row's statement (the work); the ties are given (YtgpneklbdmgjgaaDoorTie.lean); close each card by the builder's one call (the guide's Derived/Test/ToyasCard.lean, 'card_holds'). Laid BY PROGRAM, IN A SANDBOX (cutbox-door.mjs). By AI agents, Wed Nov 11 2026. No macro, syntax, notation, axiom, sorry.
-/
import Derived.Test.YtgpneklbdmgjgaaDoorRows
import GoSem.ClaimSeven
namespace Go.Proofs.YtgpneklbdmgjgaaDoor
namespace Rows

/-- THE TIED CARD OF 'clearancelaw06.HasseBounds'. -/
def hasseBoundsCard : Claim7 := { stood := { row := hasseBoundsRow, standIns := [], harness := (true, "af4299f2f69de8fb774d9a40acb700064ebedbd8f334362cd1ed0c17eff4ce4c"), looks := false }, kinds := [], alts := [], laidByText := true, laidKinds := [.data], laidTests := true, laidLooks := .later }
def HasseBoundsCardSaid : Prop := Claim7.holds Tryd.pinned (.plain (OpenSpec.ofChange hasseBoundsSpec)) hasseBoundsCard

/-- THE TIED CARD OF 'clearancelaw03.RelateReaches'. -/
def relateReachesCard : Claim7 := { stood := { row := relateReachesRow, standIns := [], harness := (true, "af4299f2f69de8fb774d9a40acb700064ebedbd8f334362cd1ed0c17eff4ce4c"), looks := false }, kinds := [], alts := [], laidByText := true, laidKinds := [.data], laidTests := true, laidLooks := .later }
def RelateReachesCardSaid : Prop := Claim7.holds Tryd.pinned (.plain (OpenSpec.ofChange relateReachesSpec)) relateReachesCard

/-- THE TIED CARD OF 'clearancelaw03.RelateImages'. -/
def relateImagesCard : Claim7 := { stood := { row := relateImagesRow, standIns := [], harness := (true, "af4299f2f69de8fb774d9a40acb700064ebedbd8f334362cd1ed0c17eff4ce4c"), looks := false }, kinds := [], alts := [], laidByText := true, laidKinds := [.data], laidTests := true, laidLooks := .later }
def RelateImagesCardSaid : Prop := Claim7.holds Tryd.pinned (.plain (OpenSpec.ofChange relateImagesSpec)) relateImagesCard

/-- THE TIED CARD OF 'clearancelaw03.RelateLeast'. -/
def relateLeastCard : Claim7 := { stood := { row := relateLeastRow, standIns := [], harness := (true, "af4299f2f69de8fb774d9a40acb700064ebedbd8f334362cd1ed0c17eff4ce4c"), looks := false }, kinds := [], alts := [], laidByText := true, laidKinds := [.data], laidTests := true, laidLooks := .later }
def RelateLeastCardSaid : Prop := Claim7.holds Tryd.pinned (.plain (OpenSpec.ofChange relateLeastSpec)) relateLeastCard

/-- THE TIED CARD OF 'clearancelaw03.RelateCovers'. -/
def relateCoversCard : Claim7 := { stood := { row := relateCoversRow, standIns := [], harness := (true, "af4299f2f69de8fb774d9a40acb700064ebedbd8f334362cd1ed0c17eff4ce4c"), looks := false }, kinds := [], alts := [], laidByText := true, laidKinds := [.data], laidTests := true, laidLooks := .later }
def RelateCoversCardSaid : Prop := Claim7.holds Tryd.pinned (.plain (OpenSpec.ofChange relateCoversSpec)) relateCoversCard

/-- THE TIED CARD OF 'clearancelaw06.HasseTells'. -/
def hasseTellsCard : Claim7 := { stood := { row := hasseTellsRow, standIns := [], harness := (true, "af4299f2f69de8fb774d9a40acb700064ebedbd8f334362cd1ed0c17eff4ce4c"), looks := false }, kinds := [], alts := [], laidByText := true, laidKinds := [.data], laidTests := true, laidLooks := .later }
def HasseTellsCardSaid : Prop := Claim7.holds Tryd.pinned (.plain (OpenSpec.ofChange hasseTellsSpec)) hasseTellsCard

/-- THE TIED CARD OF 'clearancelaw06.HasseLattice'. -/
def hasseLatticeCard : Claim7 := { stood := { row := hasseLatticeRow, standIns := [], harness := (true, "af4299f2f69de8fb774d9a40acb700064ebedbd8f334362cd1ed0c17eff4ce4c"), looks := false }, kinds := [], alts := [], laidByText := true, laidKinds := [.data], laidTests := true, laidLooks := .later }
def HasseLatticeCardSaid : Prop := Claim7.holds Tryd.pinned (.plain (OpenSpec.ofChange hasseLatticeSpec)) hasseLatticeCard

/-- THE TIED CARD OF 'clearancelaw03.RelateOf'. -/
def relateOfCard : Claim7 := { stood := { row := relateOfRow, standIns := [], harness := (true, "af4299f2f69de8fb774d9a40acb700064ebedbd8f334362cd1ed0c17eff4ce4c"), looks := false }, kinds := [], alts := [], laidByText := true, laidKinds := [.data], laidTests := true, laidLooks := .later }
def RelateOfCardSaid : Prop := Claim7.holds Tryd.pinned (.plain (OpenSpec.ofChange relateOfSpec)) relateOfCard

/-- THE TIED CARD OF 'clearancelaw06.HasseWords'. -/
def hasseWordsCard : Claim7 := { stood := { row := hasseWordsRow, standIns := [], harness := (true, "af4299f2f69de8fb774d9a40acb700064ebedbd8f334362cd1ed0c17eff4ce4c"), looks := false }, kinds := [], alts := [], laidByText := true, laidKinds := [.data], laidTests := true, laidLooks := .later }
def HasseWordsCardSaid : Prop := Claim7.holds Tryd.pinned (.plain (OpenSpec.ofChange hasseWordsSpec)) hasseWordsCard

/-- THE TIED CARD OF 'clearancelaw06.HasseBack'. -/
def hasseBackCard : Claim7 := { stood := { row := hasseBackRow, standIns := [], harness := (true, "af4299f2f69de8fb774d9a40acb700064ebedbd8f334362cd1ed0c17eff4ce4c"), looks := false }, kinds := [], alts := [], laidByText := true, laidKinds := [.data], laidTests := true, laidLooks := .later }
def HasseBackCardSaid : Prop := Claim7.holds Tryd.pinned (.plain (OpenSpec.ofChange hasseBackSpec)) hasseBackCard

/-- THE TIED CARD OF 'clearancelaw05.GridHeight'. -/
def gridHeightCard : Claim7 := { stood := { row := gridHeightRow, standIns := [], harness := (true, "af4299f2f69de8fb774d9a40acb700064ebedbd8f334362cd1ed0c17eff4ce4c"), looks := false }, kinds := [], alts := [], laidByText := true, laidKinds := [.data], laidTests := true, laidLooks := .later }
def GridHeightCardSaid : Prop := Claim7.holds Tryd.pinned (.plain (OpenSpec.ofChange gridHeightSpec)) gridHeightCard

/-- THE TIED CARD OF 'clearancelaw05.GridCloses'. -/
def gridClosesCard : Claim7 := { stood := { row := gridClosesRow, standIns := [], harness := (true, "af4299f2f69de8fb774d9a40acb700064ebedbd8f334362cd1ed0c17eff4ce4c"), looks := false }, kinds := [], alts := [], laidByText := true, laidKinds := [.data], laidTests := true, laidLooks := .later }
def GridClosesCardSaid : Prop := Claim7.holds Tryd.pinned (.plain (OpenSpec.ofChange gridClosesSpec)) gridClosesCard

/-- THE TIED CARD OF 'clearancelaw05.GridLeast'. -/
def gridLeastCard : Claim7 := { stood := { row := gridLeastRow, standIns := [], harness := (true, "af4299f2f69de8fb774d9a40acb700064ebedbd8f334362cd1ed0c17eff4ce4c"), looks := false }, kinds := [], alts := [], laidByText := true, laidKinds := [.data], laidTests := true, laidLooks := .later }
def GridLeastCardSaid : Prop := Claim7.holds Tryd.pinned (.plain (OpenSpec.ofChange gridLeastSpec)) gridLeastCard

/-- THE TIED CARD OF 'clearancelaw03.RelateTells'. -/
def relateTellsCard : Claim7 := { stood := { row := relateTellsRow, standIns := [], harness := (true, "af4299f2f69de8fb774d9a40acb700064ebedbd8f334362cd1ed0c17eff4ce4c"), looks := false }, kinds := [], alts := [], laidByText := true, laidKinds := [.data], laidTests := true, laidLooks := .later }
def RelateTellsCardSaid : Prop := Claim7.holds Tryd.pinned (.plain (OpenSpec.ofChange relateTellsSpec)) relateTellsCard

/-- THE TIED CARD OF 'clearancelaw05.GridRules'. -/
def gridRulesCard : Claim7 := { stood := { row := gridRulesRow, standIns := [], harness := (true, "af4299f2f69de8fb774d9a40acb700064ebedbd8f334362cd1ed0c17eff4ce4c"), looks := false }, kinds := [], alts := [], laidByText := true, laidKinds := [.data], laidTests := true, laidLooks := .later }
def GridRulesCardSaid : Prop := Claim7.holds Tryd.pinned (.plain (OpenSpec.ofChange gridRulesSpec)) gridRulesCard

/-- THE TIED CARD OF 'clearancelaw05.GridBack'. -/
def gridBackCard : Claim7 := { stood := { row := gridBackRow, standIns := [], harness := (true, "af4299f2f69de8fb774d9a40acb700064ebedbd8f334362cd1ed0c17eff4ce4c"), looks := false }, kinds := [], alts := [], laidByText := true, laidKinds := [.data], laidTests := true, laidLooks := .later }
def GridBackCardSaid : Prop := Claim7.holds Tryd.pinned (.plain (OpenSpec.ofChange gridBackSpec)) gridBackCard

/-- THE SECOND FORM's CARD OF 'clearancelaw06.HasseBounds'. -/
def hasseBoundsUptoCard : Claim7 := { stood := { row := hasseBoundsUptoRow, standIns := [], harness := (true, "af4299f2f69de8fb774d9a40acb700064ebedbd8f334362cd1ed0c17eff4ce4c"), looks := false }, kinds := [], alts := [], laidByText := true, laidKinds := [.data], laidTests := true, laidLooks := .later }
def HasseBoundsUptoCardSaid : Prop := Claim7.holds Tryd.pinned (.plain (OpenSpec.upto hasseBoundsSpec)) hasseBoundsUptoCard

/-- THE SECOND FORM's CARD OF 'clearancelaw03.RelateReaches'. -/
def relateReachesUptoCard : Claim7 := { stood := { row := relateReachesUptoRow, standIns := [], harness := (true, "af4299f2f69de8fb774d9a40acb700064ebedbd8f334362cd1ed0c17eff4ce4c"), looks := false }, kinds := [], alts := [], laidByText := true, laidKinds := [.data], laidTests := true, laidLooks := .later }
def RelateReachesUptoCardSaid : Prop := Claim7.holds Tryd.pinned (.plain (OpenSpec.upto relateReachesSpec)) relateReachesUptoCard

/-- THE SECOND FORM's CARD OF 'clearancelaw03.RelateImages'. -/
def relateImagesUptoCard : Claim7 := { stood := { row := relateImagesUptoRow, standIns := [], harness := (true, "af4299f2f69de8fb774d9a40acb700064ebedbd8f334362cd1ed0c17eff4ce4c"), looks := false }, kinds := [], alts := [], laidByText := true, laidKinds := [.data], laidTests := true, laidLooks := .later }
def RelateImagesUptoCardSaid : Prop := Claim7.holds Tryd.pinned (.plain (OpenSpec.upto relateImagesSpec)) relateImagesUptoCard

/-- THE SECOND FORM's CARD OF 'clearancelaw03.RelateLeast'. -/
def relateLeastUptoCard : Claim7 := { stood := { row := relateLeastUptoRow, standIns := [], harness := (true, "af4299f2f69de8fb774d9a40acb700064ebedbd8f334362cd1ed0c17eff4ce4c"), looks := false }, kinds := [], alts := [], laidByText := true, laidKinds := [.data], laidTests := true, laidLooks := .later }
def RelateLeastUptoCardSaid : Prop := Claim7.holds Tryd.pinned (.plain (OpenSpec.upto relateLeastSpec)) relateLeastUptoCard

/-- THE SECOND FORM's CARD OF 'clearancelaw03.RelateCovers'. -/
def relateCoversUptoCard : Claim7 := { stood := { row := relateCoversUptoRow, standIns := [], harness := (true, "af4299f2f69de8fb774d9a40acb700064ebedbd8f334362cd1ed0c17eff4ce4c"), looks := false }, kinds := [], alts := [], laidByText := true, laidKinds := [.data], laidTests := true, laidLooks := .later }
def RelateCoversUptoCardSaid : Prop := Claim7.holds Tryd.pinned (.plain (OpenSpec.upto relateCoversSpec)) relateCoversUptoCard

/-- THE SECOND FORM's CARD OF 'clearancelaw06.HasseTells'. -/
def hasseTellsUptoCard : Claim7 := { stood := { row := hasseTellsUptoRow, standIns := [], harness := (true, "af4299f2f69de8fb774d9a40acb700064ebedbd8f334362cd1ed0c17eff4ce4c"), looks := false }, kinds := [], alts := [], laidByText := true, laidKinds := [.data], laidTests := true, laidLooks := .later }
def HasseTellsUptoCardSaid : Prop := Claim7.holds Tryd.pinned (.plain (OpenSpec.upto hasseTellsSpec)) hasseTellsUptoCard

/-- THE SECOND FORM's CARD OF 'clearancelaw06.HasseLattice'. -/
def hasseLatticeUptoCard : Claim7 := { stood := { row := hasseLatticeUptoRow, standIns := [], harness := (true, "af4299f2f69de8fb774d9a40acb700064ebedbd8f334362cd1ed0c17eff4ce4c"), looks := false }, kinds := [], alts := [], laidByText := true, laidKinds := [.data], laidTests := true, laidLooks := .later }
def HasseLatticeUptoCardSaid : Prop := Claim7.holds Tryd.pinned (.plain (OpenSpec.upto hasseLatticeSpec)) hasseLatticeUptoCard

/-- THE SECOND FORM's CARD OF 'clearancelaw03.RelateOf'. -/
def relateOfUptoCard : Claim7 := { stood := { row := relateOfUptoRow, standIns := [], harness := (true, "af4299f2f69de8fb774d9a40acb700064ebedbd8f334362cd1ed0c17eff4ce4c"), looks := false }, kinds := [], alts := [], laidByText := true, laidKinds := [.data], laidTests := true, laidLooks := .later }
def RelateOfUptoCardSaid : Prop := Claim7.holds Tryd.pinned (.plain (OpenSpec.upto relateOfSpec)) relateOfUptoCard

/-- THE SECOND FORM's CARD OF 'clearancelaw06.HasseWords'. -/
def hasseWordsUptoCard : Claim7 := { stood := { row := hasseWordsUptoRow, standIns := [], harness := (true, "af4299f2f69de8fb774d9a40acb700064ebedbd8f334362cd1ed0c17eff4ce4c"), looks := false }, kinds := [], alts := [], laidByText := true, laidKinds := [.data], laidTests := true, laidLooks := .later }
def HasseWordsUptoCardSaid : Prop := Claim7.holds Tryd.pinned (.plain (OpenSpec.upto hasseWordsSpec)) hasseWordsUptoCard

/-- THE SECOND FORM's CARD OF 'clearancelaw06.HasseBack'. -/
def hasseBackUptoCard : Claim7 := { stood := { row := hasseBackUptoRow, standIns := [], harness := (true, "af4299f2f69de8fb774d9a40acb700064ebedbd8f334362cd1ed0c17eff4ce4c"), looks := false }, kinds := [], alts := [], laidByText := true, laidKinds := [.data], laidTests := true, laidLooks := .later }
def HasseBackUptoCardSaid : Prop := Claim7.holds Tryd.pinned (.plain (OpenSpec.upto hasseBackSpec)) hasseBackUptoCard

/-- THE SECOND FORM's CARD OF 'clearancelaw05.GridHeight'. -/
def gridHeightUptoCard : Claim7 := { stood := { row := gridHeightUptoRow, standIns := [], harness := (true, "af4299f2f69de8fb774d9a40acb700064ebedbd8f334362cd1ed0c17eff4ce4c"), looks := false }, kinds := [], alts := [], laidByText := true, laidKinds := [.data], laidTests := true, laidLooks := .later }
def GridHeightUptoCardSaid : Prop := Claim7.holds Tryd.pinned (.plain (OpenSpec.upto gridHeightSpec)) gridHeightUptoCard

/-- THE SECOND FORM's CARD OF 'clearancelaw05.GridCloses'. -/
def gridClosesUptoCard : Claim7 := { stood := { row := gridClosesUptoRow, standIns := [], harness := (true, "af4299f2f69de8fb774d9a40acb700064ebedbd8f334362cd1ed0c17eff4ce4c"), looks := false }, kinds := [], alts := [], laidByText := true, laidKinds := [.data], laidTests := true, laidLooks := .later }
def GridClosesUptoCardSaid : Prop := Claim7.holds Tryd.pinned (.plain (OpenSpec.upto gridClosesSpec)) gridClosesUptoCard

/-- THE SECOND FORM's CARD OF 'clearancelaw05.GridLeast'. -/
def gridLeastUptoCard : Claim7 := { stood := { row := gridLeastUptoRow, standIns := [], harness := (true, "af4299f2f69de8fb774d9a40acb700064ebedbd8f334362cd1ed0c17eff4ce4c"), looks := false }, kinds := [], alts := [], laidByText := true, laidKinds := [.data], laidTests := true, laidLooks := .later }
def GridLeastUptoCardSaid : Prop := Claim7.holds Tryd.pinned (.plain (OpenSpec.upto gridLeastSpec)) gridLeastUptoCard

/-- THE SECOND FORM's CARD OF 'clearancelaw03.RelateTells'. -/
def relateTellsUptoCard : Claim7 := { stood := { row := relateTellsUptoRow, standIns := [], harness := (true, "af4299f2f69de8fb774d9a40acb700064ebedbd8f334362cd1ed0c17eff4ce4c"), looks := false }, kinds := [], alts := [], laidByText := true, laidKinds := [.data], laidTests := true, laidLooks := .later }
def RelateTellsUptoCardSaid : Prop := Claim7.holds Tryd.pinned (.plain (OpenSpec.upto relateTellsSpec)) relateTellsUptoCard

/-- THE SECOND FORM's CARD OF 'clearancelaw05.GridRules'. -/
def gridRulesUptoCard : Claim7 := { stood := { row := gridRulesUptoRow, standIns := [], harness := (true, "af4299f2f69de8fb774d9a40acb700064ebedbd8f334362cd1ed0c17eff4ce4c"), looks := false }, kinds := [], alts := [], laidByText := true, laidKinds := [.data], laidTests := true, laidLooks := .later }
def GridRulesUptoCardSaid : Prop := Claim7.holds Tryd.pinned (.plain (OpenSpec.upto gridRulesSpec)) gridRulesUptoCard

/-- THE SECOND FORM's CARD OF 'clearancelaw05.GridBack'. -/
def gridBackUptoCard : Claim7 := { stood := { row := gridBackUptoRow, standIns := [], harness := (true, "af4299f2f69de8fb774d9a40acb700064ebedbd8f334362cd1ed0c17eff4ce4c"), looks := false }, kinds := [], alts := [], laidByText := true, laidKinds := [.data], laidTests := true, laidLooks := .later }
def GridBackUptoCardSaid : Prop := Claim7.holds Tryd.pinned (.plain (OpenSpec.upto gridBackSpec)) gridBackUptoCard
end Rows
end Go.Proofs.YtgpneklbdmgjgaaDoor
