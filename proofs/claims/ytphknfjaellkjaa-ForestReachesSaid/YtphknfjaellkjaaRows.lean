/-
  No cell of these rows narrows 'for every input' (looked for: loops, veiled, ifaces, maps, wideKeys, modest, calm, conditions, laid).
  DERIVED. THE GIVEN ROWS OF THIS SEAT. 4 by the template 'for every input the law returns true; each argument reads behind the call as it read before'; 0 by the template 'total and deterministic' (their statements: YtphknfjaellkjaaTotals.lean).
  GIVEN WITH THE SEED: the statements are not yours to turn. If you find one false, say at which input.
  Laid BY PROGRAM, IN A SANDBOX (cutbox-rows.mjs): the forced cells as the released guide's own fill.sh prints them over the translation 5e044c0ac8adc067… (all of the seat's roots in one cut). By AI agents, Wed Nov 11 2026. No macro, syntax, notation, axiom, sorry.
-/
import Derived.Test.YtphknfjaellkjaaChecked
import GoSem.Claim
import GoSem.ClaimJoined
import GoSem.ClaimMapViews
import Derived.JoinedTies
import Derived.KernelRfl
namespace Go.Proofs.Ytphknfjaellkjaa
/- THE CELL 'sum', in the pinned program and in every row, IS THE sha256 OF THE DUMP (.gsa) THAT YtphknfjaellkjaaProg.lean LOADS. Nothing in Lean hashes anything: it is a label: what it is worth is what the hold of that sum in a sandbox is worth. -/
noncomputable def Try.pinned : Pinned := { name := "ytphknfjaellkjaa", sum := "5e044c0ac8adc0671b4bc0a7bbb403b3856fb46a00db287e1635fdf68670b892", checked := Try.checked }
namespace Rows
def none {H : Type} : Left H := { results := [], args := [] }

/-- 'clearancelaw21.ForestReaches': WHATEVER THE INPUT: true; the input reads as it did. -/
def forestReachesSpec : ChangeSpec := { name := "forestReaches", fn := fun _ => fun
  | [d1, d2, d3] => { results := [.lit (.bool true)], args := [d1, d2, d3] }
  | _ => none }
def forestReachesRow : OpenClaim := { program := "ytphknfjaellkjaa", sum := "5e044c0ac8adc0671b4bc0a7bbb403b3856fb46a00db287e1635fdf68670b892", func := "clearance/clearancelaw21.ForestReaches", spec := "forestReaches", recurses := true, apart := false }
def ForestReachesSaid : Prop := forestReachesRow.holds Try.pinned (OpenSpec.ofChange forestReachesSpec)

/-- ITS FALSE NEIGHBOUR: 'it returns false'. Refute it at one input. -/
def forestReachesWrong : ChangeSpec := { name := "forestReaches", fn := fun _ => fun
  | [d1, d2, d3] => { results := [.lit (.bool false)], args := [d1, d2, d3] }
  | _ => none }
def ForestReachesWrongFalsely : Prop := forestReachesRow.holds Try.pinned (OpenSpec.ofChange forestReachesWrong)

/-- 'clearancelaw21.ForestPlays': WHATEVER THE INPUT: true; the input reads as it did. -/
def forestPlaysSpec : ChangeSpec := { name := "forestPlays", fn := fun _ => fun
  | [d1, d2] => { results := [.lit (.bool true)], args := [d1, d2] }
  | _ => none }
def forestPlaysRow : OpenClaim := { program := "ytphknfjaellkjaa", sum := "5e044c0ac8adc0671b4bc0a7bbb403b3856fb46a00db287e1635fdf68670b892", func := "clearance/clearancelaw21.ForestPlays", spec := "forestPlays", unfollowed := true, recurses := true, apart := false }
def ForestPlaysSaid : Prop := forestPlaysRow.holds Try.pinned (OpenSpec.ofChange forestPlaysSpec)

/-- ITS FALSE NEIGHBOUR: 'it returns false'. Refute it at one input. -/
def forestPlaysWrong : ChangeSpec := { name := "forestPlays", fn := fun _ => fun
  | [d1, d2] => { results := [.lit (.bool false)], args := [d1, d2] }
  | _ => none }
def ForestPlaysWrongFalsely : Prop := forestPlaysRow.holds Try.pinned (OpenSpec.ofChange forestPlaysWrong)

/-- 'clearancelaw21.ForestBack': WHATEVER THE INPUT: true; the input reads as it did. -/
def forestBackSpec : ChangeSpec := { name := "forestBack", fn := fun _ => fun
  | [d1, d2] => { results := [.lit (.bool true)], args := [d1, d2] }
  | _ => none }
def forestBackRow : OpenClaim := { program := "ytphknfjaellkjaa", sum := "5e044c0ac8adc0671b4bc0a7bbb403b3856fb46a00db287e1635fdf68670b892", func := "clearance/clearancelaw21.ForestBack", spec := "forestBack", unfollowed := true, recurses := true, apart := false }
def ForestBackSaid : Prop := forestBackRow.holds Try.pinned (OpenSpec.ofChange forestBackSpec)

/-- ITS FALSE NEIGHBOUR: 'it returns false'. Refute it at one input. -/
def forestBackWrong : ChangeSpec := { name := "forestBack", fn := fun _ => fun
  | [d1, d2] => { results := [.lit (.bool false)], args := [d1, d2] }
  | _ => none }
def ForestBackWrongFalsely : Prop := forestBackRow.holds Try.pinned (OpenSpec.ofChange forestBackWrong)

/-- 'clearancelaw21.ForestNobody': WHATEVER THE INPUT: true; the input reads as it did. -/
def forestNobodySpec : ChangeSpec := { name := "forestNobody", fn := fun _ => fun
  | [d] => { results := [.lit (.bool true)], args := [d] }
  | _ => none }
def forestNobodyRow : OpenClaim := { program := "ytphknfjaellkjaa", sum := "5e044c0ac8adc0671b4bc0a7bbb403b3856fb46a00db287e1635fdf68670b892", func := "clearance/clearancelaw21.ForestNobody", spec := "forestNobody", unfollowed := true, recurses := true, apart := false }
def ForestNobodySaid : Prop := forestNobodyRow.holds Try.pinned (OpenSpec.ofChange forestNobodySpec)

/-- ITS FALSE NEIGHBOUR: 'it returns false'. Refute it at one input. -/
def forestNobodyWrong : ChangeSpec := { name := "forestNobody", fn := fun _ => fun
  | [d] => { results := [.lit (.bool false)], args := [d] }
  | _ => none }
def ForestNobodyWrongFalsely : Prop := forestNobodyRow.holds Try.pinned (OpenSpec.ofChange forestNobodyWrong)

/- THE SECOND FORM. 'bulk': how many values and letters a reading holds, each counted each time it is reached (what is shared counts as often as it is met; a slice's spare places count too). A statement '..UptoSaid' is the law's where the arguments, and the package variables that the reading takes, are together of bulk at most 1048576: NARROWER than '..Said'. Prove '..Said' where nothing that the law and all that it calls make is longer than what came in: it says more and counts as full. Else prove '..UptoSaid'. A law counts once. -/
mutual
def uptoBulk {H : Type} : DataW H → Nat
  | .lit (.string bytes) => bytes.length + 1
  | .lit _ => 1
  | .nil => 1
  | .ptr d => uptoBulk d + 1
  | .slice elems spare => uptoBulkAll elems + uptoBulkAll spare + 1
  | .agg parts => uptoBulkAll parts + 1
  | .iface _ d => uptoBulk d + 1
  | .map entries => uptoBulkEntries entries + 1
  | .held _ => 1
def uptoBulkAll {H : Type} : List (DataW H) → Nat
  | [] => 0
  | d :: r => uptoBulk d + uptoBulkAll r
def uptoBulkEntries {H : Type} : List (Lit × DataW H) → Nat
  | [] => 0
  | x :: r => uptoBulkEntry x + uptoBulkEntries r
def uptoBulkEntry {H : Type} : Lit × DataW H → Nat
  | (.string bytes, d) => bytes.length + uptoBulk d + 1
  | (_, d) => uptoBulk d + 1
 end
def uptoSmall : (H : Type) → List (DataW H) → Bool := fun _ ds => decide (uptoBulkAll ds ≤ 1048576)
def OpenSpec.upto (s : _root_.Go.ChangeSpec) : _root_.Go.OpenSpec := { _root_.Go.OpenSpec.ofChange s with cond := some uptoSmall }

/-- 'clearancelaw21.ForestReaches', WHERE WHAT IT READS IS OF BULK AT MOST 1048576: true; the input reads as it did. -/
def forestReachesUptoRow : OpenClaim := { program := "ytphknfjaellkjaa", sum := "5e044c0ac8adc0671b4bc0a7bbb403b3856fb46a00db287e1635fdf68670b892", func := "clearance/clearancelaw21.ForestReaches", spec := "forestReaches", recurses := true, apart := false, narrowed := true }
def ForestReachesUptoSaid : Prop := forestReachesUptoRow.holds Try.pinned (OpenSpec.upto forestReachesSpec)

/-- 'clearancelaw21.ForestPlays', WHERE WHAT IT READS IS OF BULK AT MOST 1048576: true; the input reads as it did. -/
def forestPlaysUptoRow : OpenClaim := { program := "ytphknfjaellkjaa", sum := "5e044c0ac8adc0671b4bc0a7bbb403b3856fb46a00db287e1635fdf68670b892", func := "clearance/clearancelaw21.ForestPlays", spec := "forestPlays", unfollowed := true, recurses := true, apart := false, narrowed := true }
def ForestPlaysUptoSaid : Prop := forestPlaysUptoRow.holds Try.pinned (OpenSpec.upto forestPlaysSpec)

/-- 'clearancelaw21.ForestBack', WHERE WHAT IT READS IS OF BULK AT MOST 1048576: true; the input reads as it did. -/
def forestBackUptoRow : OpenClaim := { program := "ytphknfjaellkjaa", sum := "5e044c0ac8adc0671b4bc0a7bbb403b3856fb46a00db287e1635fdf68670b892", func := "clearance/clearancelaw21.ForestBack", spec := "forestBack", unfollowed := true, recurses := true, apart := false, narrowed := true }
def ForestBackUptoSaid : Prop := forestBackUptoRow.holds Try.pinned (OpenSpec.upto forestBackSpec)

/-- 'clearancelaw21.ForestNobody', WHERE WHAT IT READS IS OF BULK AT MOST 1048576: true; the input reads as it did. -/
def forestNobodyUptoRow : OpenClaim := { program := "ytphknfjaellkjaa", sum := "5e044c0ac8adc0671b4bc0a7bbb403b3856fb46a00db287e1635fdf68670b892", func := "clearance/clearancelaw21.ForestNobody", spec := "forestNobody", unfollowed := true, recurses := true, apart := false, narrowed := true }
def ForestNobodyUptoSaid : Prop := forestNobodyUptoRow.holds Try.pinned (OpenSpec.upto forestNobodySpec)

end Rows
end Go.Proofs.Ytphknfjaellkjaa
