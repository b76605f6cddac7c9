/-
  Trees, words and commands: their records, and how they are opened.
-/
import Derived.Test.YtieckcbckgalhaaGreatDoorSco
namespace Go.Proofs.YtieckcbckgalhaaGreatDoor.E
open Go Go.RowKit Go.ChangeShapes Go.WideShapes Go.ChangeAt Go.Deep Go.Proofs.YtieckcbckgalhaaGreatDoor.M
set_option linter.unusedVariables false
structure WdTT (P : Program) (t tx ti : TypeId) : Prop where
  u : ∃ f0 f1 : Field, P.underlying t = some (.struct #[f0, f1]) ∧ (f0.type = tx ∧ f0.offset = 0) ∧ (f1.type = ti ∧ f1.offset = 1)
  x : P.underlying tx = some .string
  cx : P.cellsOf tx = 1
  i : P.underlying ti = some (.int .i64)
  ci : P.cellsOf ti = 1
  z : P.cellsOf t = 2
structure NodeTT (P : Program) (t tws tns tw tx ti : TypeId) : Prop where
  w : WdTT P tw tx ti
  u : ∃ f0 f1 f2 f3 f4 : Field, P.underlying t = some (.struct #[f0, f1, f2, f3, f4]) ∧ (f0.type = ti ∧ f0.offset = 0) ∧ (f1.type = ti ∧ f1.offset = 1) ∧ (f2.type = tx ∧ f2.offset = 2) ∧ (f3.type = tws ∧ f3.offset = 3) ∧ (f4.type = tns ∧ f4.offset = 4)
  ws : P.underlying tws = some (.slice tw)
  ns : P.underlying tns = some (.slice t)
  cws : P.cellsOf tws = 1
  cns : P.cellsOf tns = 1
  z : P.cellsOf t = 5
section
variable {H : Type} {enc : TypeId × Value → H} {P : Program} {w : World} {base : Nat} {sp : Nat → Bool} {held : Bool} {fuel : Nat} {cs : List Value} {x : DataW H × List MemPlace} {t tws tns tw tx ti : TypeId}
end
end Go.Proofs.YtieckcbckgalhaaGreatDoor.E
