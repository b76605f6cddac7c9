/-
  How relations and pairs, as arguments, are opened.
-/
import Derived.Test.YtieckcbckgalhaaGreatDoorRel
import Derived.Test.YtieckcbckgalhaaGreatDoorFrame
namespace Go.Proofs.YtieckcbckgalhaaGreatDoor.E
open Go Go.RowKit Go.ChangeShapes Go.WideShapes Go.ChangeAt Go.Proofs.YtieckcbckgalhaaGreatDoor.M
set_option linter.unusedVariables false
end Go.Proofs.YtieckcbckgalhaaGreatDoor.E
