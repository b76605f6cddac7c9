/-
  How relations and pairs, as arguments, are opened.
-/
import Derived.Test.YtieckcbckgalhaaDoorRel
import Derived.Test.YtieckcbckgalhaaDoorFrame
namespace Go.Proofs.YtieckcbckgalhaaDoor.E
open Go Go.RowKit Go.ChangeShapes Go.WideShapes Go.ChangeAt Go.Proofs.YtieckcbckgalhaaDoor.M
set_option linter.unusedVariables false
end Go.Proofs.YtieckcbckgalhaaDoor.E
