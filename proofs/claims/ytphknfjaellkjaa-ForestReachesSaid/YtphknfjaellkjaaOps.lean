/-
  How calls, as arguments, are opened.
-/
import Derived.Test.YtphknfjaellkjaaSlc
import Derived.Deep.Strs
import Derived.Test.YtphknfjaellkjaaFov
namespace Go.Proofs.Ytphknfjaellkjaa.E
open Go Go.RowKit Go.ChangeShapes Go.WideShapes Go.ChangeAt Go.Deep Go.Proofs.Ytphknfjaellkjaa.M
set_option linter.unusedVariables false
set_option linter.unusedSimpArgs false
end Go.Proofs.Ytphknfjaellkjaa.E
