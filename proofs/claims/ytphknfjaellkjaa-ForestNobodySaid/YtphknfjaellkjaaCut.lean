/-
  Cuts: what a part of the code comes to is said once, however many orders it may be taken in.
-/
import Derived.Test.YtphknfjaellkjaaShr
namespace Go.Proofs.Ytphknfjaellkjaa.E
open Go Go.RowKit Go.Proofs.Ytphknfjaellkjaa.M
set_option linter.unusedVariables false
end Go.Proofs.Ytphknfjaellkjaa.E
