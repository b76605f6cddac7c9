/-
  How scopes, as arguments, are opened.
-/
import Derived.Test.YtieckcbckgalhaaDoorScp
import Derived.Test.YtieckcbckgalhaaDoorSho
namespace Go.Proofs.YtieckcbckgalhaaDoor.E
open Go Go.RowKit Go.ChangeShapes Go.WideShapes Go.ChangeAt Go.Deep Go.Proofs.YtieckcbckgalhaaDoor.M
set_option linter.unusedVariables false
structure VarTT (P : Program) (t tx ti : TypeId) : Prop where
  u : ∃ f0 f1 f2 : Field, P.underlying t = some (.struct #[f0, f1, f2]) ∧ (f0.type = tx ∧ f0.offset = 0) ∧ (f1.type = ti ∧ f1.offset = 1) ∧ (f2.type = ti ∧ f2.offset = 2)
  x : P.underlying tx = some .string
  cx : P.cellsOf tx = 1
  i : P.underlying ti = some (.int .i64)
  ci : P.cellsOf ti = 1
  z : P.cellsOf t = 3
structure FltTT (P : Program) (t ti : TypeId) : Prop where
  u : ∃ f0 f1 : Field, P.underlying t = some (.struct #[f0, f1]) ∧ (f0.type = ti ∧ f0.offset = 0) ∧ (f1.type = ti ∧ f1.offset = 1)
  i : P.underlying ti = some (.int .i64)
  ci : P.cellsOf ti = 1
  z : P.cellsOf t = 2
structure LatTT (P : Program) (t tsh tb tfs tf tk ts tx tr ti ta te : TypeId) : Prop where
  s : ShpTT P tsh tb tfs tf tk ts tx tr ti ta te
  u : ∃ f0 f1 : Field, P.underlying t = some (.struct #[f0, f1]) ∧ (f0.type = tx ∧ f0.offset = 0) ∧ (f1.type = tsh ∧ f1.offset = 1)
  z : P.cellsOf t = 3
structure ScpTT (P : Program) (t tls tvs tv tl tsh tb tfs tf tk ts tx tr ti ta te : TypeId) : Prop where
  l : LatTT P tl tsh tb tfs tf tk ts tx tr ti ta te
  v : VarTT P tv tx ti
  u : ∃ f0 f1 : Field, P.underlying t = some (.struct #[f0, f1]) ∧ (f0.type = tls ∧ f0.offset = 0) ∧ (f1.type = tvs ∧ f1.offset = 1)
  ls : P.underlying tls = some (.slice tl)
  vs : P.underlying tvs = some (.slice tv)
  cls : P.cellsOf tls = 1
  cvs : P.cellsOf tvs = 1
  z : P.cellsOf t = 2
section
variable {H : Type} {enc : TypeId × Value → H} {P : Program} {w : World} {base : Nat} {sp : Nat → Bool} {held : Bool} {fuel : Nat} {cs : List Value} {x : DataW H × List MemPlace} {t tls tvs tv tl tsh tb tfs tf tk ts tx tr ti ta te : TypeId}
end
end Go.Proofs.YtieckcbckgalhaaDoor.E
