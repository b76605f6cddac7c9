/-
  Assignments form a lattice: least, meet, order; and their texts tell them apart.
-/
import Derived.Test.YtdfbimlpondblaaDoorAsn
namespace Go.Proofs.YtdfbimlpondblaaDoor.E
open Go Go.RowKit Go.Proofs.YtdfbimlpondblaaDoor.M
set_option linter.unusedVariables false
set_option linter.unusedSimpArgs false
def Sorted (l : List ValR) : Prop := l.Pairwise fun a b => lessT a.name b.name = true
/-! ### Whole assignments -/
def shOf (s : Sc) (v : VarR) : Sh := s.lats.getD v.lat.toNat ⟨false, []⟩
section
variable {s : Sc} {a b c : As} (ha : rightA s a = true) (hb : rightA s b = true)
include ha hb
end
/-! ### Texts -/
def joinF (b : Tx) : List Tx → Tx
  | [] => tx0
  | x :: l => l.foldl (fun a y => a ++ b ++ y) x
def fieldT (s : Sh) (v : ValR) : Tx := v.name ++ tc 61 ++ spellF s v.el
def rowT (s : Sh) (l : List ValR) : Tx := tc 91 ++ joinF (tc 44) (l.map (fieldT s)) ++ tc 93
def varT (s : Sc) (v : VarR) (e : El) (l : List ValR) : Tx := v.name ++ tc 61 ++ (if v.kind = 1 then spellF (shOf s v) e else rowT (shOf s v) l)
def varsT (s : Sc) (a : As) (k : Int) : List Tx := (upto k).map fun i => varT s (s.vars.getD i.toNat var0) (a.labels.getD i.toNat el0) (a.rows.getD i.toNat [])
def textA (s : Sc) (a : As) : Tx := if rightA s a then joinF (tc 32) (varsT s a s.vars.length) else tx0
def comS (l : List By) : By := l.flatMap fun y => 32 :: y
def PT (s : Sc) (p : VarR × El × List ValR) : By := bl (varT s p.1 p.2.1 p.2.2)
def trip (s : Sc) (a : As) : List (VarR × El × List ValR) := (upto s.vars.length).map fun i => (s.vars.getD i.toNat var0, a.labels.getD i.toNat el0, a.rows.getD i.toNat [])
end Go.Proofs.YtdfbimlpondblaaDoor.E
