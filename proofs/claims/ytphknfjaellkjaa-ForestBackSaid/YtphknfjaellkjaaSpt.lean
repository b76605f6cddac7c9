/-
  Texts of constants: they tell elements apart, whatever stands behind them.
-/
import Derived.Test.YtphknfjaellkjaaSpl
namespace Go.Proofs.Ytphknfjaellkjaa.E
open Go Go.RowKit Go.Proofs.Ytphknfjaellkjaa.M
set_option linter.unusedVariables false
/-! ### Nodes of elements lead back -/
/-! ### What nodes tell are elements -/
end Go.Proofs.Ytphknfjaellkjaa.E
namespace Go.Proofs.Ytphknfjaellkjaa.E
open Go Go.RowKit Go.Proofs.Ytphknfjaellkjaa.M
set_option linter.unusedVariables false
abbrev By := List UInt8
def bl (t : Tx) : By := t.data.toList
def goU (b : UInt8) : Bool := goesB (b.toNat : Int)
def Ds (x : By) : Prop := ∀ b r, x = b :: r → goU b = false
theorem Ds.nil : Ds [] := fun b r h => by cases h
theorem Ds.cons {d : UInt8} (h : goU d = false) (x : By) : Ds (d :: x) := fun b r e => by cases e; exact h
/-! ### Lists with commas -/
def comT (l : List By) : By := l.flatMap fun y => 44 :: y
def comL : List By → By
  | [] => []
  | x :: l => x ++ comT l
section
variable {Q : By → Prop} (hQ : ∀ u v, Q u → Q v → ∀ x y, Ds x → Ds y → u ++ x = v ++ y → u = v ∧ x = y) {d : UInt8} (hd : goU d = false) (h44 : d ≠ 44)
include hQ hd h44
end
/-! ### Texts of nodes -/
def wd_ (t : Tx) : Wd := ⟨t, 0⟩
def Rn (n : Nd) : Prop := ∃ (t : Tx) (ws : List Tx), n = .mk 6 0 t (ws.map wd_) [] ∧ nameR t = true ∧ ∀ u ∈ ws, nameR u = true
def wtx (a : El) : List Fc → Nat → List By
  | [], _ => []
  | f :: r, i => bl (textF (constF f (a i))) :: wtx a r (i + 1)
end Go.Proofs.Ytphknfjaellkjaa.E
