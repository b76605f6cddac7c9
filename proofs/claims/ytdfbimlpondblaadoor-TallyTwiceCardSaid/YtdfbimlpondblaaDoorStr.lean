/-
  The logic over texts, and what names are, plainly.
-/
import Derived.Test.YtdfbimlpondblaaDoorRel
import Derived.Test.YtdfbimlpondblaaDoorHas
import Derived.Test.YtdfbimlpondblaaDoorArr
import Derived.Laws.Strings
import Derived.Laws.Concat
namespace Go.Proofs.YtdfbimlpondblaaDoor.M
set_option linter.unusedVariables false
abbrev Tx := ByteArray
def byteAt (s : Tx) (i : Int) : Int := ((s.data.toList.getD i.toNat 0).toNat : Int)
def letterB (c : Int) : Bool := decide (97 ≤ c ∧ c ≤ 122)
def goesB (c : Int) : Bool := decide ((97 ≤ c ∧ c ≤ 122) ∨ (48 ≤ c ∧ c ≤ 57) ∨ c = 95)
def nameR (s : Tx) : Bool := decide (1 ≤ s.size ∧ s.size ≤ 16) && letterB (byteAt s 0) && (upto s.size).all fun i => goesB (byteAt s i)
def findV (P : Int → Bool) (n : Int) : Int := if (firstV P n).2 then (firstV P n).1 else -1
abbrev tx0 : Tx := ⟨#[]⟩
def nfind (l : List Tx) (s : Tx) : Int := findV (fun i => decide (l.getD i.toNat tx0 = s)) l.length
theorem getD_at {α : Type} {l : List α} {d : α} {i : Int} (h0 : 0 ≤ i) (h : i < l.length) : l[i.toNat]? = some (l.getD i.toNat d) := by
  rw [List.getD_eq_getElem?_getD, List.getElem?_eq_getElem (by omega)]; rfl
def twice (l : List Tx) : Int := findV (fun i => decide (nfind l (l.getD i.toNat tx0) < i)) l.length
def sameN (a b : List Tx) : Bool := decide (a = b)
end Go.Proofs.YtdfbimlpondblaaDoor.M
namespace Go.Proofs.YtdfbimlpondblaaDoor.E
open Go Go.RowKit Go.Proofs.YtdfbimlpondblaaDoor.M
set_option linter.unusedVariables false
abbrev S (s : Tx) : Value := .string s
abbrev txL (l : List Tx) : List Value := l.map Value.string
theorem txL_at {l : List Tx} {k : Int} (h : 0 ≤ k ∧ k < l.length) : (txL l)[k.toNat * 1]? = some (S (l.getD k.toNat tx0)) := by
  rw [Nat.mul_one, List.getElem?_map, getD_at h.1 h.2]; rfl
section runs
variable {P : Program} {σ : Env} {w : World} {dst : Option Tmp} {ty t u : TypeId} {pos : String} {aft : Array Edge} {g : Option (Nat × Bool)} {x y : Operand} {a b : Tx} {k : IntKind} {i : Int}
end runs
end Go.Proofs.YtdfbimlpondblaaDoor.E
