/-
  Nodes are compared; what readings come to; the chapter's example.
-/
import Derived.Test.YtphknfjaellkjaaSpx
namespace Go.Proofs.Ytphknfjaellkjaa.E
open Go Go.RowKit Go.Proofs.Ytphknfjaellkjaa.M
set_option linter.unusedVariables false
instance : DecidableEq Wd := fun a b => if h : a.text = b.text ∧ a.place = b.place then .isTrue (by cases a; cases b; cases h.1; cases h.2; rfl) else .isFalse (fun e => h (by rw [e]; exact ⟨rfl, rfl⟩))
/-! ### The example -/
def exPQ : List Tx := [⟨#[112]⟩, ⟨#[113]⟩]
def exG : Sh := ⟨false, [⟨3, exPQ, twoR⟩]⟩
def exR : Nd := .mk 6 0 ⟨#[112]⟩ [⟨⟨#[113]⟩, 0⟩] []
def exNd : Nd := .mk 5 0 tx0 [] [exR]
def exOk (x : Ex El) : Bool := match x with
  | .ok e => decide (eqE e (putE el0 0 1#64))
  | .error _ => false
end Go.Proofs.Ytphknfjaellkjaa.E
