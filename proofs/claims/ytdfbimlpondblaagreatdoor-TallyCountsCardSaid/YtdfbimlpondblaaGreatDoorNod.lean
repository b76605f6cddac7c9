/-
  Nodes, plainly: constants, and texts.
-/
import Derived.Test.YtdfbimlpondblaaGreatDoorScp
import Derived.Test.YtdfbimlpondblaaGreatDoorRec
import Derived.Lib.AppendStr
import Derived.Laws.BytesArg
namespace Go.Proofs.YtdfbimlpondblaaGreatDoor.E
open Go Go.RowKit Go.Proofs.YtdfbimlpondblaaGreatDoor.M
set_option linter.unusedVariables false
def pw0 : Pw := (wd0, wd0)
def scpL (s : Scp) : List Value := [s.lv, s.vv]
def scp0 : Scp := ⟨.slice none 0 0, [], .slice none 0 0, []⟩
def node0 : NodeR := .mk 0 0 tx0 (.slice none 0 0) [] (.slice none 0 0) []
theorem NodeV.each {K : Vu} {n : NodeR} (h : NodeV K n) : ∀ x ∈ n.kids, NodeV K x := by cases h; assumption
theorem NodeV.at {K : Vu} {n : NodeR} (h : NodeV K n) {k : Int} (h0 : 0 ≤ k) (h1 : k < n.kids.length) : NodeV K (n.kids.getD k.toNat node0) := h.each _ (List.mem_of_getElem? (getD_at (d := node0) h0 h1))
theorem NodeV.mono {K K' : Vu} (hl : Le K K') {n : NodeR} (h : NodeV K n) : NodeV K' n := by
  induction h with
  | mk hn hk _ ih => exact .mk (hn.mono hl) (hk.mono hl) ih
def cmd0 : CmdR := ⟨0, 0, wd0, .slice none 0 0, [], .slice none 0 0, [], 0, node0, node0⟩
theorem CmdV.mono {K K' : Vu} {c : CmdR} (h : CmdV K c) (hl : Le K K') : CmdV K' c := ⟨h.names.mono hl, h.pairs.mono hl, NodeV.mono hl h.left, NodeV.mono hl h.right⟩
structure NodesV (K : Vu) (l : List NodeR) : Prop where
  each : ∀ x ∈ l, NodeV K x
theorem NodesV.mono {K K' : Vu} {l : List NodeR} (h : NodesV K l) (hl : Le K K') : NodesV K' l := ⟨fun x hx => NodeV.mono hl (h.each x hx)⟩
theorem NodesV.at {K : Vu} {l : List NodeR} (h : NodesV K l) {k : Int} (h0 : 0 ≤ k) (h1 : k < l.length) : NodeV K (l.getD k.toNat node0) := h.each _ (List.mem_of_getElem? (getD_at (d := node0) h0 h1))
def wordsR (l : List Wd) : Bool := l.all fun x => nameR x.text
end Go.Proofs.YtdfbimlpondblaaGreatDoor.E
namespace Go.Proofs.YtdfbimlpondblaaGreatDoor.E
open Go Go.RowKit Go.Proofs.YtdfbimlpondblaaGreatDoor.M
set_option linter.unusedVariables false
abbrev byL (s : Tx) : List Value := Go.Lib.strCells s
theorem tx_size_app (a b : Tx) : (a ++ b).size = a.size + b.size := ByteArray.size_append
def tc (c : UInt8) : Tx := ⟨#[c]⟩
section
variable {P : Program} {w0 w : World} {L : List Ent}
variable {n : Nat} {ops : Array Oper} {k : K} {rest l : List Oper} {σ : Env} {op : Op} {ty : TypeId} {pos : String} {aft : Array Edge} {d : Nat} {x y : Operand} {dst : Option Tmp} {g : Option (Nat × Bool)}
variable {fuel i : Nat} {listed : Array Bool} {L' : List Ent}
end
end Go.Proofs.YtdfbimlpondblaaGreatDoor.E
namespace Go.Proofs.YtdfbimlpondblaaGreatDoor.E
open Go Go.RowKit Go.Proofs.YtdfbimlpondblaaGreatDoor.M
set_option linter.unusedVariables false
inductive Nd where
  | mk (kind place : Int) (text : Tx) (names : List Wd) (kids : List Nd)
def Nd.kind : Nd → Int
  | .mk k _ _ _ _ => k
def Nd.place : Nd → Int
  | .mk _ p _ _ _ => p
def Nd.text : Nd → Tx
  | .mk _ _ t _ _ => t
def Nd.names : Nd → List Wd
  | .mk _ _ _ n _ => n
def Nd.kids : Nd → List Nd
  | .mk _ _ _ _ k => k
def nd0 : Nd := .mk 0 0 tx0 [] []
theorem nd_ind {C : Nd → Prop} (h : ∀ n, (∀ x ∈ n.kids, C x) → C n) (n : Nd) : C n := h n fun x hx => nd_ind h x
termination_by SizeOf.sizeOf n
decreasing_by
  cases n
  simp only [Nd.kids] at hx
  have := List.sizeOf_lt_of_mem hx
  simp only [Nd.mk.sizeOf_spec]
  omega
def NodeR.nd : NodeR → Nd
  | .mk k p t _ n _ ks => .mk k p t n (ks.attach.map fun x => x.1.nd)
termination_by n => SizeOf.sizeOf n
decreasing_by
  have := List.sizeOf_lt_of_mem x.2
  simp only [NodeR.mk.sizeOf_spec]
  omega
/-! ### Constants -/
def ruleB (k : Nd) : Bool := decide (k.kind = 6) && nameR k.text && wordsR k.names && decide (k.kids.length = 0)
def constB : Nd → Bool
  | .mk kind _ text names kids =>
    if kind = 2 then nameR text && decide (names.length = 0 ∧ kids.length = 0)
    else if kind = 3 then decide (text = tx0) && wordsR names && decide (kids.length = 0)
    else if kind = 4 then decide (text = tx0) && decide (names.length = 0) && decide (0 < kids.length) && kids.attach.all fun x => constB x.1
    else if kind = 5 then decide (text = tx0) && decide (names.length = 0) && kids.all ruleB
    else false
termination_by n => SizeOf.sizeOf n
decreasing_by
  have := List.sizeOf_lt_of_mem x.2
  simp only [Nd.mk.sizeOf_spec]
  omega
/-! ### Texts -/
def commasF : List Tx → Tx
  | [] => tx0
  | x :: l => l.foldl (fun a y => a ++ tc 44 ++ y) x
def namesT (l : List Wd) : Tx := commasF (l.map Wd.text)
def textF : Nd → Tx
  | .mk kind _ text names kids =>
    if kind = 1 ∨ kind = 2 then text
    else if kind = 3 then tc 123 ++ namesT names ++ tc 125
    else if kind = 4 then tc 40 ++ commasF (kids.attach.map fun x => textF x.1) ++ tc 41
    else if kind = 5 then tc 91 ++ commasF (kids.attach.map fun x => textF x.1) ++ tc 93
    else if kind = 6 then text ++ ⟨#[58, 123]⟩ ++ namesT names ++ tc 125
    else tx0
termination_by n => SizeOf.sizeOf n
decreasing_by
  all_goals
    have := List.sizeOf_lt_of_mem x.2
    simp only [Nd.mk.sizeOf_spec]
    omega
theorem text_eq (n : Nd) : textF n = if n.kind = 1 ∨ n.kind = 2 then n.text
    else if n.kind = 3 then tc 123 ++ namesT n.names ++ tc 125
    else if n.kind = 4 then tc 40 ++ commasF (n.kids.map textF) ++ tc 41
    else if n.kind = 5 then tc 91 ++ commasF (n.kids.map textF) ++ tc 93
    else if n.kind = 6 then n.text ++ ⟨#[58, 123]⟩ ++ namesT n.names ++ tc 125
    else tx0 := by
  cases n with
  | mk k p t names kids =>
  have h : (kids.attach.map fun x => textF x.1) = kids.map textF := by simp
  rw [textF, h]; rfl
section
variable {n : NodeR}
end
end Go.Proofs.YtdfbimlpondblaaGreatDoor.E
