/-
  Rows of bytes: texts are appended, and are made of them.
-/
import Derived.Test.YtphknfjaellkjaaScp
import Derived.Test.YtphknfjaellkjaaRec
import Derived.Lib.AppendStr
import Derived.Laws.BytesArg
namespace Go.Proofs.Ytphknfjaellkjaa.E
open Go Go.RowKit Go.Proofs.Ytphknfjaellkjaa.M
set_option linter.unusedVariables false
def pw0 : Pw := (wd0, wd0)
def scpL (s : Scp) : List Value := [s.lv, s.vv]
def scp0 : Scp := ⟨.slice none 0 0, [], .slice none 0 0, []⟩
def node0 : NodeR := .mk 0 0 tx0 (.slice none 0 0) [] (.slice none 0 0) []
theorem NodeV.each {K : Vu} {n : NodeR} (h : NodeV K n) : ∀ x ∈ n.kids, NodeV K x := by cases h; assumption
theorem NodeV.at {K : Vu} {n : NodeR} (h : NodeV K n) {k : Int} (h0 : 0 ≤ k) (h1 : k < n.kids.length) : NodeV K (n.kids.getD k.toNat node0) := h.each _ (List.mem_of_getElem? (getD_at (d := node0) h0 h1))
theorem NodeV.mono {K K' : Vu} (hl : Le K K') {n : NodeR} (h : NodeV K n) : NodeV K' n := by
  induction h with
  | mk hn hk _ ih => exact .mk (hn.mono hl) (hk.mono hl) ih
def cmd0 : CmdR := ⟨0, 0, wd0, .slice none 0 0, [], .slice none 0 0, [], 0, node0, node0⟩
theorem CmdV.mono {K K' : Vu} {c : CmdR} (h : CmdV K c) (hl : Le K K') : CmdV K' c := ⟨h.names.mono hl, h.pairs.mono hl, NodeV.mono hl h.left, NodeV.mono hl h.right⟩
structure NodesV (K : Vu) (l : List NodeR) : Prop where
  each : ∀ x ∈ l, NodeV K x
theorem NodesV.mono {K K' : Vu} {l : List NodeR} (h : NodesV K l) (hl : Le K K') : NodesV K' l := ⟨fun x hx => NodeV.mono hl (h.each x hx)⟩
theorem NodesV.at {K : Vu} {l : List NodeR} (h : NodesV K l) {k : Int} (h0 : 0 ≤ k) (h1 : k < l.length) : NodeV K (l.getD k.toNat node0) := h.each _ (List.mem_of_getElem? (getD_at (d := node0) h0 h1))
def wordsR (l : List Wd) : Bool := l.all fun x => nameR x.text
end Go.Proofs.Ytphknfjaellkjaa.E
namespace Go.Proofs.Ytphknfjaellkjaa.E
open Go Go.RowKit Go.Proofs.Ytphknfjaellkjaa.M
set_option linter.unusedVariables false
abbrev byL (s : Tx) : List Value := Go.Lib.strCells s
theorem tx_size_app (a b : Tx) : (a ++ b).size = a.size + b.size := ByteArray.size_append
def tc (c : UInt8) : Tx := ⟨#[c]⟩
section
variable {P : Program} {w0 w : World} {L : List Ent}
variable {n : Nat} {ops : Array Oper} {k : K} {rest l : List Oper} {σ : Env} {op : Op} {ty : TypeId} {pos : String} {aft : Array Edge} {d : Nat} {x y : Operand} {dst : Option Tmp} {g : Option (Nat × Bool)}
variable {fuel i : Nat} {listed : Array Bool} {L' : List Ent}
end
end Go.Proofs.Ytphknfjaellkjaa.E
