/-
  Scopes, commands, trees: what the walks lean on.
-/
import Derived.Test.YtieckcbckgalhaaGreatDoorScp
namespace Go.Proofs.YtieckcbckgalhaaGreatDoor.E
open Go Go.RowKit Go.Proofs.YtieckcbckgalhaaGreatDoor.M
set_option linter.unusedVariables false
def pw0 : Pw := (wd0, wd0)
def scpL (s : Scp) : List Value := [s.lv, s.vv]
def scp0 : Scp := ⟨.slice none 0 0, [], .slice none 0 0, []⟩
theorem one_slv {K : Vu} {v : Value} {sz n : Nat} {c : List Value} (h : SlV K v sz n c) : v.oneCell' = true ∧ v.cells = #[v] := one_slice h
theorem scpL_one {K : Vu} {s : Scp} (h : ScpV K s) : ∀ u ∈ (scpL s).toArray, u.oneCell' = true := by
  intro u hu
  simp [scpL] at hu
  rcases hu with rfl | rfl
  · exact (one_slice h.lats).1
  · exact (one_slice h.vars).1
def node0 : NodeR := .mk 0 0 tx0 (.slice none 0 0) [] (.slice none 0 0) []
theorem NodeV.names_ {K : Vu} {n : NodeR} (h : NodeV K n) : SlV K n.nv 2 n.names.length (n.names.flatMap wdL) := by cases h; assumption
theorem NodeV.kids_ {K : Vu} {n : NodeR} (h : NodeV K n) : SlV K n.kv 5 n.kids.length (n.kids.flatMap nodeL) := by cases h; assumption
theorem NodeV.each {K : Vu} {n : NodeR} (h : NodeV K n) : ∀ x ∈ n.kids, NodeV K x := by cases h; assumption
theorem NodeV.at {K : Vu} {n : NodeR} (h : NodeV K n) {k : Int} (h0 : 0 ≤ k) (h1 : k < n.kids.length) : NodeV K (n.kids.getD k.toNat node0) := h.each _ (List.mem_of_getElem? (getD_at (d := node0) h0 h1))
theorem NodeV.mono {K K' : Vu} (hl : Le K K') {n : NodeR} (h : NodeV K n) : NodeV K' n := by
  induction h with
  | mk hn hk _ ih => exact .mk (hn.mono hl) (hk.mono hl) ih
theorem nodeL_one {K : Vu} {n : NodeR} (h : NodeV K n) : ∀ u ∈ (nodeL n).toArray, u.oneCell' = true := by
  intro u hu
  simp [nodeL] at hu
  rcases hu with rfl | rfl | rfl | rfl | rfl
  · rfl
  · rfl
  · rfl
  · exact (one_slice h.names_).1
  · exact (one_slice h.kids_).1
def cmd0 : CmdR := ⟨0, 0, wd0, .slice none 0 0, [], .slice none 0 0, [], 0, node0, node0⟩
theorem CmdV.mono {K K' : Vu} {c : CmdR} (h : CmdV K c) (hl : Le K K') : CmdV K' c := ⟨h.names.mono hl, h.pairs.mono hl, NodeV.mono hl h.left, NodeV.mono hl h.right⟩
theorem node_ind {C : NodeR → Prop} (h : ∀ n, (∀ x ∈ n.kids, C x) → C n) (n : NodeR) : C n := h n fun x hx => node_ind h x
termination_by SizeOf.sizeOf n
decreasing_by
  cases n
  simp only [NodeR.kids] at hx
  have := List.sizeOf_lt_of_mem hx
  simp only [NodeR.mk.sizeOf_spec]
  omega
structure NodesV (K : Vu) (l : List NodeR) : Prop where
  each : ∀ x ∈ l, NodeV K x
theorem NodesV.mono {K K' : Vu} {l : List NodeR} (h : NodesV K l) (hl : Le K K') : NodesV K' l := ⟨fun x hx => NodeV.mono hl (h.each x hx)⟩
theorem NodesV.at {K : Vu} {l : List NodeR} (h : NodesV K l) {k : Int} (h0 : 0 ≤ k) (h1 : k < l.length) : NodeV K (l.getD k.toNat node0) := h.each _ (List.mem_of_getElem? (getD_at (d := node0) h0 h1))
def wordsR (l : List Wd) : Bool := l.all fun x => nameR x.text
end Go.Proofs.YtieckcbckgalhaaGreatDoor.E
