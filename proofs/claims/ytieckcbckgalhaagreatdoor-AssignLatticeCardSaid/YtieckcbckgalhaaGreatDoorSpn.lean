/-
  Constants of shapes: what the walks of reading and writing lean on.
-/
import Derived.Test.YtieckcbckgalhaaGreatDoorSpt
import Derived.Test.YtieckcbckgalhaaGreatDoorOut
namespace Go.Proofs.YtieckcbckgalhaaGreatDoor.E
open Go Go.RowKit Go.Proofs.YtieckcbckgalhaaGreatDoor.M
set_option linter.unusedVariables false
inductive NodeZ : NodeR → Prop
  | mk {kind place : Int} {text : Tx} {nv : Value} {names : List Wd} {kv : Value} {kids : List NodeR} (hl : names.length ≤ 5864062014634) (each : ∀ x ∈ kids, NodeZ x) : NodeZ (.mk kind place text nv names kv kids)
theorem NodeZ.len {n : NodeR} (h : NodeZ n) : n.names.length ≤ 5864062014634 := by cases h; assumption
theorem NodeZ.each {n : NodeR} (h : NodeZ n) : ∀ x ∈ n.kids, NodeZ x := by cases h; assumption
theorem NodeZ.kid {n : NodeR} (h : NodeZ n) : ∀ x ∈ n.kids, x.names.length ≤ 5864062014634 := fun x hx => (h.each x hx).len
/-! ### The parts of a constant -/
def partsR (s : Shp) (n : NodeR) : List NodeR := if s.tuple then n.kids else [n]
def partB (s : Shp) (n : NodeR) : Bool := !s.tuple || decide (n.kind = 4 ∧ n.kids.length = s.facs.length)
def zipF (s : Shp) (n : NodeR) : List (Fc × Nd) := s.sh.facs.zip (partsF s.sh n.nd)
section
variable {s : Shp} {n : NodeR}
end
section ref
variable {l : List (Fc × Nd)} {k : Int} {e : El} {f : Fc} {m : Nd} (h0 : 0 ≤ k) (h1 : k < l.length) (hm : elemL l 0 el0 = elemL (l.drop k.toNat) k.toNat e) (hw : l.getD k.toNat (fc0, nd0) = (f, m))
include h0 h1 hm hw
end ref
/-! ### The reference's look at nodes -/
def allP (q : Int) (x : NodeR) : Bool := if q = 1 then constB x.nd else ruleB x.nd
section
variable {n : NodeR}
end
end Go.Proofs.YtieckcbckgalhaaGreatDoor.E
