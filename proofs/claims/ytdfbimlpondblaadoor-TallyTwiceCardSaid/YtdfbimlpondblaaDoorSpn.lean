/-
  Constants of shapes: what the walks of reading and writing lean on.
-/
import Derived.Test.YtdfbimlpondblaaDoorSpl
import Derived.Test.YtdfbimlpondblaaDoorRec
namespace Go.Proofs.YtdfbimlpondblaaDoor.E
open Go Go.RowKit Go.Proofs.YtdfbimlpondblaaDoor.M
set_option linter.unusedVariables false
/-! ### Nodes of elements lead back -/
/-! ### What nodes tell are elements -/
end Go.Proofs.YtdfbimlpondblaaDoor.E
namespace Go.Proofs.YtdfbimlpondblaaDoor.E
open Go Go.RowKit Go.Proofs.YtdfbimlpondblaaDoor.M
set_option linter.unusedVariables false
abbrev By := List UInt8
def bl (t : Tx) : By := t.data.toList
def goU (b : UInt8) : Bool := goesB (b.toNat : Int)
def Ds (x : By) : Prop := ∀ b r, x = b :: r → goU b = false
theorem Ds.nil : Ds [] := fun b r h => by cases h
theorem Ds.cons {d : UInt8} (h : goU d = false) (x : By) : Ds (d :: x) := fun b r e => by cases e; exact h
/-! ### Lists with commas -/
def comT (l : List By) : By := l.flatMap fun y => 44 :: y
def comL : List By → By
  | [] => []
  | x :: l => x ++ comT l
section
variable {Q : By → Prop} (hQ : ∀ u v, Q u → Q v → ∀ x y, Ds x → Ds y → u ++ x = v ++ y → u = v ∧ x = y) {d : UInt8} (hd : goU d = false) (h44 : d ≠ 44)
include hQ hd h44
end
/-! ### Texts of nodes -/
def wd_ (t : Tx) : Wd := ⟨t, 0⟩
def Rn (n : Nd) : Prop := ∃ (t : Tx) (ws : List Tx), n = .mk 6 0 t (ws.map wd_) [] ∧ nameR t = true ∧ ∀ u ∈ ws, nameR u = true
def wtx (a : El) : List Fc → Nat → List By
  | [], _ => []
  | f :: r, i => bl (textF (constF f (a i))) :: wtx a r (i + 1)
end Go.Proofs.YtdfbimlpondblaaDoor.E
namespace Go.Proofs.YtdfbimlpondblaaDoor.E
open Go Go.RowKit Go.Proofs.YtdfbimlpondblaaDoor.M
set_option linter.unusedVariables false
section
variable {P : Program} {fn : Func} {w0 w : World} {L : List Ent} {i j p p2 t : Nat} {q : Value → World → Prop} {d d2 : TypeDesc} {c c2 : Array Value} {ty ty2 e e2 : TypeId} {b b2 : Nat} {fr fr2 : Nat × Nat} {σ : Env} {v : Value}
theorem outCT (h : fn.results = #[.cell p ty, .tmp t]) (hp : σ p = .pointer (some ⟨b, 0, none⟩)) (ht : σ t = v) (hH : Hp w0 w L)
    (hi : L[i]? = some (.blk b (.cells c e fr))) (hu : P.underlying ty = some d) (hd : d.isRow = true) (hz : (P.info? ty).map (·.size) = some c.size) (hq : q (.tuple #[.agg c, v]) w) : Out P fn q σ w :=
  fun n a ha => ⟨_, by
    have h1 : a.tmps[p]?.getD undef = .pointer (some ⟨b, 0, none⟩) := by have := ha.get p; rw [hp] at this; simpa using this
    have h2 : a.tmps[t]?.getD undef = v := by have := ha.get t; rw [ht] at this; simpa using this
    simp [results, h, h1, h2, asAddr, run_loadVar_row (P := P) w b e ty c fr d (hH.blk hi) hu (by cases d <;> simp_all) hz], hq⟩
end
end Go.Proofs.YtdfbimlpondblaaDoor.E
namespace Go.Proofs.YtdfbimlpondblaaDoor.E
open Go Go.RowKit Go.Proofs.YtdfbimlpondblaaDoor.M
set_option linter.unusedVariables false
inductive NodeZ : NodeR → Prop
  | mk {kind place : Int} {text : Tx} {nv : Value} {names : List Wd} {kv : Value} {kids : List NodeR} (hl : names.length ≤ 5864062014634) (each : ∀ x ∈ kids, NodeZ x) : NodeZ (.mk kind place text nv names kv kids)
theorem NodeZ.len {n : NodeR} (h : NodeZ n) : n.names.length ≤ 5864062014634 := by cases h; assumption
theorem NodeZ.each {n : NodeR} (h : NodeZ n) : ∀ x ∈ n.kids, NodeZ x := by cases h; assumption
/-! ### The parts of a constant -/
def partsR (s : Shp) (n : NodeR) : List NodeR := if s.tuple then n.kids else [n]
def partB (s : Shp) (n : NodeR) : Bool := !s.tuple || decide (n.kind = 4 ∧ n.kids.length = s.facs.length)
def zipF (s : Shp) (n : NodeR) : List (Fc × Nd) := s.sh.facs.zip (partsF s.sh n.nd)
section
variable {s : Shp} {n : NodeR}
end
section ref
variable {l : List (Fc × Nd)} {k : Int} {e : El} {f : Fc} {m : Nd} (h0 : 0 ≤ k) (h1 : k < l.length) (hm : elemL l 0 el0 = elemL (l.drop k.toNat) k.toNat e) (hw : l.getD k.toNat (fc0, nd0) = (f, m))
include h0 h1 hm hw
end ref
/-! ### The reference's look at nodes -/
def allP (q : Int) (x : NodeR) : Bool := if q = 1 then constB x.nd else ruleB x.nd
section
variable {n : NodeR}
end
end Go.Proofs.YtdfbimlpondblaaDoor.E
