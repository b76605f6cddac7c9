/-
  Assertions: their records, with headers.
-/
import Derived.Test.YtdfbimlpondblaaDoorAst
namespace Go.Proofs.YtdfbimlpondblaaDoor.E
open Go Go.RowKit Go.Proofs.YtdfbimlpondblaaDoor.M
set_option linter.unusedVariables false
set_option linter.unusedSimpArgs false
def latOk (l : LatR) : Bool := nameR l.name && shR l.shp.sh
def varOk (n : Nat) (v : VarR) : Bool := nameR v.name && decide ((v.kind = 1 ∨ v.kind = 2) ∧ 0 ≤ v.lat ∧ v.lat < n)
def namesS (s : Scp) : List Tx := s.lats.map LatR.name ++ s.vars.map VarR.name
def rightS (s : Scp) : Bool := decide (s.lats.length ≤ 16 ∧ s.vars.length ≤ 64) && s.lats.all latOk && s.vars.all (varOk s.lats.length) && decide (twice (namesS s) < 0)
section
variable {s : Scp}
end
end Go.Proofs.YtdfbimlpondblaaDoor.E
namespace Go.Proofs.YtdfbimlpondblaaDoor.M
open Go
set_option linter.unusedVariables false
set_option linter.unusedSimpArgs false
structure InsR where
  op : Int
  n : Int
  c : El
structure AtomR where
  var : Int
  c : El
structure FieldR where
  name : Tx
  at_ : AtomR
def ins0 : InsR := ⟨0, 0, el0⟩
def atom0 : AtomR := ⟨0, el0⟩
def field0 : FieldR := ⟨tx0, atom0⟩
end Go.Proofs.YtdfbimlpondblaaDoor.M
namespace Go.Proofs.YtdfbimlpondblaaDoor.E
open Go Go.RowKit Go.Proofs.YtdfbimlpondblaaDoor.M
set_option linter.unusedVariables false
def insL (x : InsR) : List Value := I x.op :: I x.n :: elL x.c
theorem insL_len (x : InsR) : (insL x).length = 10 := by simp [insL, elL_len]
def atomL (a : AtomR) : List Value := I a.var :: elL a.c
def fieldL (f : FieldR) : List Value := S f.name :: atomL f.at_
structure RowR where
  fv : Value
  fields : List FieldR
  tail : Int
def row0 : RowR := ⟨.slice none 0 0, [], 0⟩
def rtmL (r : RowR) : List Value := [r.fv, I r.tail]
structure AssR where
  op : Int
  lat : Int
  cv : Value
  code : List InsR
  to : AtomR
  a : RowR
  b : RowR
  var : Int
  field : Tx
def ass0 : AssR := ⟨0, 0, .slice none 0 0, [], atom0, row0, row0, 0, tx0⟩
def assL (x : AssR) : List Value := I x.op :: I x.lat :: x.cv :: (atomL x.to ++ [x.a.fv, I x.a.tail, x.b.fv, I x.b.tail, I x.var, S x.field])
structure ProbR where
  s : Scp
  av : Value
  asserts : List AssR
def probL (p : ProbR) : List Value := [p.s.lv, p.s.vv, p.av]
structure RowV (K : Vu) (r : RowR) : Prop where
  fields : SlV K r.fv 10 r.fields.length (r.fields.flatMap fieldL)
structure AssV (K : Vu) (x : AssR) : Prop where
  code : SlV K x.cv 10 x.code.length (x.code.flatMap insL)
  a : RowV K x.a
  b : RowV K x.b
structure ProbV (K : Vu) (p : ProbR) : Prop where
  s : ScpV K p.s
  asserts : SlV K p.av 18 p.asserts.length (p.asserts.flatMap assL)
  each : ∀ x ∈ p.asserts, AssV K x
theorem RowV.mono {K K' : Vu} {r : RowR} (h : RowV K r) (hl : Le K K') : RowV K' r := ⟨h.fields.mono hl⟩
theorem AssV.mono {K K' : Vu} {x : AssR} (h : AssV K x) (hl : Le K K') : AssV K' x := ⟨h.code.mono hl, h.a.mono hl, h.b.mono hl⟩
theorem ProbV.mono {K K' : Vu} {p : ProbR} (h : ProbV K p) (hl : Le K K') : ProbV K' p := ⟨h.s.mono hl, h.asserts.mono hl, fun x hx => (h.each x hx).mono hl⟩
theorem ProbV.at {K : Vu} {p : ProbR} (h : ProbV K p) {k : Int} (h0 : 0 ≤ k) (h1 : k < p.asserts.length) : AssV K (p.asserts.getD k.toNat ass0) := h.each _ (List.mem_of_getElem? (getD_at (d := ass0) h0 h1))
theorem el_take (e : El) : (elL e).take 8 = elL e := List.take_of_length_le (by rw [elL_len]; omega)
theorem ins_elB (x : InsR) : ((insL x).toArray.toList.drop 2).take 8 = elL x.c := el_take x.c
theorem insL_one (x : InsR) : ∀ u ∈ (insL x).toArray, u.oneCell' = true := by
  intro u hu; simp [insL] at hu
  rcases hu with rfl | rfl | hu
  · rfl
  · rfl
  · exact elL_one x.c u hu
section
variable {P : Program} {σ : Env} {w : World} {dst : Option Tmp} {ty t e : TypeId} {pos : String} {aft : Array Edge} {g : Option (Nat × Bool)} {x : Operand} {b o : Nat} {fr : Nat × Nat}
theorem run_ldElR {d : TypeDesc} {cs : Array Value} {el : El} (hu : P.underlying t = some d) (hd : d.isRow = true) (hi : (P.info? t).map (·.size) = some 8) (hx : ev σ x = .pointer (some ⟨b, o, none⟩)) (hg : w.heap[b]? = some (.cells cs e fr)) (hc : (cs.toList.drop o).take 8 = elL el) :
    (execOp (ev σ) ⟨dst, .load t x, ty, pos, aft, g⟩).run P w = .ok (.value (.agg (elC el))) w := by
  rw [elC_def]
  exact run_ldSub (sub := elL el) hu hd (by rw [elL_len]; exact hi) hx hg (by rw [elL_len]; exact hc)
end
end Go.Proofs.YtdfbimlpondblaaDoor.E
