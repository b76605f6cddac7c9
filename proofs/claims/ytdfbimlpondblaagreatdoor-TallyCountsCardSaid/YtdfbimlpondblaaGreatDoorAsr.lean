/-
  Assignments with their headers: how they are read, compared and opened.
-/
import Derived.Test.YtdfbimlpondblaaGreatDoorAsp
import Derived.Test.YtdfbimlpondblaaGreatDoorMk
import Derived.Test.YtdfbimlpondblaaGreatDoorSpn
namespace Go.Proofs.YtdfbimlpondblaaGreatDoor.E
open Go Go.RowKit Go.Proofs.YtdfbimlpondblaaGreatDoor.M
set_option linter.unusedVariables false
set_option linter.unusedSimpArgs false
theorem elL_one (e : El) : ∀ u ∈ elL e, u.oneCell' = true := fun u hu => elC_one e u (by rw [elC_def]; simpa using hu)
theorem els_one (l : List El) : ∀ u ∈ l.flatMap elL, u.oneCell' = true := fun u hu => by
  rw [List.mem_flatMap] at hu
  obtain ⟨v, -, hu⟩ := hu
  exact elL_one v u hu
structure VrR where
  v : Value
  l : List ValR
def vr0 : VrR := ⟨.slice none 0 0, []⟩
abbrev rowsC (l : List VrR) : List Value := l.map VrR.v
structure RowsV (K : Vu) (l : List VrR) : Prop where
  each : ∀ r ∈ l, SlV K r.v 9 r.l.length (r.l.flatMap valL)
theorem RowsV.mono {K K' : Vu} {l : List VrR} (h : RowsV K l) (hl : Le K K') : RowsV K' l := ⟨fun r hr => (h.each r hr).mono hl⟩
theorem RowsV.at {K : Vu} {l : List VrR} (h : RowsV K l) {k : Int} (h0 : 0 ≤ k) (h1 : k < l.length) : SlV K (l.getD k.toNat vr0).v 9 (l.getD k.toNat vr0).l.length ((l.getD k.toNat vr0).l.flatMap valL) := h.each _ (List.mem_of_getElem? (getD_at (d := vr0) h0 h1))
theorem RowsV.nil (K : Vu) : RowsV K [] := ⟨fun r hr => by simp at hr⟩
theorem RowsV.snoc {K : Vu} {l : List VrR} {r : VrR} (h : RowsV K l) (hr : SlV K r.v 9 r.l.length (r.l.flatMap valL)) : RowsV K (l ++ [r]) := ⟨fun x hx => by
  rcases List.mem_append.1 hx with hx | hx
  · exact h.each x hx
  · rw [List.mem_singleton.1 hx]; exact hr⟩
structure Asg where
  lv : Value
  labels : List El
  rv : Value
  rows : List VrR
def asgL (a : Asg) : List Value := [a.lv, a.rv]
def asg0 : Asg := ⟨.slice none 0 0, [], .slice none 0 0, []⟩
def Asg.as (a : Asg) : As := ⟨a.labels, a.rows.map VrR.l⟩
structure AsgV (K : Vu) (a : Asg) : Prop where
  labels : SlV K a.lv 8 a.labels.length (a.labels.flatMap elL)
  rows : SlV K a.rv 1 a.rows.length (rowsC a.rows)
  each : RowsV K a.rows
theorem AsgV.mono {K K' : Vu} {a : Asg} (h : AsgV K a) (hl : Le K K') : AsgV K' a := ⟨h.labels.mono hl, h.rows.mono hl, h.each.mono hl⟩
theorem AsgV.at {K : Vu} {a : Asg} (h : AsgV K a) {k : Int} (h0 : 0 ≤ k) (h1 : k < a.rows.length) : SlV K (a.rows.getD k.toNat vr0).v 9 (a.rows.getD k.toNat vr0).l.length ((a.rows.getD k.toNat vr0).l.flatMap valL) := h.each.at h0 h1
structure Asg3 where
  a : Asg
  b : Asg
  c : Asg
def as3L (x : Asg3) : List Value := [x.a.lv, x.a.rv, x.b.lv, x.b.rv, x.c.lv, x.c.rv]
def as30 : Asg3 := ⟨asg0, asg0, asg0⟩
structure Asg3V (K : Vu) (x : Asg3) : Prop where
  a : AsgV K x.a
  b : AsgV K x.b
  c : AsgV K x.c
theorem Asg3V.mono {K K' : Vu} {x : Asg3} (h : Asg3V K x) (hl : Le K K') : Asg3V K' x := ⟨h.a.mono hl, h.b.mono hl, h.c.mono hl⟩
def Scp.sc (s : Scp) : Sc := ⟨s.lats.map fun l => l.shp.sh, s.vars⟩
section
variable {P : Program} {σ : Env} {w : World} {dst : Option Tmp} {ty t u e : TypeId} {pos : String} {aft : Array Edge} {g : Option (Nat × Bool)} {x y : Operand} {b : Nat} {fr : Nat × Nat}
end
theorem fldEl {P : Program} {d : Nat} {xs ys : Array Value} {f : Field} {a b : El} {e : TypeId} (hn : f.name ≠ "_") (T : ElT P f.type e) (ha : ∀ w, (isAgg f.type).run P w = .ok true w) (hs : ∀ w, (sizeOf f.type).run P w = .ok 8 w)
    (hx : xs.extract f.offset (f.offset + 8) = elC a) (hy : ys.extract f.offset (f.offset + 8) = elC b) : FldE P (d + 1 + 1) xs ys f (decide (eqE a b)) :=
  ⟨hn, .agg (elC a), .agg (elC b), fun w => by simp [part, ha, hs, hx], fun w => by simp [part, ha, hs, hy], fun w => by
    rw [elC_def, elC_def]; exact eqArr d a b T.u T.ue T.se T.ae⟩
end Go.Proofs.YtdfbimlpondblaaGreatDoor.E
