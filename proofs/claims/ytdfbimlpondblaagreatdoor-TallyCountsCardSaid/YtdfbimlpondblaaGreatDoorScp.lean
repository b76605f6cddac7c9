/-
  Scopes: their records, with headers, and what is plain about them.
-/
import Derived.Test.YtdfbimlpondblaaGreatDoorRec
namespace Go.Proofs.YtdfbimlpondblaaGreatDoor.M
open Go
set_option linter.unusedVariables false
structure VarR where
  name : Tx
  kind : Int
  lat : Int
deriving DecidableEq
structure Wd where
  text : Tx
  place : Int
structure Flt where
  cls : Int
  place : Int
deriving DecidableEq
def flt0 : Flt := ⟨0, 0⟩
def wd0 : Wd := ⟨tx0, 0⟩
def var0 : VarR := ⟨tx0, 0, 0⟩
def lessF (b f : Flt) : Flt := if f.cls ≠ 0 ∧ (b.cls = 0 ∨ f.cls < b.cls ∨ (f.cls = b.cls ∧ f.place < b.place)) then f else b
def leastTo (l : List Flt) (k : Int) : Flt := (l.take k.toNat).foldl lessF flt0
def textsF (l : List Wd) : List Tx := l.map Wd.text
end Go.Proofs.YtdfbimlpondblaaGreatDoor.M
namespace Go.Proofs.YtdfbimlpondblaaGreatDoor.E
open Go Go.RowKit Go.Proofs.YtdfbimlpondblaaGreatDoor.M
set_option linter.unusedVariables false
structure LatR where
  name : Tx
  shp : Shp
def lat0 : LatR := ⟨tx0, shp0⟩
def latL (l : LatR) : List Value := [S l.name, B l.shp.tuple, l.shp.fv]
def varL (v : VarR) : List Value := [S v.name, I v.kind, I v.lat]
def wdL (x : Wd) : List Value := [S x.text, I x.place]
def fltL (f : Flt) : List Value := [I f.cls, I f.place]
structure Scp where
  lv : Value
  lats : List LatR
  vv : Value
  vars : List VarR
abbrev scpC (s : Scp) : Array Value := #[s.lv, s.vv]
structure ScpV (K : Vu) (s : Scp) : Prop where
  lats : SlV K s.lv 3 s.lats.length (s.lats.flatMap latL)
  vars : SlV K s.vv 3 s.vars.length (s.vars.flatMap varL)
  each : ∀ l ∈ s.lats, ShpV K l.shp
theorem ScpV.mono {K K' : Vu} {s : Scp} (h : ScpV K s) (hl : Le K K') : ScpV K' s := ⟨h.lats.mono hl, h.vars.mono hl, fun l hm => (h.each l hm).mono hl⟩
theorem ScpV.at {K : Vu} {s : Scp} (h : ScpV K s) {k : Int} (h0 : 0 ≤ k) (h1 : k < s.lats.length) : ShpV K (s.lats.getD k.toNat lat0).shp := h.each _ (List.mem_of_getElem? (getD_at (d := lat0) h0 h1))
section
variable {P : Program} {σ : Env} {w : World} {dst : Option Tmp} {ty t e : TypeId} {pos : String} {aft : Array Edge} {g : Option (Nat × Bool)} {x : Operand} {b : Nat} {fr : Nat × Nat}
end
theorem any_yes {α : Type} {l : List α} {d : α} {P : α → Bool} {k : Int} (h0 : 0 ≤ k) (h1 : k < l.length) (h : P (l.getD k.toNat d) = true) : l.any P = true :=
  List.any_eq_true.2 ⟨_, List.mem_of_getElem? (getD_at (d := d) h0 h1), h⟩
theorem any_no {α : Type} {l : List α} {d : α} {P : α → Bool} {k : Int} (hk : ¬ k < l.length) (h : ∀ j : Int, 0 ≤ j → j < k → P (l.getD j.toNat d) = false) : l.any P = false := by
  rw [List.any_eq_false]
  intro x hx
  obtain ⟨i, hi, rfl⟩ := List.getElem_of_mem hx
  have := h i (by omega) (by omega)
  rw [List.getD_eq_getElem?_getD, Int.toNat_natCast, List.getElem?_eq_getElem hi] at this
  simpa using this
def bigL (l : LatR) : Bool := bigS l.shp.sh || decide (40 < l.name.size)
def bigV (v : VarR) : Bool := decide (40 < v.name.size)
def bigScp (s : Scp) : Bool := decide (20 < s.lats.length ∨ 80 < s.vars.length) || s.lats.any bigL || s.vars.any bigV
def findLat (s : Scp) (t : Tx) : Int := findV (fun i => decide ((s.lats.getD i.toNat lat0).name = t)) s.lats.length
def findVar (s : Scp) (t : Tx) : Int := findV (fun i => decide ((s.vars.getD i.toNat var0).name = t)) s.vars.length
def prodL (s : Scp) (l : List Wd) : List Shp := l.filterMap fun x => if 0 ≤ findLat s x.text then some (s.lats.getD (findLat s x.text).toNat lat0).shp else none
inductive NodeR where
  | mk (kind place : Int) (text : Tx) (nv : Value) (names : List Wd) (kv : Value) (kids : List NodeR)
def NodeR.kind : NodeR → Int
  | .mk k _ _ _ _ _ _ => k
def NodeR.place : NodeR → Int
  | .mk _ p _ _ _ _ _ => p
def NodeR.text : NodeR → Tx
  | .mk _ _ t _ _ _ _ => t
def NodeR.nv : NodeR → Value
  | .mk _ _ _ v _ _ _ => v
def NodeR.names : NodeR → List Wd
  | .mk _ _ _ _ l _ _ => l
def NodeR.kv : NodeR → Value
  | .mk _ _ _ _ _ v _ => v
def NodeR.kids : NodeR → List NodeR
  | .mk _ _ _ _ _ _ k => k
def nodeL (n : NodeR) : List Value := [I n.kind, I n.place, S n.text, n.nv, n.kv]
inductive NodeV (K : Vu) : NodeR → Prop
  | mk {kind place : Int} {text : Tx} {nv : Value} {names : List Wd} {kv : Value} {kids : List NodeR} (hn : SlV K nv 2 names.length (names.flatMap wdL)) (hk : SlV K kv 5 kids.length (kids.flatMap nodeL)) (each : ∀ x ∈ kids, NodeV K x) : NodeV K (.mk kind place text nv names kv kids)
abbrev Pw := Wd × Wd
def pwL (p : Pw) : List Value := [S p.1.text, I p.1.place, S p.2.text, I p.2.place]
structure CmdR where
  op : Int
  place : Int
  name : Wd
  nv : Value
  names : List Wd
  pv : Value
  pairs : List Pw
  pat : Int
  left : NodeR
  right : NodeR
def cmdL (c : CmdR) : List Value := [I c.op, I c.place, S c.name.text, I c.name.place, c.nv, c.pv, I c.pat] ++ nodeL c.left ++ nodeL c.right
structure CmdV (K : Vu) (c : CmdR) : Prop where
  names : SlV K c.nv 2 c.names.length (c.names.flatMap wdL)
  pairs : SlV K c.pv 4 c.pairs.length (c.pairs.flatMap pwL)
  left : NodeV K c.left
  right : NodeV K c.right
end Go.Proofs.YtdfbimlpondblaaGreatDoor.E
