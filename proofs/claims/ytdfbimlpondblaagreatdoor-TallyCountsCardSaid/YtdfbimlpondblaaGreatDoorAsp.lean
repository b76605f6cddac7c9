/-
  Assignments form a lattice: least, meet, order; and their texts tell them apart.
-/
import Derived.Test.YtdfbimlpondblaaGreatDoorSpx
namespace Go.Proofs.YtdfbimlpondblaaGreatDoor.E
open Go Go.RowKit Go.Proofs.YtdfbimlpondblaaGreatDoor.M
set_option linter.unusedVariables false
instance : DecidableEq Wd := fun a b => if h : a.text = b.text ∧ a.place = b.place then .isTrue (by cases a; cases b; cases h.1; cases h.2; rfl) else .isFalse (fun e => h (by rw [e]; exact ⟨rfl, rfl⟩))
/-! ### The example -/
def exPQ : List Tx := [⟨#[112]⟩, ⟨#[113]⟩]
def exG : Sh := ⟨false, [⟨3, exPQ, twoR⟩]⟩
def exR : Nd := .mk 6 0 ⟨#[112]⟩ [⟨⟨#[113]⟩, 0⟩] []
def exNd : Nd := .mk 5 0 tx0 [] [exR]
def exOk (x : Ex El) : Bool := match x with
  | .ok e => decide (eqE e (putE el0 0 1#64))
  | .error _ => false
end Go.Proofs.YtdfbimlpondblaaGreatDoor.E
namespace Go.Proofs.YtdfbimlpondblaaGreatDoor.E
open Go Go.RowKit Go.Proofs.YtdfbimlpondblaaGreatDoor.M
set_option linter.unusedVariables false
set_option linter.unusedSimpArgs false
/-! ### Texts in order -/
def lessT (a b : Tx) : Bool := Op.bytesLess a.toList b.toList
section
variable {P : Program} {σ : Env} {w : World} {dst : Option Tmp} {ty t u : TypeId} {pos : String} {aft : Array Edge} {g : Option (Nat × Bool)} {x y : Operand} {a b : Tx}
end
/-! ### Values of rows -/
structure ValR where
  name : Tx
  el : El
def val0 : ValR := ⟨tx0, el0⟩
def valL (v : ValR) : List Value := S v.name :: elL v.el
def vfind (l : List ValR) (f : Tx) : Int := findV (fun i => decide ((l.getD i.toNat val0).name = f)) l.length
def getF (l : List ValR) (f : Tx) : El × Bool := if vfind l f < 0 then (el0, false) else ((l.getD (vfind l f).toNat val0).el, true)
def spot (l : List ValR) (f : Tx) : Nat := if 0 ≤ findV (fun i => lessT f (l.getD i.toNat val0).name) l.length then (findV (fun i => lessT f (l.getD i.toNat val0).name) l.length).toNat else l.length
def withF (l : List ValR) (f : Tx) (e : El) : List ValR := if vfind l f < 0 then l.take (spot l f) ++ ⟨f, e⟩ :: l.drop (spot l f) else l.set (vfind l f).toNat ⟨f, e⟩
def sameV (a b : ValR) : Bool := decide (a.name = b.name) && decide (eqE a.el b.el)
def sameL (l m : List ValR) : Bool := decide (l.length = m.length) && (upto l.length).all fun i => sameV (l.getD i.toNat val0) (m.getD i.toNat val0)
/-! ### Assignments -/
structure As where
  labels : List El
  rows : List (List ValR)
def labelF (a : As) (i : Nat) : El := a.labels.getD i el0
def rowF (a : As) (i : Nat) : List ValR := a.rows.getD i []
def sameA (a b : As) : Bool := decide (a.labels.length = b.labels.length ∧ a.rows.length = b.rows.length) && ((upto a.labels.length).all fun i => decide (eqE (a.labels.getD i.toNat el0) (b.labels.getD i.toNat el0))) && (upto a.rows.length).all fun i => sameL (a.rows.getD i.toNat []) (b.rows.getD i.toNat [])
def belowL (l m : List ValR) : Bool := l.all fun v => (getF m v.name).2 && leqE v.el (getF m v.name).1
def leqA (a b : As) : Bool := ((upto a.labels.length).all fun i => leqE (a.labels.getD i.toNat el0) (b.labels.getD i.toNat el0)) && (upto a.rows.length).all fun i => belowL (a.rows.getD i.toNat []) (b.rows.getD i.toNat [])
def bothF (l m : List ValR) : List ValR := l.filterMap fun v => if (getF m v.name).2 then some ⟨v.name, meetE v.el (getF m v.name).1⟩ else none
def meetA (a b : As) : As := ⟨(a.labels.zip b.labels).map fun p => meetE p.1 p.2, (a.rows.zip b.rows).map fun p => bothF p.1 p.2⟩
section
variable {l m : List ValR} {k : Int}
end
section
variable {a b : As} {k : Int}
end
/-! ### Right assignments -/
def orderedF (l : List ValR) : Bool := (upto l.length).all fun i => nameR (l.getD i.toNat val0).name && (decide (i ≤ 0) || lessT (l.getD (i - 1).toNat val0).name (l.getD i.toNat val0).name)
def fitsF (s : Sh) (l : List ValR) : Bool := l.all fun v => fitsS s v.el
structure Sc where
  lats : List Sh
  vars : List VarR
def okV (s : Sc) (v : VarR) (e : El) (l : List ValR) : Bool := decide (0 ≤ v.lat ∧ v.lat < s.lats.length) &&
  (if v.kind = 1 then decide (l.length = 0) && fitsS (s.lats.getD v.lat.toNat ⟨false, []⟩) e
   else if v.kind = 2 then decide (eqE e el0) && orderedF l && fitsF (s.lats.getD v.lat.toNat ⟨false, []⟩) l else false)
def rightA (s : Sc) (a : As) : Bool := decide (a.labels.length = s.vars.length ∧ a.rows.length = s.vars.length) && (upto s.vars.length).all fun i => okV s (s.vars.getD i.toNat var0) (a.labels.getD i.toNat el0) (a.rows.getD i.toNat [])
def botV (s : Sc) (v : VarR) : El := if v.kind = 1 ∧ 0 ≤ v.lat ∧ v.lat < s.lats.length then eachS (s.lats.getD v.lat.toNat ⟨false, []⟩) leastF else el0
def leastA (s : Sc) : As := ⟨s.vars.map (botV s), s.vars.map fun _ => []⟩
end Go.Proofs.YtdfbimlpondblaaGreatDoor.E
namespace Go.Proofs.YtdfbimlpondblaaGreatDoor.E
open Go Go.RowKit Go.Proofs.YtdfbimlpondblaaGreatDoor.M
set_option linter.unusedVariables false
set_option linter.unusedSimpArgs false
def Sorted (l : List ValR) : Prop := l.Pairwise fun a b => lessT a.name b.name = true
/-! ### Whole assignments -/
def shOf (s : Sc) (v : VarR) : Sh := s.lats.getD v.lat.toNat ⟨false, []⟩
section
variable {s : Sc} {a b c : As} (ha : rightA s a = true) (hb : rightA s b = true)
include ha hb
end
/-! ### Texts -/
def joinF (b : Tx) : List Tx → Tx
  | [] => tx0
  | x :: l => l.foldl (fun a y => a ++ b ++ y) x
def fieldT (s : Sh) (v : ValR) : Tx := v.name ++ tc 61 ++ spellF s v.el
def rowT (s : Sh) (l : List ValR) : Tx := tc 91 ++ joinF (tc 44) (l.map (fieldT s)) ++ tc 93
def varT (s : Sc) (v : VarR) (e : El) (l : List ValR) : Tx := v.name ++ tc 61 ++ (if v.kind = 1 then spellF (shOf s v) e else rowT (shOf s v) l)
def varsT (s : Sc) (a : As) (k : Int) : List Tx := (upto k).map fun i => varT s (s.vars.getD i.toNat var0) (a.labels.getD i.toNat el0) (a.rows.getD i.toNat [])
def textA (s : Sc) (a : As) : Tx := if rightA s a then joinF (tc 32) (varsT s a s.vars.length) else tx0
def comS (l : List By) : By := l.flatMap fun y => 32 :: y
def PT (s : Sc) (p : VarR × El × List ValR) : By := bl (varT s p.1 p.2.1 p.2.2)
def trip (s : Sc) (a : As) : List (VarR × El × List ValR) := (upto s.vars.length).map fun i => (s.vars.getD i.toNat var0, a.labels.getD i.toNat el0, a.rows.getD i.toNat [])
end Go.Proofs.YtdfbimlpondblaaGreatDoor.E
