/-
  Constants of shapes, plainly: which element a node is, and which node an element.
-/
import Derived.Test.YtdfbimlpondblaaGreatDoorNod
namespace Go.Proofs.YtdfbimlpondblaaGreatDoor.E
open Go Go.RowKit Go.Proofs.YtdfbimlpondblaaGreatDoor.M
set_option linter.unusedVariables false
abbrev Ex (α : Type) := Except Int α
def gotP (l : List Tx) : List Wd → BitVec 64 → Ex (BitVec 64)
  | [], s => .ok s
  | x :: w, s => if nfind l x.text < 0 then .error x.place else gotP l w (withB s (nfind l x.text))
def placesG (l : List Tx) (w : List Wd) : Ex (BitVec 64) := gotP l w 0#64
def rulesG (f : Fc) : List Nd → BitVec 64 → Ex (BitVec 64)
  | [], w => .ok w
  | k :: ks, w => if nfind f.names k.text < 0 then .error k.place else
    match placesG f.names k.names with
    | .error a => .error a
    | .ok s => rulesG f ks (w ||| ruleG f.rel (nfind f.names k.text) s)
def kindN (f : Fc) : Int := if f.kind = 2 then 3 else if f.kind = 3 then 5 else 2
def pointG (f : Fc) (n : Nd) : Ex (BitVec 64) :=
  if nfind f.names n.text < 0 then .error n.place
  else if f.kind = 4 then .ok (belowR f.rel (nfind f.names n.text))
  else .ok (wordv f.names.length (nfind f.names n.text)).1
def wordG (f : Fc) (n : Nd) : Ex (BitVec 64) :=
  if n.kind ≠ kindN f then .error n.place
  else if f.kind = 2 then placesG f.names n.names
  else if f.kind = 3 then rulesG f n.kids 0#64
  else pointG f n
def elemL : List (Fc × Nd) → Nat → El → Ex El
  | [], _, e => .ok e
  | (f, n) :: r, i, e => match wordG f n with
    | .error a => .error a
    | .ok w => elemL r (i + 1) (putE e i w)
def partsF (s : Sh) (n : Nd) : List Nd := if s.tuple then n.kids else [n]
def fitN (s : Sh) (n : Nd) : Bool := shR s && constB n && (!s.tuple || decide (n.kind = 4 ∧ n.kids.length = s.facs.length))
def elemG (s : Sh) (n : Nd) : Ex El := if fitN s n then elemL (s.facs.zip (partsF s n)) 0 el0 else .error n.place
def resE : Ex El → El × Flt
  | .ok e => (e, flt0)
  | .error a => (el0, ⟨4, a⟩)
/-! ### A reader: whether it failed, and where first -/
abbrev RS := Bool × Int
def failF (s : RS) (a : Int) : RS := if s.1 then s else (true, a)
def okR (x : Ex (BitVec 64)) (s : RS) (y : BitVec 64) (s' : RS) : Prop := match x with
  | .ok z => y = z ∧ s' = s
  | .error a => s' = failF s a
theorem point_no {f : Fc} {n : Nd} (h : nfind f.names n.text < 0) : pointG f n = .error n.place := by rw [pointG, if_pos h]
def RInv (f : Fc) (ks : List Nd) (k : Int) (m : BitVec 64) (s s1 : RS) : Prop :=
  (s1 = s ∧ rulesG f ks 0#64 = rulesG f (ks.drop k.toNat) m) ∨ ∃ a, rulesG f ks 0#64 = .error a ∧ s1 = failF s a
/-! ### What the reference says of a reading -/
structure GotR where
  word : BitVec 64
  bad : Bool
  at_ : Int
def gotL (g : GotR) : List Value := [U g.word, B g.bad, I g.at_]
def got0 : GotR := ⟨0#64, false, 0⟩
def gotE : Ex (BitVec 64) → GotR
  | .ok x => ⟨x, false, 0⟩
  | .error a => ⟨0#64, true, a⟩
section refrules
variable {f : Fac} {n : NodeR} {k : Int} {m : BitVec 64} (h0 : 0 ≤ k) (h1 : k < n.kids.length) (hm : rulesG f.fc n.nd.kids 0#64 = rulesG f.fc (n.nd.kids.drop k.toNat) m)
include h0 h1 hm
end refrules
section refword
variable {f : Fac} {n : NodeR}
end refword
/-! ### The words of factors, one after the other -/
def EInv (l : List (Fc × Nd)) (k : Int) (e : El) (s : RS) : Prop :=
  (s = (false, 0) ∧ elemL l 0 el0 = elemL (l.drop k.toNat) k.toNat e) ∨ ∃ a, elemL l 0 el0 = .error a ∧ s = (true, a)
/-! ### Nodes of elements -/
def namesOf (l : List Tx) (w : BitVec 64) : List Wd := (lst w).map fun i => ⟨l.getD i.toNat tx0, 0⟩
def ruleN (f : Fc) (w : BitVec 64) (o : Int) : Nd := .mk 6 0 (f.names.getD o.toNat tx0) (namesOf f.names (readersG f.rel w o)) []
def constF (f : Fc) (w : BitVec 64) : Nd :=
  if f.kind = 2 then .mk 3 0 tx0 (namesOf f.names w) []
  else if f.kind = 3 then .mk 5 0 tx0 [] ((lst (ownersG f.rel w)).map (ruleN f w))
  else if f.kind = 4 then .mk 2 0 (f.names.getD (pointV f.rel w).1.toNat tx0) [] []
  else .mk 2 0 (f.names.getD (level f.names.length w).1.toNat tx0) [] []
def constsTo (s : Sh) (e : El) (k : Int) : List Nd := (upto k).map fun i => constF (s.facs.getD i.toNat fc0) (e i.toNat)
def nodeF (s : Sh) (e : El) : Nd :=
  if fitsS s e then (if s.tuple then .mk 4 0 tx0 [] (constsTo s e s.facs.length) else constF (s.facs.getD 0 fc0) (e 0)) else nd0
def spellF (s : Sh) (e : El) : Tx := tc 35 ++ textF (nodeF s e)
end Go.Proofs.YtdfbimlpondblaaGreatDoor.E
