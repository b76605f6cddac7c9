/-
  Factors, shapes and elements: their cells, and what they are, plainly.
-/
import Derived.Test.YtphknfjaellkjaaVu
import Derived.Test.YtphknfjaellkjaaGrd
namespace Go.Proofs.Ytphknfjaellkjaa.M
open Go
set_option linter.unusedVariables false
abbrev El := Nat → BitVec 64
def eqE (a b : El) : Prop := ∀ i, i < 8 → a i = b i
instance (a b : El) : Decidable (eqE a b) := inferInstanceAs (Decidable (∀ i, i < 8 → a i = b i))
def el0 : El := fun _ => 0#64
def putE (e : El) (i : Nat) (x : BitVec 64) : El := fun j => if j = i then x else e j
structure Fc where
  kind : Int
  names : List Tx
  rel : Rl
structure Sh where
  tuple : Bool
  facs : List Fc
def fc0 : Fc := ⟨0, [], Rl.none⟩
def namedF (l : List Tx) : Bool := decide (1 ≤ l.length ∧ l.length ≤ 64) && decide (twice l < 0) && l.all nameR
def factorR (f : Fc) : Bool := namedF f.names &&
  (if f.kind = 1 ∨ f.kind = 2 then decide (pts f.rel = 0) else if f.kind = 3 then decide (f.rel.n = f.names.length) && rightG f.rel else if f.kind = 4 then decide (f.rel.n = f.names.length) && latB f.rel else false)
def shR (s : Sh) : Bool := decide (1 ≤ s.facs.length ∧ s.facs.length ≤ 8) && (s.tuple || decide (s.facs.length = 1)) && s.facs.all factorR
def alikeF (a b : Fc) : Bool := decide (a.kind = b.kind) && decide (a.names = b.names) && decide ((plainR a.rel).eq (plainR b.rel))
def sameS (a b : Sh) : Bool := decide (a.tuple = b.tuple) && decide (a.facs.length = b.facs.length) && (upto a.facs.length).all fun i => alikeF (a.facs.getD i.toNat fc0) (b.facs.getD i.toNat fc0)
def wordF (f : Fc) (w : BitVec 64) : Bool := if f.kind = 1 then (level f.names.length w).2 else if f.kind = 2 then subB w (below f.names.length) else if f.kind = 3 then closedG f.rel w else (pointV f.rel w).2
def fitsS (s : Sh) (e : El) : Bool := shR s && (upto 8).all fun i => if i < s.facs.length then wordF (s.facs.getD i.toNat fc0) (e i.toNat) else decide (e i.toNat = 0#64)
def FitTo (s : Sh) (e : El) (k : Int) : Prop := ∀ j : Int, 0 ≤ j → j < k → (j < s.facs.length → wordF (s.facs.getD j.toNat fc0) (e j.toNat) = true) ∧ (¬ j < s.facs.length → e j.toNat = 0#64)
theorem FitTo.none (s : Sh) (e : El) : FitTo s e 0 := fun j a b => absurd b (by omega)
theorem FitTo.next {s : Sh} {e : El} {k : Int} (h : FitTo s e k) (h1 : k < s.facs.length → wordF (s.facs.getD k.toNat fc0) (e k.toNat) = true) (h2 : ¬ k < s.facs.length → e k.toNat = 0#64) : FitTo s e (k + 1) := fun j a b => by
  by_cases he : j = k
  · subst he; exact ⟨h1, h2⟩
  · exact h j a (by omega)
def leqE (a b : El) : Bool := (upto 8).all fun i => subB (a i.toNat) (b i.toNat)
def joinW (s : Sh) (a b : El) (i : Nat) : BitVec 64 := if (i : Int) < s.facs.length ∧ (s.facs.getD i fc0).kind = 4 then raiseV (s.facs.getD i fc0).rel (a i) (b i) else a i ||| b i
def joinS (s : Sh) (a b : El) : El := fun i => joinW s a b i
def meetE (a b : El) : El := fun i => a i &&& b i
def mixE (a b : El) (k : Int) : El := fun i => if (i : Int) < k then a i else b i
def leastF (f : Fc) : BitVec 64 := if f.kind ≠ 4 then 0#64 else belowR f.rel (endV f.rel (aboveR f.rel)).1
def greatF (f : Fc) : BitVec 64 := if f.kind = 1 then topv f.names.length else if f.kind = 2 then below f.names.length else if f.kind = 3 then topG f.rel else belowR f.rel (endV f.rel (belowR f.rel)).1
def eachS (s : Sh) (f : Fc → BitVec 64) : El := fun i => if shR s = true ∧ (i : Int) < s.facs.length then f (s.facs.getD i fc0) else 0#64
def highF (f : Fc) : Int := if f.kind = 1 then f.names.length - 1 else if f.kind = 2 then f.names.length else if f.kind = 3 then heightG f.rel else (longV f.rel).1
def sumTo (s : Sh) (k : Int) : Int := ((upto k).map fun i => highF (s.facs.getD i.toNat fc0)).sum
def heightS (s : Sh) : Int := if shR s then sumTo s s.facs.length else 0
end Go.Proofs.Ytphknfjaellkjaa.M
namespace Go.Proofs.Ytphknfjaellkjaa.E
open Go Go.RowKit Go.Proofs.Ytphknfjaellkjaa.M
set_option linter.unusedVariables false
/-! ### Cells -/
def elL (e : El) : List Value := (List.range 8).map fun i => U (e i)
@[irreducible] def elC (e : El) : Array Value := (elL e).toArray
theorem elC_def (e : El) : elC e = (elL e).toArray := by unfold elC; rfl
structure Fac where
  kind : Int
  nv : Value
  names : List Tx
  rel : Rl
def Fac.fc (f : Fac) : Fc := ⟨f.kind, f.names, f.rel⟩
def facL (f : Fac) : List Value := I f.kind :: f.nv :: relL f.rel
abbrev facC (f : Fac) : Array Value := (facL f).toArray
def fac0 : Fac := ⟨0, .slice none 0 0, [], Rl.none⟩
structure FacV (K : Vu) (f : Fac) : Prop where
  names : SlV K f.nv 1 f.names.length (txL f.names)
theorem FacV.mono {K K' : Vu} {f : Fac} (h : FacV K f) (hl : Le K K') : FacV K' f := ⟨h.names.mono hl⟩
structure Shp where
  tuple : Bool
  fv : Value
  facs : List Fac
def Shp.sh (s : Shp) : Sh := ⟨s.tuple, s.facs.map Fac.fc⟩
abbrev shpC (s : Shp) : Array Value := #[B s.tuple, s.fv]
structure ShpV (K : Vu) (s : Shp) : Prop where
  facs : SlV K s.fv 67 s.facs.length (s.facs.flatMap facL)
  each : ∀ f ∈ s.facs, FacV K f
theorem ShpV.mono {K K' : Vu} {s : Shp} (h : ShpV K s) (hl : Le K K') : ShpV K' s := ⟨h.facs.mono hl, fun f hf => (h.each f hf).mono hl⟩
theorem ShpV.at {K : Vu} {s : Shp} (h : ShpV K s) {k : Int} (h0 : 0 ≤ k) (h1 : k < s.facs.length) : FacV K (s.facs.getD k.toNat fac0) := h.each _ (List.mem_of_getElem? (getD_at (d := fac0) h0 h1))
section runs
variable {P : Program} {σ : Env} {w : World} {dst : Option Tmp} {ty t u e : TypeId} {pos : String} {aft : Array Edge} {g : Option (Nat × Bool)} {x y : Operand} {b : Nat} {fr : Nat × Nat}
structure ElT (P : Program) (t e : TypeId) : Prop where
  u : P.underlying t = some (.array 8 e)
  ue : P.underlying e = some (.int .u64)
  se : ∀ w, (sizeOf e).run P w = .ok 1 w
  ae : ∀ w, (isAgg e).run P w = .ok false w
  eg : P.eqGuardType P.depth t = false
theorem ElT.eql (T : ElT P t e) (a b : El) (w : World) : (Op.equalIn 10000 t (.agg (elC a)) (.agg (elC b))).run P w = .ok (decide (eqE a b)) w := by
  rw [elC_def, elC_def]
  exact eqArr 9998 a b T.u T.ue T.se T.ae
theorem one_slice {K : Vu} {v : Value} {sz n : Nat} {c : List Value} (h : SlV K v sz n c) : v.oneCell' = true ∧ v.cells = #[v] := by
  obtain ⟨a, cap, rfl, -, -⟩ := h.shape; exact ⟨rfl, rfl⟩
end runs
end Go.Proofs.Ytphknfjaellkjaa.E
