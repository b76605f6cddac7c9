/-
  Joins and meets in a relation of points, plainly: no program in sight.
-/
import Derived.Test.YtphknfjaellkjaaCov
namespace Go.Proofs.Ytphknfjaellkjaa.M
set_option linter.unusedVariables false
def firstV (P : Int → Bool) (n : Int) : Int × Bool := match (upto n).find? P with
  | some u => (u, true)
  | none => (0, false)
def aboveR (r : Rl) (i : Int) : BitVec 64 := upR r (ofl [i])
def belowR (r : Rl) (i : Int) : BitVec 64 := if isP r i then downR r (ofl [i]) else 0#64
def nearP (g : Int → BitVec 64) (i j u : Int) : Bool := hasB (g i &&& g j) u && subB (g i &&& g j) (g u)
def nearV (g : Int → BitVec 64) (n i j : Int) : Int × Bool := firstV (nearP g i j) n
def joinV (r : Rl) (i j : Int) : Int × Bool := nearV (aboveR r) (pts r) i j
def meetV (r : Rl) (i j : Int) : Int × Bool := nearV (belowR r) (pts r) i j
def goodJ (r : Rl) (i j u v : Int) : Bool := hasR r i u && hasR r j u && (upto v).all fun x => !(hasR r i x && hasR r j x && !hasR r u x)
def goodM (r : Rl) (i j u v : Int) : Bool := hasR r u i && hasR r u j && (upto v).all fun x => !(hasR r x i && hasR r x j && !hasR r x u)
/-! ### Lattices -/
def bothB (r : Rl) (i j : Int) : Bool := (joinV r i j).2 && (meetV r i j).2
def latB (r : Rl) : Bool := decide (1 ≤ r.n ∧ r.n ≤ 64) && orderB r && (upto r.n).all fun i => (upto i).all fun j => bothB r i j
/-! ### Words -/
def pointV (r : Rl) (w : BitVec 64) : Int × Bool := firstV (fun i => decide (belowR r i = w)) (pts r)
def raiseV (r : Rl) (a b : BitVec 64) : BitVec 64 := if ((pointV r a).2 && (pointV r b).2 && (joinV r (pointV r a).1 (pointV r b).1).2) = true then belowR r (joinV r (pointV r a).1 (pointV r b).1).1 else a ||| b
def endV (r : Rl) (g : Int → BitVec 64) : Int × Bool := firstV (fun i => decide (g i = below (pts r))) (pts r)
def downTo' (r : Rl) (i k : Int) : List Int := (upto k).filter (hasR r · i)
def endP (r : Rl) (t : Bool) (i k : Int) : Bool := (upto k).all fun x => if t then hasR r x i else hasR r i x
def diaR : Rl := ⟨5, fun i => [31#64, 18#64, 20#64, 24#64, 16#64].getD i 0#64⟩
/-! ### The laws of a lattice -/
structure IsJ (r : Rl) (i j k : Int) : Prop where
  a : hasR r i k = true
  b : hasR r j k = true
  l : ∀ v : Int, hasR r i v = true → hasR r j v = true → hasR r k v = true
structure IsM (r : Rl) (i j k : Int) : Prop where
  a : hasR r k i = true
  b : hasR r k j = true
  g : ∀ v : Int, hasR r v i = true → hasR r v j = true → hasR r v k = true
section laws
variable {r : Rl} (h : latB r = true) {a b c : Int} (ha : 0 ≤ a ∧ a < r.n) (hb : 0 ≤ b ∧ b < r.n) (hc : 0 ≤ c ∧ c < r.n)
include h ha hb
include hc
end laws
end Go.Proofs.Ytphknfjaellkjaa.M
