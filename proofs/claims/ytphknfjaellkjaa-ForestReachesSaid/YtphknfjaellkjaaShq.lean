/-
  What the walks over shapes lean on, plainly.
-/
import Derived.Test.YtphknfjaellkjaaShp
namespace Go.Proofs.Ytphknfjaellkjaa.M
set_option linter.unusedVariables false
/-! ### One factor's words -/
def joinF (f : Fc) (a b : BitVec 64) : BitVec 64 := if f.kind = 4 then raiseV f.rel a b else a ||| b
structure Tab4 (f : Fc) : Prop where
  l : latB f.rel = true
  n : pts f.rel = f.rel.n
section one
variable {f : Fc} (h : factorR f = true) {a b c : BitVec 64} (ha : wordF f a = true) (hb : wordF f b = true) (hc : wordF f c = true)
include h ha hb
include hc
end one
/-! ### Elements -/
section elems
variable {s : Sh} {a b c : El} (ha : fitsS s a = true) (hb : fitsS s b = true) (hc : fitsS s c = true)
include ha hb
include hc
end elems
/-! ### Steps -/
def rankT (r : Rl) (k : Int) : Nat := ((List.range 65).filter fun v => decide (1 ≤ v) && hasB (lev r v) k).length
def rankF (f : Fc) (w : BitVec 64) : Nat := if f.kind = 3 then ((upto 64).filter fun i => goodG f.rel i && hasB w i).length else if f.kind = 4 then rankT f.rel (pointV f.rel w).1 else (lst w).length
def rankTo (s : Sh) (e : El) (k : Int) : Int := ((upto k).map fun i => (rankF (s.facs.getD i.toNat fc0) (e i.toNat) : Int)).sum
def rankS (s : Sh) (e : El) : Int := rankTo s e s.facs.length
end Go.Proofs.Ytphknfjaellkjaa.M
namespace Go.Proofs.Ytphknfjaellkjaa.M
set_option linter.unusedVariables false
def endF (t : Bool) : Fc → BitVec 64 := if t = true then greatF else leastF
def bigN (l : List Tx) : Bool := decide (70 < l.length) || l.any fun t => decide (40 < t.size)
def bigS (s : Sh) : Bool := decide (12 < s.facs.length) || s.facs.any fun f => bigN f.names
end Go.Proofs.Ytphknfjaellkjaa.M
namespace Go.Proofs.Ytphknfjaellkjaa.E
open Go Go.RowKit Go.Proofs.Ytphknfjaellkjaa.M
set_option linter.unusedVariables false
end Go.Proofs.Ytphknfjaellkjaa.E
