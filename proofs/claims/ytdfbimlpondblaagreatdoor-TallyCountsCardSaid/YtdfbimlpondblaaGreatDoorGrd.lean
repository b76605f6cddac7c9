/-
  Grids of principals, plainly: words of who keeps whom out.
-/
import Derived.Test.YtdfbimlpondblaaGreatDoorHas
namespace Go.Proofs.YtdfbimlpondblaaGreatDoor.M
set_option linter.unusedVariables false
def rightG (r : Rl) : Bool := decide (1 ≤ r.n ∧ r.n ≤ 8) && decide ((plainR r).eq (cloR r))
/-! ### Rows of a word -/
def growG (r : Rl) (w : BitVec 64) (o : Int) : BitVec 64 := (w >>> (BitVec.ofInt 64 (8 * o)).toNat) &&& below r.n
def rowsG (f : Int → BitVec 64) (k : Int) : BitVec 64 := (upto k).foldl (fun a o => a ||| (f o <<< (BitVec.ofInt 64 (8 * o)).toNat)) 0#64
/-! ### Closing -/
def closeF (r : Rl) (w : BitVec 64) (o : Int) : BitVec 64 := orAll (fun p => downR r (growG r w p)) (lst (aboveR r o))
def closeG (r : Rl) (w : BitVec 64) : BitVec 64 := if rightG r then rowsG (closeF r w) r.n else 0#64
def outG (r : Rl) (w : BitVec 64) (o x : Int) : Bool := decide (0 ≤ o ∧ 0 ≤ x ∧ o < r.n ∧ x < r.n) && hasB w (8 * o + x)
def folB (r : Rl) (w : BitVec 64) (o x : Int) : Bool := (upto r.n).any fun p => (upto r.n).any fun y => outG r w p y && hasR r o p && hasR r x y
def rowL (r : Rl) (w : BitVec 64) (o k : Int) : List Int := ((upto k).filter (folB r w o ·)).map (8 * o + ·)
def closeL (r : Rl) (w : BitVec 64) (k : Int) : List Int := (upto k).flatMap fun o => rowL r w o r.n
def closedG (r : Rl) (w : BitVec 64) : Bool := rightG r && decide (closeG r w = w)
/-! ### What owners say -/
def mayTo (r : Rl) (s : BitVec 64) (x k : Int) : Bool := (upto k).any fun y => hasB s y && hasR r y x
def ruleL (r : Rl) (s : BitVec 64) (o k : Int) : List Int := ((upto k).filter fun x => !hasB (upR r s) x).map (8 * o + ·)
def ownF (o : Int) (s : BitVec 64) : Int → BitVec 64 := fun x => if x = o then s else 0#64
def ownsG (r : Rl) (o : Int) : Bool := rightG r && decide (0 ≤ o ∧ o < r.n)
def ruleG (r : Rl) (o : Int) (s : BitVec 64) : BitVec 64 := if ownsG r o then closeG r (rowsG (ownF o (below r.n &&& ~~~upR r s)) r.n) else 0#64
def readersG (r : Rl) (w : BitVec 64) (o : Int) : BitVec 64 := if ownsG r o then below r.n &&& ~~~growG r w o else 0#64
def readL (r : Rl) (w : BitVec 64) (o k : Int) : List Int := (upto k).filter fun x => !outG r w o x
def ownL (r : Rl) (w : BitVec 64) (k : Int) : List Int := (upto k).filter fun o => decide (growG r w o ≠ 0#64)
def ownersG (r : Rl) (w : BitVec 64) : BitVec 64 := if rightG r then ofl (ownL r w r.n) else 0#64
def topG (r : Rl) : BitVec 64 := if rightG r then rowsG (fun _ => below r.n) r.n else 0#64
def topL (r : Rl) (k : Int) : List Int := (upto k).flatMap fun o => (upto r.n).map (8 * o + ·)
def heightG (r : Rl) : Int := if rightG r then clsTo r (pts r) * clsTo r (pts r) else 0
/-! ### Laws -/
/-! ### The height -/
def oneG (r : Rl) (i : Int) : BitVec 64 := closeG r (ofl [i])
def newP (r : Rl) (p : Int) : Bool := decide (0 ≤ p ∧ p < r.n) && newTo (cloR r) p p
def goodG (r : Rl) (i : Int) : Bool := newP r (i / 8) && newP r (i % 8)
def metL (r : Rl) (k : Int) : List (BitVec 64) := ((upto k).filter (goodG r)).map (oneG r)
def isTo (c : BitVec 64) (l : List (BitVec 64)) (j : Int) : Bool := decide (c = 0#64) || (l.take j.toNat).any fun w => decide (w = c)
def twoR : Rl := ⟨2, fun i => [3#64, 2#64].getD i 0#64⟩
end Go.Proofs.YtdfbimlpondblaaGreatDoor.M
