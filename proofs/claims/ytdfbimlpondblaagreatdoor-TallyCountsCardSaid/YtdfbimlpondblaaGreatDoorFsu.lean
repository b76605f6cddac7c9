/-
  Forests, plainly: what undoes them; how many classes there are; whom a ring holds.
-/
import Derived.Test.YtdfbimlpondblaaGreatDoorFst
namespace Go.Proofs.YtdfbimlpondblaaGreatDoor.M
open Go
set_option linter.unusedVariables false
set_option linter.unusedSimpArgs false
inductive Und
  | add (n : Nat)
  | set (i : Nat) (was : BitVec 64)
def und1 (W : List (BitVec 64)) : Und → List (BitVec 64)
  | .add n => W.take n
  | .set i was => W.set i was
def undAll (W : List (BitVec 64)) (us : List Und) : List (BitVec 64) := us.foldr (fun u w => und1 w u) W
def undTo (W : List (BitVec 64)) (us : List Und) (t : Nat) : List (BitVec 64) := undAll W (us.drop t)
def okR : Nat → List Und → Prop
  | _, [] => True
  | L, .add n :: r => n ≤ L ∧ okR n r
  | L, .set i _ :: r => i < L ∧ okR L r
def okU (L : Nat) (us : List Und) : Prop := okR L us.reverse
section
variable {W : List (BitVec 64)} {us : List Und} {u : Und} {t k : Nat}
theorem undTo_snoc (h : t ≤ us.length) : undTo W (us ++ [u]) t = undTo (und1 W u) us t := by
  rw [undTo, undTo, List.drop_append_of_le_length h, undAll, List.foldr_append]; rfl
theorem take_snocU (h : t ≤ us.length) : (us ++ [u]).take t = us.take t := List.take_append_of_le_length h
theorem okU_snoc : okU W.length (us ++ [u]) ↔ (match u with | .add n => n ≤ W.length ∧ okU n us | .set i _ => i < W.length ∧ okU W.length us) := by
  unfold okU; rw [List.reverse_append]; cases u <;> exact Iff.rfl
end
def setU (W : List (BitVec 64)) (us : List Und) (i : Nat) (b : BitVec 64) : List Und := if W.getD i 0 = b then us else us ++ [.set i (W.getD i 0)]
theorem set_same {W : List (BitVec 64)} {i : Nat} {b : BitVec 64} (h : W.getD i 0 = b) : W.set i b = W := by
  apply List.ext_getElem (by simp)
  intro j h1 h2
  rw [List.getElem_set]
  split
  · rename_i e; subst e
    rw [← h, List.getD_eq_getElem?_getD, List.getElem?_eq_getElem h2]; rfl
  · rfl
theorem setU_und {W : List (BitVec 64)} {us : List Und} {i t : Nat} {b : BitVec 64} (hi : i < W.length) (h : t ≤ us.length) : undTo (W.set i b) (setU W us i b) t = undTo W us t ∧ (setU W us i b).take t = us.take t ∧ t ≤ (setU W us i b).length := by
  unfold setU
  split
  · rename_i e; rw [set_same e]; exact ⟨rfl, rfl, h⟩
  · refine ⟨?_, take_snocU h, by rw [List.length_append]; omega⟩
    rw [undTo_snoc h]
    congr 1
    show (W.set i b).set i (W.getD i 0) = W
    rw [List.set_set]; exact set_same rfl
theorem setU_ok {W : List (BitVec 64)} {us : List Und} {i : Nat} {b : BitVec 64} (hi : i < W.length) (h : okU W.length us) : okU (W.set i b).length (setU W us i b) := by
  unfold setU
  split
  · rw [List.length_set]; exact h
  · rw [okU_snoc]; exact ⟨by rw [List.length_set]; exact hi, by rw [List.length_set]; exact h⟩
/-! ### Nodes as words -/
def ndW (d : Fnd) : List (BitVec 64) := [BitVec.ofNat 64 d.up, BitVec.ofNat 64 d.size, BitVec.ofNat 64 d.next, BitVec.ofNat 64 d.least]
def wordsN (nd : List Fnd) : List (BitVec 64) := nd.flatMap ndW
/-! ### How many classes -/
def leads (cl : List Nat) : Nat := ((List.range cl.length).filter fun i => clF cl i == i).length
def metF (cl : List Nat) : List Nat := cl.foldl (fun m c => if c ∈ m then m else m ++ [c]) []
section
variable {nd : List Fnd} {cl : List Nat} {a b : Nat}
end
end Go.Proofs.YtdfbimlpondblaaGreatDoor.M
