/-
  Forests, plainly: words that are put one after the other; a union; times that are undone.
-/
import Derived.Test.YtdfbimlpondblaaDoorFsu
namespace Go.Proofs.YtdfbimlpondblaaDoor.M
open Go
set_option linter.unusedVariables false
set_option linter.unusedSimpArgs false
def cntStep (cl c2 : List Nat) : Prop := (cl.length = c2.length + 1 ∧ leads cl = leads c2 + 1) ∨ (cl.length = c2.length ∧ leads cl + 1 = leads c2)
def Hs : List (BitVec 64) → List Und → List Nat → List (List Nat) → Prop
  | W, us, [], [cl] => us = [] ∧ cl = [] ∧ W = []
  | W, us, t :: ts, cl :: c2 :: cs => (∃ nd, W = wordsN nd ∧ Fo nd cl) ∧ t ≤ us.length ∧ cntStep cl c2 ∧ Hs (undTo W us t) (us.take t) ts (c2 :: cs)
  | _, _, _, _ => False
section
variable {W : List (BitVec 64)} {us : List Und} {t : Nat} {ts : List Nat} {cl c2 : List Nat} {cs : List (List Nat)} {nd : List Fnd}
theorem Hs.len (h : Hs W us ts cs) : cs.length = ts.length + 1 := by
  induction ts generalizing W us cs with
  | nil =>
    cases cs with
    | nil => exact h.elim
    | cons c cs => cases cs with
      | nil => rfl
      | cons c2 cs => exact h.elim
  | cons t ts ih =>
    cases cs with
    | nil => exact h.elim
    | cons c cs => cases cs with
      | nil => exact h.elim
      | cons c2 cs => have := ih h.2.2.2; simp only [List.length_cons] at this ⊢; omega
theorem Hs.start : Hs [] [] [] [[]] := ⟨rfl, rfl, rfl⟩
theorem Hs.more {W' : List (BitVec 64)} {us' : List Und} {nd' : List Fnd} {cl' : List Nat} (h : Hs W us ts (cl :: cs)) (hw : W' = wordsN nd') (hf : Fo nd' cl') (hs : cntStep cl' cl) (h1 : undTo W' us' us.length = W) (h2 : us'.take us.length = us) (h3 : us.length ≤ us'.length) : Hs W' us' (us.length :: ts) (cl' :: cl :: cs) :=
  ⟨⟨nd', hw, hf⟩, h3, hs, by rw [h1, h2]; exact h⟩
theorem Hs.le (h : Hs W us (t :: ts) (cl :: c2 :: cs)) : t ≤ us.length := h.2.1
end
def addU (us : List Und) (n : Nat) : List Und := us ++ [.add n] ++ [.add (n + 1)] ++ [.add (n + 2)] ++ [.add (n + 3)]
/-! ### The answers -/
def findR (cl : List Nat) (i : Int) : Int := if 0 ≤ i ∧ i < cl.length then (clF cl i.toNat : Int) else -1
def unionR (cs : List (List Nat)) (cl : List Nat) (i j : Int) : List (List Nat) × Bool :=
  if findR cl i < 0 ∨ findR cl j < 0 ∨ findR cl i = findR cl j then (cl :: cs, false) else (joinC cl (findR cl i).toNat (findR cl j).toNat :: cl :: cs, true)
/-! ### Sorted classes -/
def classR (cl : List Nat) (i : Nat) : List Nat := (List.range cl.length).filter fun k => clF cl i == clF cl k
end Go.Proofs.YtdfbimlpondblaaDoor.M
namespace Go.Proofs.YtdfbimlpondblaaDoor.M
open Go
set_option linter.unusedVariables false
set_option linter.unusedSimpArgs false
structure Later (W : List (BitVec 64)) (us : List Und) (W' : List (BitVec 64)) (us' : List Und) : Prop where
  le : us.length ≤ us'.length
  und : ∀ t, t ≤ us.length → undTo W' us' t = undTo W us t ∧ us'.take t = us.take t
  ok : okU W.length us → okU W'.length us'
section
variable {W W' W2 : List (BitVec 64)} {us us' us2 : List Und} {i : Nat} {b : BitVec 64}
theorem Later.refl : Later W us W us := ⟨Nat.le_refl _, fun t _ => ⟨rfl, rfl⟩, fun h => h⟩
theorem Later.trans (h : Later W us W' us') (h2 : Later W' us' W2 us2) : Later W us W2 us2 :=
  ⟨Nat.le_trans h.le h2.le, fun t ht => by
    have a := h.und t ht; have c := h2.und t (Nat.le_trans ht h.le)
    exact ⟨c.1.trans a.1, c.2.trans a.2⟩, fun q => h2.ok (h.ok q)⟩
theorem Later.set (hi : i < W.length) : Later W us (W.set i b) (setU W us i b) :=
  ⟨(setU_und hi (Nat.le_refl _)).2.2, fun t ht => ⟨(setU_und hi ht).1, (setU_und hi ht).2.1⟩, setU_ok hi⟩
theorem Later.add : Later W us (W ++ [b]) (us ++ [.add W.length]) :=
  ⟨by simp, fun t ht => ⟨by rw [undTo_snoc ht]; show undTo ((W ++ [b]).take W.length) us t = _; rw [List.take_left], take_snocU ht⟩, fun h => by rw [okU_snoc]; exact ⟨by simp, h⟩⟩
end
def stUp (nd : List Fnd) (i x : Nat) : List Fnd := nd.set i { nd.getD i fnd0 with up := x }
def stSz (nd : List Fnd) (i x : Nat) : List Fnd := nd.set i { nd.getD i fnd0 with size := x }
def stNx (nd : List Fnd) (i x : Nat) : List Fnd := nd.set i { nd.getD i fnd0 with next := x }
def stLe (nd : List Fnd) (i x : Nat) : List Fnd := nd.set i { nd.getD i fnd0 with least := x }
section
variable {nd : List Fnd} {cl : List Nat} {i x a b : Nat}
open Classical in
noncomputable def rootC (nd : List Fnd) (cl : List Nat) (i : Nat) : Nat := if h : ∃ r, r < nd.length ∧ upF nd r = r ∧ clF cl r = clF cl i then h.choose else 0
def classI (cl : List Nat) (i : Int) : List Int := if 0 ≤ i ∧ i < cl.length then (classR cl i.toNat).map Int.ofNat else []
end
end Go.Proofs.YtdfbimlpondblaaDoor.M
