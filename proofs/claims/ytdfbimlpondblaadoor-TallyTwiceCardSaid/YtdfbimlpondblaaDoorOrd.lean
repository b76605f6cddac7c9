/-
  Relations on up to 64 points, plainly: no program in sight.
-/
import Derived.Test.YtdfbimlpondblaaDoorPlain
namespace Go.Proofs.YtdfbimlpondblaaDoor.M
set_option linter.unusedVariables false
theorem nt {b : Bool} (h : (!b) = true) : b = false := by cases b; rfl; cases h
theorem nf {b : Bool} (h : (!b) = false) : b = true := by cases b; cases h; rfl
structure Rl where
  n : Int
  up : Nat → BitVec 64
def Rl.put (r : Rl) (i : Nat) (x : BitVec 64) : Rl := ⟨r.n, fun j => if j = i then x else r.up j⟩
def Rl.eq (a b : Rl) : Prop := a.n = b.n ∧ ∀ i, i < 64 → a.up i = b.up i
instance (a b : Rl) : Decidable (a.eq b) := inferInstanceAs (Decidable (a.n = b.n ∧ ∀ i, i < 64 → a.up i = b.up i))
def Rl.none : Rl := ⟨0, fun _ => 0#64⟩
def pts (r : Rl) : Int := max 0 (min r.n 64)
theorem pts_bd (r : Rl) : 0 ≤ pts r ∧ pts r ≤ 64 := by unfold pts; omega
def isP (r : Rl) (i : Int) : Bool := decide (0 ≤ i ∧ i < pts r)
def hasR (r : Rl) (i j : Int) : Bool := isP r i && isP r j && (r.up i.toNat).getLsbD j.toNat
theorem isP_iff {r : Rl} {i : Int} : isP r i = true ↔ 0 ≤ i ∧ i < pts r := by simp [isP]
def rowR (r : Rl) (i : Int) : BitVec 64 := r.up i.toNat &&& below (pts r)
def strictR (r : Rl) (i : Int) : BitVec 64 := lessB (rowR r i) i
def fillR (n : Int) (f : Nat → BitVec 64) (k : Int) : Rl := ⟨n, fun i => if (i : Int) < k then f i else 0#64⟩
theorem rl_ext {n : Int} {f h : Nat → BitVec 64} (e : ∀ i, f i = h i) : (⟨n, f⟩ : Rl) = ⟨n, h⟩ := by rw [show f = h from funext e]
def plainR (r : Rl) : Rl := fillR (pts r) (fun i => rowR r i) (pts r)
theorem row_bit (r : Rl) (i : Int) (j : Nat) : (rowR r i).getLsbD j = ((r.up i.toNat).getLsbD j && decide (j < 64 ∧ (j : Int) < pts r)) := by
  rw [rowR, BitVec.getLsbD_and, getLsbD_below]
theorem row_has (r : Rl) {i : Int} (hi : 0 ≤ i ∧ i < pts r) (j : Nat) : (rowR r i).getLsbD j = hasR r i j := by
  have hp := pts_bd r
  rw [row_bit, hasR, isP_iff.2 hi, isP]
  by_cases h : (j : Int) < pts r
  · have h1 : j < 64 ∧ (j : Int) < pts r := ⟨by omega, h⟩
    have h2 : 0 ≤ (j : Int) ∧ (j : Int) < pts r := ⟨by omega, h⟩
    rw [decide_eq_true h1, decide_eq_true h2]; simp
  · have h1 : ¬ (j < 64 ∧ (j : Int) < pts r) := fun x => h x.2
    have h2 : ¬ (0 ≤ (j : Int) ∧ (j : Int) < pts r) := fun x => h x.2
    rw [decide_eq_false h1, decide_eq_false h2]; simp
def aboveTo (r : Rl) (i k : Int) : List Int := (upto k).filter (hasR r i ·)
def orAll (f : Int → BitVec 64) (l : List Int) : BitVec 64 := l.foldl (fun a i => a ||| f i) 0#64
theorem orAll_next {f : Int → BitVec 64} {l : List Int} {k : Int} (h0 : 0 ≤ k) (h : k < l.length) : orAll f (l.take k.toNat) ||| f (l.getD k.toNat 0) = orAll f (l.take (k + 1).toNat) := by
  rw [take_next h0 h, orAll, orAll, List.foldl_append]; rfl
theorem foldl_or (f : Int → BitVec 64) : ∀ (l : List Int) (a : BitVec 64) (j : Nat), (l.foldl (fun a i => a ||| f i) a).getLsbD j = (a.getLsbD j || l.any fun i => (f i).getLsbD j)
  | [], a, j => by simp
  | i :: l, a, j => by rw [List.foldl_cons, foldl_or f l, BitVec.getLsbD_or, List.any_cons, Bool.or_assoc]
theorem orAll_bit (f : Int → BitVec 64) (l : List Int) (j : Nat) : (orAll f l).getLsbD j = l.any fun i => (f i).getLsbD j := by rw [orAll, foldl_or]; simp
theorem lst_at {s : BitVec 64} {k : Int} (h0 : 0 ≤ k) (h : k < (lst s).length) : hasB s ((lst s).getD k.toNat 0) = true := by
  rw [← mem_lst, List.getD_eq_getElem?_getD, List.getElem?_eq_getElem (by omega)]
  exact List.getElem_mem _
theorem hasB_bd {s : BitVec 64} {i : Int} (h : hasB s i = true) : 0 ≤ i ∧ i < 64 := by
  rw [hasB, Bool.and_eq_true] at h; simpa [inB] using h.1
theorem lst_at_bd {s : BitVec 64} {k : Int} (h0 : 0 ≤ k) (h : k < (lst s).length) : 0 ≤ (lst s).getD k.toNat 0 ∧ (lst s).getD k.toNat 0 < 64 := hasB_bd (lst_at h0 h)
def upR (r : Rl) (s : BitVec 64) : BitVec 64 := orAll (rowR r) (lst (s &&& below (pts r)))
def downTo (r : Rl) (s : BitVec 64) (k : Int) : BitVec 64 := bitsTo (fun i => decide (rowR r i &&& s ≠ 0#64)) k.toNat
def downR (r : Rl) (s : BitVec 64) : BitVec 64 := downTo r s (pts r)
theorem bits_yes {p : Nat → Bool} {k : Int} (h0 : 0 ≤ k) (hk : k < 64) (h : p k.toNat = true) : withB (bitsTo p k.toNat) k = bitsTo p (k + 1).toNat := eq_of_bits fun j hj => by
  rw [getLsbD_withB, getLsbD_bitsTo, getLsbD_bitsTo]
  by_cases h1 : (j : Int) = k
  · have : j = k.toNat := by omega
    subst this
    have h2 : k.toNat < (k + 1).toNat := by omega
    rw [decide_eq_true h2, decide_eq_true hj, decide_eq_true h1, h]; simp
  · have h3 : (j < k.toNat) ↔ (j < (k + 1).toNat) := by omega
    rw [decide_eq_false h1, show decide (j < k.toNat) = decide (j < (k + 1).toNat) from decide_eq_decide.2 h3]; simp
theorem bits_not {p : Nat → Bool} {k : Int} (h0 : 0 ≤ k) (h : p k.toNat = false) : bitsTo p k.toNat = bitsTo p (k + 1).toNat := eq_of_bits fun j hj => by
  rw [getLsbD_bitsTo, getLsbD_bitsTo]
  by_cases h1 : j = k.toNat
  · subst h1; rw [h]; simp
  · have h3 : (j < k.toNat) ↔ (j < (k + 1).toNat) := by omega
    rw [show decide (j < k.toNat) = decide (j < (k + 1).toNat) from decide_eq_decide.2 h3]
theorem down_yes {r : Rl} {s : BitVec 64} {k : Int} (h0 : 0 ≤ k) (hk : k < 64) (h : rowR r k &&& s ≠ 0#64) : withB (downTo r s k) k = downTo r s (k + 1) :=
  bits_yes h0 hk (decide_eq_true (by rw [Int.toNat_of_nonneg h0]; exact h))
theorem down_not {r : Rl} {s : BitVec 64} {k : Int} (h0 : 0 ≤ k) (h : ¬ rowR r k &&& s ≠ 0#64) : downTo r s k = downTo r s (k + 1) :=
  bits_not h0 (decide_eq_false (by rw [Int.toNat_of_nonneg h0]; exact h))
/-! ### The closure -/
def selfTo (u : Nat → BitVec 64) (k : Int) : Nat → BitVec 64 := fun i => if (i : Int) < k then withB (u i) i else u i
def passTo (m : Nat) (k : Int) (u : Nat → BitVec 64) : Nat → BitVec 64 := fun i => if (i : Int) < k ∧ (u i).getLsbD m = true then u i ||| u m else u i
def wall (n : Int) (u : Nat → BitVec 64) : Nat → Nat → BitVec 64
  | 0 => u
  | m + 1 => passTo m n (wall n u m)
def cloR (r : Rl) : Rl := ⟨pts r, wall (pts r) (selfTo (plainR r).up (pts r)) (pts r).toNat⟩
end Go.Proofs.YtdfbimlpondblaaDoor.M
