/-
  Covers and chains of an order as the document counts them; relations made of pairs.
-/
import Derived.Test.YtdfbimlpondblaaDoorClo
namespace Go.Proofs.YtdfbimlpondblaaDoor.M
set_option linter.unusedVariables false
theorem hasB_iff {s : BitVec 64} {j : Int} : hasB s j = true ↔ (0 ≤ j ∧ j < 64) ∧ s.getLsbD j.toNat = true := by
  rw [hasB, Bool.and_eq_true, inB, decide_eq_true_eq]
theorem hasR_bd {r : Rl} {i j : Int} (h : hasR r i j = true) : (0 ≤ i ∧ i < pts r) ∧ (0 ≤ j ∧ j < pts r) := by have := hasR_bit h; exact ⟨this.1, this.2.1⟩
/-! ### Levels -/
def lev (r : Rl) : Nat → BitVec 64
  | 0 => below (pts r)
  | k + 1 => stepL r (lev r k)
def FarOk (r : Rl) (F : Nat → Int) : Prop := ∀ j : Int, 0 ≤ j → j < pts r → 0 ≤ F j.toNat ∧ hasB (lev r (F j.toNat).toNat) j = true
def putF (F : Nat → Int) (i : Nat) (x : Int) : Nat → Int := fun j => if j = i then x else F j
theorem put_ge {F : Nat → Int} {i : Nat} {x : Int} (h : F i ≤ x) (k : Nat) : F k ≤ putF F i x k := by
  unfold putF; split
  · rename_i e; rw [e]; exact h
  · exact Int.le_refl _
def FarRow (r : Rl) (F0 F : Nat → Int) (i k : Int) : Prop := ∀ j : Int, j < k → hasR r i j = true → i ≠ j → F0 i.toNat + 1 ≤ F j.toNat
def FarAll (r : Rl) (F0 F : Nat → Int) (k : Int) : Prop := ∀ i : Int, i < k → FarRow r F0 F i (pts r)
def FarGe (F0 F : Nat → Int) : Prop := ∀ k, F0 k ≤ F k
theorem FarGe.refl (F : Nat → Int) : FarGe F F := fun _ => Int.le_refl _
theorem FarGe.put {F0 F : Nat → Int} {i : Nat} {x : Int} (h : FarGe F0 F) (hx : F i ≤ x) : FarGe F0 (putF F i x) := fun k => Int.le_trans (h k) (put_ge hx k)
theorem FarRow.put {r : Rl} {F0 F : Nat → Int} {i k : Int} {j : Nat} {x : Int} (h : FarRow r F0 F i k) (hx : F j ≤ x) : FarRow r F0 (putF F j x) i k := fun y h1 h2 h3 => Int.le_trans (h y h1 h2 h3) (put_ge hx _)
theorem FarAll.put {r : Rl} {F0 F : Nat → Int} {k : Int} {j : Nat} {x : Int} (h : FarAll r F0 F k) (hx : F j ≤ x) : FarAll r F0 (putF F j x) k := fun i hi => (h i hi).put hx
theorem FarRow.next {r : Rl} {F0 F : Nat → Int} {i k : Int} (h : FarRow r F0 F i k) (hk : hasR r i k = true → i ≠ k → F0 i.toNat + 1 ≤ F k.toNat) : FarRow r F0 F i (k + 1) := fun j h1 h2 h3 => by
  by_cases he : j = k
  · subst he; exact hk h2 h3
  · exact h j (by omega) h2 h3
theorem FarRow.none (r : Rl) (F0 F : Nat → Int) (i : Int) : FarRow r F0 F i 0 := fun j h1 h2 _ => by have := (hasR_bd h2).2; omega
theorem FarAll.none (r : Rl) (F0 F : Nat → Int) : FarAll r F0 F 0 := fun i hi j _ h2 _ => by have := (hasR_bd h2).1; omega
theorem FarAll.next {r : Rl} {F0 F : Nat → Int} {i k : Int} (h : FarAll r F0 F i) (hk : ¬ k < pts r) (h2 : FarRow r F0 F i k) : FarAll r F0 F (i + 1) := fun x hx => by
  by_cases he : x = i
  · subst he; exact fun j h3 h4 h5 => h2 j (by omega) h4 h5
  · exact h x (by omega)
def FarUp (r : Rl) (F : Nat → Int) (k : Int) : Prop := ∀ (v : Nat) (j : Int), (v : Int) ≤ k → hasB (lev r v) j = true → (v : Int) ≤ F j.toNat
/-! ### Covers by definition -/
def midB (r : Rl) (i j k : Int) : Bool := (upto k).any fun x => decide (x ≠ i) && decide (x ≠ j) && hasR r i x && hasR r x j
def covP (r : Rl) (i j : Int) : Bool := decide (i ≠ j) && hasR r i j && !midB r i j (pts r)
def covsTo (r : Rl) (i k : Int) : List (Int × Int) := ((upto k).filter (covP r i ·)).map fun y => (i, y)
/-! ### Relations of pairs -/
/-! ### A relation of pairs, with one more -/
def Tidy (r : Rl) : Prop := r.n = pts r ∧ ∀ i j : Nat, (r.up i).getLsbD j = true → (i : Int) < pts r ∧ (j : Int) < pts r
theorem Tidy.plain {r : Rl} (h : Tidy r) : plainR r = r := by
  obtain ⟨n, u⟩ := r
  have hn : n = pts ⟨n, u⟩ := h.1
  show (⟨pts ⟨n, u⟩, _⟩ : Rl) = ⟨n, u⟩
  rw [← hn]
  refine rl_ext fun i => eq_of_bits fun j hj => ?_
  rw [Bool.eq_iff_iff]
  by_cases hi : (i : Int) < n
  · rw [if_pos hi, row_bit, Bool.and_eq_true, decide_eq_true_eq]
    exact ⟨fun h2 => h2.1, fun h2 => ⟨h2, by omega, (h.2 i j h2).2⟩⟩
  · rw [if_neg hi]
    constructor
    · intro h2; simp at h2
    · intro h2; exact absurd (by have := (h.2 i j h2).1; rw [← hn] at this; exact this) hi
def inQ (n : Int) (q : Int × Int) : Bool := decide (0 ≤ q.1 ∧ 0 ≤ q.2 ∧ q.1 < pts ⟨n, fun _ => 0#64⟩ ∧ q.2 < pts ⟨n, fun _ => 0#64⟩)
def inR (r : Rl) (q : Int × Int) : Bool := decide (0 ≤ q.1 ∧ 0 ≤ q.2 ∧ q.1 < pts r ∧ q.2 < pts r)
def wantTo (n : Int) (p : Int × Int) (l : List (Int × Int)) (k : Int) : Bool := (l.take k.toNat).any fun q => decide (q = p) && inQ n q
end Go.Proofs.YtdfbimlpondblaaDoor.M
