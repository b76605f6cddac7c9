/-
  Forests, plainly: nodes that point up, rings, classes.
-/
import Derived.Test.YtdfbimlpondblaaDoorPlain
namespace Go.Proofs.YtdfbimlpondblaaDoor.M
open Go
set_option linter.unusedVariables false
set_option linter.unusedSimpArgs false
structure Fnd where
  up : Nat
  size : Nat
  next : Nat
  least : Nat
def fnd0 : Fnd := ⟨0, 0, 0, 0⟩
def Wk (f : Nat → Nat) : Nat → List Nat → Nat → Prop
  | v, [], y => v = y
  | v, z :: l, y => v = z ∧ Wk f (f z) l y
theorem Wk.app {f : Nat → Nat} {l m : List Nat} {v z y : Nat} : Wk f v (l ++ z :: m) y ↔ Wk f v l z ∧ Wk f (f z) m y := by
  induction l generalizing v with
  | nil => exact Iff.rfl
  | cons a l ih => simp only [List.cons_append, Wk, ih, and_assoc]
theorem Wk.congr {f g : Nat → Nat} {l : List Nat} {v y : Nat} (h : Wk f v l y) (he : ∀ x ∈ l, g x = f x) : Wk g v l y := by
  induction l generalizing v with
  | nil => exact h
  | cons a l ih => exact ⟨h.1, by rw [he a (by simp)]; exact ih h.2 fun x hx => he x (List.mem_cons_of_mem _ hx)⟩
def Ring (f : Nat → Nat) (i : Nat) (t : List Nat) : Prop := Wk f (f i) t i ∧ (i :: t).Nodup
theorem Ring.keep {f g : Nat → Nat} {i : Nat} {t : List Nat} (h : Ring f i t) (he : ∀ x ∈ i :: t, g x = f x) : Ring g i t :=
  ⟨by rw [he i (by simp)]; exact h.1.congr fun x hx => he x (List.mem_cons_of_mem _ hx), h.2⟩
def upF (nd : List Fnd) (i : Nat) : Nat := (nd.getD i fnd0).up
def szF (nd : List Fnd) (i : Nat) : Nat := (nd.getD i fnd0).size
def nxF (nd : List Fnd) (i : Nat) : Nat := (nd.getD i fnd0).next
def leF (nd : List Fnd) (i : Nat) : Nat := (nd.getD i fnd0).least
def clF (cl : List Nat) (i : Nat) : Nat := cl.getD i 0
structure Fo (nd : List Fnd) (cl : List Nat) : Prop where
  len : cl.length = nd.length
  up : ∀ i, i < nd.length → upF nd i < nd.length
  sz : ∀ i, i < nd.length → upF nd i ≠ i → szF nd i < szF nd (upF nd i)
  sn : ∀ i, i < nd.length → szF nd i ≤ nd.length
  si : ∀ i, i < nd.length → upF nd i = i → szF nd i = cl.count (clF cl i)
  uc : ∀ i, i < nd.length → clF cl (upF nd i) = clF cl i
  one : ∀ i j, i < nd.length → j < nd.length → upF nd i = i → upF nd j = j → clF cl i = clF cl j → i = j
  le : ∀ i, i < nd.length → upF nd i = i → leF nd i = clF cl i
  lc : ∀ i, i < nd.length → clF cl i ≤ i ∧ clF cl (clF cl i) = clF cl i
  ring : ∀ i, i < nd.length → ∃ t, Ring (nxF nd) i t ∧ ∀ k, k ∈ i :: t ↔ k < nd.length ∧ clF cl k = clF cl i
theorem Fo.nil : Fo [] [] := ⟨rfl, fun i h => (by cases h), fun i h => (by cases h), fun i h => (by cases h), fun i h => (by cases h), fun i h => (by cases h), fun i j h => (by cases h), fun i h => (by cases h), fun i h => (by cases h), fun i h => (by cases h)⟩
def newN (n : Nat) : Fnd := ⟨n, 1, n, n⟩
section
variable {nd : List Fnd} {cl : List Nat} {α : Type} {d x : α} {l : List α} {i : Nat}
theorem getD_l (h : i < l.length) : (l ++ [x]).getD i d = l.getD i d := by
  rw [List.getD_eq_getElem?_getD, List.getD_eq_getElem?_getD, List.getElem?_append_left h]
theorem getD_r : (l ++ [x]).getD l.length d = x := by
  rw [List.getD_eq_getElem?_getD, List.getElem?_append_right (Nat.le_refl _)]; simp
theorem Fo.add (h : Fo nd cl) : Fo (nd ++ [newN nd.length]) (cl ++ [nd.length]) := by
  have hl := h.len
  have gu : ∀ i, i < nd.length → (nd ++ [newN nd.length]).getD i fnd0 = nd.getD i fnd0 := fun i hi => getD_l hi
  have gn : (nd ++ [newN nd.length]).getD nd.length fnd0 = newN nd.length := getD_r
  have gc : ∀ i, i < nd.length → clF (cl ++ [nd.length]) i = clF cl i := fun i hi => getD_l (by omega)
  have gcn : clF (cl ++ [nd.length]) nd.length = nd.length := by unfold clF; rw [← hl]; exact getD_r
  have cs : ∀ i, i < (nd ++ [newN nd.length]).length → i < nd.length ∨ i = nd.length := fun i hi => by rw [List.length_append, List.length_singleton] at hi; omega
  have ln : (nd ++ [newN nd.length]).length = nd.length + 1 := by simp
  have clt : ∀ i, i < nd.length → clF cl i < nd.length := fun i hi => by have := (h.lc i hi).1; omega
  have cnt0 : cl.count nd.length = 0 := by
    rw [List.count_eq_zero]; intro hm
    obtain ⟨k, hk, e⟩ := List.getElem_of_mem hm
    have := clt k (by omega)
    unfold clF at this
    rw [List.getD_eq_getElem?_getD, List.getElem?_eq_getElem hk, Option.getD_some, e] at this
    omega
  refine ⟨by simp [hl], fun i hi => ?_, fun i hi => ?_, fun i hi => ?_, fun i hi hu => ?_, fun i hi => ?_, fun i j hi hj hu hv hc => ?_, fun i hi hu => ?_, fun i hi => ?_, fun i hi => ?_⟩
  · rw [ln]; unfold upF; rcases cs i hi with q | rfl
    · rw [gu i q]; have := h.up i q; unfold upF at this; omega
    · rw [gn]; show nd.length < _; omega
  · unfold upF szF; rcases cs i hi with q | rfl
    · have hu := h.up i q
      unfold upF at hu
      rw [gu i q, gu _ hu]; exact h.sz i q
    · rw [gn]; intro hh; exact absurd rfl hh
  · rw [ln]; unfold szF; rcases cs i hi with q | rfl
    · rw [gu i q]; have := h.sn i q; unfold szF at this; omega
    · rw [gn]; show 1 ≤ _; omega
  · unfold szF; unfold upF at hu; rcases cs i hi with q | rfl
    · rw [gu i q] at hu ⊢; rw [gc i q, List.count_append]
      have := h.si i q hu; unfold szF at this
      rw [this, List.count_singleton]
      have := clt i q
      rw [if_neg (by simp; omega)]; omega
    · rw [gn, gcn, List.count_append, cnt0, List.count_singleton, if_pos (by simp)]; rfl
  · unfold upF; rcases cs i hi with q | rfl
    · have hu := h.up i q
      have := h.uc i q
      unfold upF at hu this
      rw [gu i q, gc i q, gc _ hu]; exact this
    · rw [gn]; rfl
  · unfold upF at hu hv; rcases cs i hi with q | rfl <;> rcases cs j hj with r | rfl
    · rw [gu _ q] at hu; rw [gu _ r] at hv; rw [gc _ q, gc _ r] at hc; exact h.one i j q r hu hv hc
    · rw [gc _ q, gcn] at hc; have := clt i q; omega
    · rw [gc _ r, gcn] at hc; have := clt j r; omega
    · rfl
  · unfold leF; unfold upF at hu; rcases cs i hi with q | rfl
    · rw [gu _ q] at hu ⊢; rw [gc _ q]; exact h.le i q hu
    · rw [gn, gcn]; rfl
  · rcases cs i hi with q | rfl
    · rw [gc _ q, gc _ (clt i q)]; exact h.lc i q
    · rw [gcn, gcn]; exact ⟨Nat.le_refl _, rfl⟩
  · rcases cs i hi with q | rfl
    · obtain ⟨t, ht, hm⟩ := h.ring i q
      refine ⟨t, ht.keep fun x hx => ?_, fun k => ?_⟩
      · unfold nxF; rw [gu x ((hm x).1 hx).1]
      · rw [hm k, ln, gc i q]
        constructor
        · rintro ⟨a, b⟩; exact ⟨by omega, by rw [gc k a]; exact b⟩
        · rintro ⟨a, b⟩
          rcases cs k (by rw [ln]; exact a) with r | rfl
          · exact ⟨r, by rw [← gc k r]; exact b⟩
          · rw [gcn] at b; have := clt i q; omega
    · refine ⟨[], ⟨by show nxF _ _ = _; unfold nxF; rw [gn]; rfl, by simp⟩, fun k => ?_⟩
      rw [List.mem_singleton, ln, gcn]
      constructor
      · rintro rfl; exact ⟨by omega, gcn⟩
      · rintro ⟨a, b⟩
        rcases cs k (by rw [ln]; exact a) with r | rfl
        · rw [gc k r] at b; have := clt k r; omega
        · rfl
end
def joinN (nd : List Fnd) (a b : Nat) : List Fnd := (nd.set b ⟨a, szF nd b, nxF nd a, leF nd b⟩).set a ⟨upF nd a, szF nd a + szF nd b, nxF nd b, min (leF nd a) (leF nd b)⟩
def mixC (x y c : Nat) : Nat := if c = x ∨ c = y then min x y else c
def joinC (cl : List Nat) (x y : Nat) : List Nat := cl.map (mixC x y)
section
variable {nd : List Fnd} {cl : List Nat} {a b : Nat}
end
end Go.Proofs.YtdfbimlpondblaaDoor.M
