/-
  How slices, as arguments, are opened: by what each of their elements is.
-/
import Derived.Test.YtieckcbckgalhaaDoorOpen
namespace Go.Proofs.YtieckcbckgalhaaDoor.E
open Go Go.RowKit Go.ChangeShapes Go.WideShapes Go.ChangeAt Go.Proofs.YtieckcbckgalhaaDoor.M
set_option linter.unusedVariables false
theorem flat_at {α : Type} (cells : α → List Value) (sz : Nat) (hsz : ∀ a, (cells a).length = sz) : ∀ (l : List α) (j : Nat) (c : Value), (l.flatMap cells)[j]? = some c → ∃ i a r, l[i]? = some a ∧ j = i * sz + r ∧ r < sz ∧ (cells a)[r]? = some c
  | [], j, c, h => by simp at h
  | a :: l, j, c, h => by
    rw [List.flatMap_cons] at h
    by_cases hj : j < sz
    · rw [List.getElem?_append_left (by rw [hsz]; exact hj)] at h
      exact ⟨0, a, j, rfl, by omega, hj, h⟩
    · rw [List.getElem?_append_right (by rw [hsz]; omega), hsz] at h
      obtain ⟨i, b, r, h1, h2, h3, h4⟩ := flat_at cells sz hsz l _ c h
      exact ⟨i + 1, b, r, by simpa using h1, by rw [Nat.add_mul]; omega, h3, h4⟩
theorem flat_len {α : Type} (cells : α → List Value) (sz : Nat) (hsz : ∀ a, (cells a).length = sz) (l : List α) : (l.flatMap cells).length = l.length * sz := by
  induction l with
  | nil => simp
  | cons a l ih => rw [List.flatMap_cons, List.length_append, hsz, ih, List.length_cons, Nat.add_mul]; omega
end Go.Proofs.YtieckcbckgalhaaDoor.E
