/-
  Forests and the relation of what was joined.
-/
import Derived.Test.YtphknfjaellkjaaFov
import Derived.Test.YtphknfjaellkjaaFsw
import Derived.Test.YtphknfjaellkjaaCov
namespace Go.Proofs.Ytphknfjaellkjaa.E
open Go Go.RowKit Go.Proofs.Ytphknfjaellkjaa.M
set_option linter.unusedVariables false
set_option linter.unusedSimpArgs false
end Go.Proofs.Ytphknfjaellkjaa.E
namespace Go.Proofs.Ytphknfjaellkjaa.M
open Go
set_option linter.unusedVariables false
set_option linter.unusedSimpArgs false
def orB (r : Rl) (i j : Int) : Rl := r.put i.toNat (r.up i.toNat ||| (1#64 <<< (BitVec.ofInt 64 j).toNat))
def inPr (n : Int) (a b : Int) : Prop := 0 ≤ a ∧ 0 ≤ b ∧ a < n ∧ b < n
instance (n a b : Int) : Decidable (inPr n a b) := inferInstanceAs (Decidable (_ ∧ _))
section
variable {r : Rl} {cs : List (List Nat)} {a b : Int}
theorem RelC.start {n : Int} (h : 0 ≤ n ∧ n ≤ 60) : RelC ⟨n, fun _ => 0#64⟩ (List.range n.toNat) := by
  have hp : pts ⟨n, fun _ => 0#64⟩ = n := by unfold pts; show max 0 (min n 64) = n; omega
  have h0 : ∀ i j : Int, hasR ⟨n, fun _ => 0#64⟩ i j = false := fun i j => by simp [hasR]
  refine ⟨by rw [hp, List.length_range]; omega, fun i j e => ?_, fun i j e => ?_, fun i hi => ?_⟩
  · rw [h0] at e; cases e
  · rw [h0] at e; cases e
  · rw [List.length_range] at hi
    have : clF (List.range n.toNat) i = i := by unfold clF; rw [List.getD_eq_getElem?_getD, List.getElem?_range hi]; rfl
    rw [this]
    exact clo_refl (by rw [hp]; omega)
theorem un_skip (h : ¬ inPr (nowC cs).length a b) : unionC cs a b = (cs, false) := by
  refine union_no fun q => h ?_
  obtain ⟨q1, q2, -⟩ := q
  exact ⟨q1.1, q2.1, q1.2, q2.2⟩
theorem RelC.skip (h : RelC r (nowC cs)) (hn : ¬ inPr (nowC cs).length a b) : RelC r (nowC (unionC cs a b).1) := by rw [un_skip hn]; exact h
end
end Go.Proofs.Ytphknfjaellkjaa.M
namespace Go.Proofs.Ytphknfjaellkjaa.E
open Go Go.RowKit Go.Proofs.Ytphknfjaellkjaa.M
end Go.Proofs.Ytphknfjaellkjaa.E
