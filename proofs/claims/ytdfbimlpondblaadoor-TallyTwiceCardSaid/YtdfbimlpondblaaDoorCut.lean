/-
  Cuts: what a part of the code comes to is said once, however many orders it may be taken in.
-/
import Derived.Test.YtdfbimlpondblaaDoorShr
namespace Go.Proofs.YtdfbimlpondblaaDoor.E
open Go Go.RowKit Go.Proofs.YtdfbimlpondblaaDoor.M
set_option linter.unusedVariables false
theorem CW.cutF {P : Program} {n : Nat} {k : K} {xs : List (Nat × K)} {r : K} {σ : Env} {w : World} {x y : Code} (ws : List Nat) (R : K) (h : CW P n x (fun s w => Fr ws σ s ∧ R s w) xs r σ w) (h' : ∀ s w, Fr ws σ s → R s w → CW P n y k xs r s w) : CW P n (.seq x y) k xs r σ w :=
  CW.cut _ h fun s w ⟨a, b⟩ => h' s w a b
theorem AN.three {P : Program} {n : Nat} {l : List Oper} {S : World → Prop} {k : K} {σ : Env} {w : World} {fuel : Nat} {listed : Array Bool} (i j m : Nat) (hr : Region.ready .any l.toArray listed = [i, j, m]) (h1 : AO P n l S k fuel listed σ w i) (h2 : AO P n l S k fuel listed σ w j) (h3 : AO P n l S k fuel listed σ w m) : AN P n l S k (fuel + 1) listed σ w :=
  AN.all [i, j, m] hr rfl fun x hx => by
    simp at hx
    rcases hx with rfl | rfl | rfl
    · exact h1
    · exact h2
    · exact h3
end Go.Proofs.YtdfbimlpondblaaDoor.E
