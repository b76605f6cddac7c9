/-
  Several results, of which some are records: what is returned.
-/
import Derived.Test.YtieckcbckgalhaaGreatDoorRec
namespace Go.Proofs.YtieckcbckgalhaaGreatDoor.E
open Go Go.RowKit Go.Proofs.YtieckcbckgalhaaGreatDoor.M
set_option linter.unusedVariables false
section
variable {P : Program} {fn : Func} {w0 w : World} {L : List Ent} {i j p p2 t : Nat} {q : Value → World → Prop} {d d2 : TypeDesc} {c c2 : Array Value} {ty ty2 e e2 : TypeId} {b b2 : Nat} {fr fr2 : Nat × Nat} {σ : Env} {v : Value}
theorem outCT (h : fn.results = #[.cell p ty, .tmp t]) (hp : σ p = .pointer (some ⟨b, 0, none⟩)) (ht : σ t = v) (hH : Hp w0 w L)
    (hi : L[i]? = some (.blk b (.cells c e fr))) (hu : P.underlying ty = some d) (hd : d.isRow = true) (hz : (P.info? ty).map (·.size) = some c.size) (hq : q (.tuple #[.agg c, v]) w) : Out P fn q σ w :=
  fun n a ha => ⟨_, by
    have h1 : a.tmps[p]?.getD undef = .pointer (some ⟨b, 0, none⟩) := by have := ha.get p; rw [hp] at this; simpa using this
    have h2 : a.tmps[t]?.getD undef = v := by have := ha.get t; rw [ht] at this; simpa using this
    simp [results, h, h1, h2, asAddr, run_loadVar_row (P := P) w b e ty c fr d (hH.blk hi) hu (by cases d <;> simp_all) hz], hq⟩
end
end Go.Proofs.YtieckcbckgalhaaGreatDoor.E
