/-
  How calls, as arguments, are opened.
-/
import Derived.Test.YtphknfjaellkjaaRel
import Derived.Test.YtphknfjaellkjaaFrame
import Derived.Deep.Strs
import Derived.Test.YtphknfjaellkjaaFov
namespace Go.Proofs.Ytphknfjaellkjaa.E
open Go Go.RowKit Go.ChangeShapes Go.WideShapes Go.ChangeAt Go.Proofs.Ytphknfjaellkjaa.M
set_option linter.unusedVariables false
theorem agg_cells {P : Program} {w : World} {r : Reach} {b0 : Nat} {t : TypeId} {v : Value} {d : TypeDesc} {ts : List TypeId} (hs : P.underlying t = some d) (hd : d.isRow = true) (ht : P.cellTypes P.depth t = some ts) (hc : P.cellsOf t = ts.length)
    (hval : Value.okWide P w r b0 t v) : ∃ cs, v = .agg cs ∧ cs.size = ts.length ∧ ∀ (i : Nat) u, ts[i]? = some u → ∃ c, cs[i]? = some c ∧ Cell.okWide P w r b0 u c := by
  have h : ∃ cs, v = .agg cs ∧ cs.size = P.cellsOf t ∧ Row.okWide P w r b0 t cs := by
    unfold Value.okWide at hval
    rw [hs] at hval
    cases d <;> simp_all
  obtain ⟨cs, rfl, h1, ts', h2, h3, h4⟩ := h
  rw [ht] at h2
  obtain rfl := Option.some.inj h2
  refine ⟨cs, rfl, by rw [h1, hc], fun i u hu => ?_⟩
  have hi : i < ts.length := (List.getElem?_eq_some_iff.1 hu).1
  have hi2 : i < cs.size := by rw [h1, hc]; exact hi
  obtain ⟨u', h5, h6⟩ := h4 i cs[i] (by simp [hi2])
  rw [Nat.mod_eq_of_lt hi, hu] at h5
  obtain rfl := Option.some.inj h5
  exact ⟨cs[i], by simp [hi2], h6⟩
theorem cell_int {P : Program} {w : World} {r : Reach} {b0 : Nat} {t : TypeId} {v : Value} {k : IntKind} (ht : P.underlying t = some (.int k)) (h : Cell.okWide P w r b0 t v) : ∃ n, v = .int k n ∧ k.has n := by
  unfold Cell.okWide at h
  rw [ht] at h
  cases v <;> simp_all [Cell.ok]
end Go.Proofs.Ytphknfjaellkjaa.E
namespace Go.Proofs.Ytphknfjaellkjaa.E
open Go Go.RowKit Go.ChangeShapes Go.WideShapes Go.ChangeAt Go.Proofs.Ytphknfjaellkjaa.M
set_option linter.unusedVariables false
end Go.Proofs.Ytphknfjaellkjaa.E
namespace Go.Proofs.Ytphknfjaellkjaa.E
open Go Go.RowKit Go.ChangeShapes Go.WideShapes Go.ChangeAt Go.Deep Go.Proofs.Ytphknfjaellkjaa.M
set_option linter.unusedVariables false
set_option linter.unusedSimpArgs false
theorem open_op {P : Program} {w : World} {r : Reach} {b0 : Nat} {t ti : TypeId} {v : Value} {d : TypeDesc} (hs : P.underlying t = some d) (hd : d.isRow = true) (ht : P.cellTypes P.depth t = some [ti, ti, ti]) (hc : P.cellsOf t = 3)
    (hi : P.underlying ti = some (.int .i64)) (hval : Value.okWide P w r b0 t v) : ∃ o : OpR, v = .agg (opL o).toArray := by
  obtain ⟨cs, rfl, hz, h⟩ := agg_cells hs hd ht (by rw [hc]; simp) hval
  obtain ⟨c0, q0, q1⟩ := h 0 ti rfl
  obtain ⟨c1, q2, q3⟩ := h 1 ti rfl
  obtain ⟨c2, q4, q5⟩ := h 2 ti rfl
  obtain ⟨a, rfl, -⟩ := cell_int hi q1
  obtain ⟨b, rfl, -⟩ := cell_int hi q3
  obtain ⟨c, rfl, -⟩ := cell_int hi q5
  refine ⟨⟨a, b, c⟩, ?_⟩
  congr 1
  apply Array.ext_getElem?
  intro j
  match j with
  | 0 => rw [q0]; rfl
  | 1 => rw [q2]; rfl
  | 2 => rw [q4]; rfl
  | j + 3 =>
    have e1 : cs[j + 3]? = none := by
      rw [Array.getElem?_eq_none_iff, hz]; simp
    rw [e1]; simp [opL]
end Go.Proofs.Ytphknfjaellkjaa.E
