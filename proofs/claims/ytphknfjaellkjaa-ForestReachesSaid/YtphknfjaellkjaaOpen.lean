/-
  How relations and pairs, as arguments, are opened.
-/
import Derived.Test.YtphknfjaellkjaaRel
import Derived.Test.YtphknfjaellkjaaFrame
namespace Go.Proofs.Ytphknfjaellkjaa.E
open Go Go.RowKit Go.ChangeShapes Go.WideShapes Go.ChangeAt Go.Proofs.Ytphknfjaellkjaa.M
set_option linter.unusedVariables false
theorem agg_cells {P : Program} {w : World} {r : Reach} {b0 : Nat} {t : TypeId} {v : Value} {d : TypeDesc} {ts : List TypeId} (hs : P.underlying t = some d) (hd : d.isRow = true) (ht : P.cellTypes P.depth t = some ts) (hc : P.cellsOf t = ts.length)
    (hval : Value.okWide P w r b0 t v) : ∃ cs, v = .agg cs ∧ cs.size = ts.length ∧ ∀ (i : Nat) u, ts[i]? = some u → ∃ c, cs[i]? = some c ∧ Cell.okWide P w r b0 u c := by
  have h : ∃ cs, v = .agg cs ∧ cs.size = P.cellsOf t ∧ Row.okWide P w r b0 t cs := by
    unfold Value.okWide at hval
    rw [hs] at hval
    cases d <;> simp_all
  obtain ⟨cs, rfl, h1, ts', h2, h3, h4⟩ := h
  rw [ht] at h2
  obtain rfl := Option.some.inj h2
  refine ⟨cs, rfl, by rw [h1, hc], fun i u hu => ?_⟩
  have hi : i < ts.length := (List.getElem?_eq_some_iff.1 hu).1
  have hi2 : i < cs.size := by rw [h1, hc]; exact hi
  obtain ⟨u', h5, h6⟩ := h4 i cs[i] (by simp [hi2])
  rw [Nat.mod_eq_of_lt hi, hu] at h5
  obtain rfl := Option.some.inj h5
  exact ⟨cs[i], by simp [hi2], h6⟩
theorem cell_int {P : Program} {w : World} {r : Reach} {b0 : Nat} {t : TypeId} {v : Value} {k : IntKind} (ht : P.underlying t = some (.int k)) (h : Cell.okWide P w r b0 t v) : ∃ n, v = .int k n ∧ k.has n := by
  unfold Cell.okWide at h
  rw [ht] at h
  cases v <;> simp_all [Cell.ok]
theorem has_i {n : Int} (h : IntKind.i64.has n) : -9223372036854775808 ≤ n ∧ n ≤ 9223372036854775807 := by
  simp [IntKind.has, IntKind.min, IntKind.max, IntKind.signed, IntKind.bits] at h
  omega
theorem open_pair {P : Program} {w : World} {r : Reach} {b0 : Nat} {t ti : TypeId} {v : Value} {d : TypeDesc} (hs : P.underlying t = some d) (hd : d.isRow = true) (ht : P.cellTypes P.depth t = some [ti, ti]) (hc : P.cellsOf t = 2)
    (hi : P.underlying ti = some (.int .i64)) (hval : Value.okWide P w r b0 t v) : ∃ a b : Int, v = .agg #[I a, I b] ∧ (-9223372036854775808 ≤ a ∧ a ≤ 9223372036854775807) ∧ (-9223372036854775808 ≤ b ∧ b ≤ 9223372036854775807) := by
  obtain ⟨cs, rfl, hz, h⟩ := agg_cells hs hd ht (by rw [hc]; simp) hval
  obtain ⟨c0, h0, h1⟩ := h 0 ti rfl
  obtain ⟨c1, h2, h3⟩ := h 1 ti rfl
  obtain ⟨n, rfl, hn⟩ := cell_int hi h1
  obtain ⟨m, rfl, hm⟩ := cell_int hi h3
  refine ⟨n, m, ?_, has_i hn, has_i hm⟩
  congr 1
  apply Array.ext_getElem?
  intro j
  match j with
  | 0 => rw [h0]; rfl
  | 1 => rw [h2]; rfl
  | j + 2 =>
    have e1 : cs[j + 2]? = none := by
      rw [Array.getElem?_eq_none_iff, hz]; simp
    rw [e1]; simp
end Go.Proofs.Ytphknfjaellkjaa.E
