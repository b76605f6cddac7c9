/-
  How relations and pairs, as arguments, are opened.
-/
import Derived.Test.YtieckcbckgalhaaGreatDoorRel
import Derived.Test.YtieckcbckgalhaaGreatDoorFrame
namespace Go.Proofs.YtieckcbckgalhaaGreatDoor.E
open Go Go.RowKit Go.ChangeShapes Go.WideShapes Go.ChangeAt Go.Proofs.YtieckcbckgalhaaGreatDoor.M
set_option linter.unusedVariables false

theorem agg_cells {P : Program} {w : World} {r : Reach} {b0 : Nat} {t : TypeId} {v : Value} {d : TypeDesc} {ts : List TypeId} (hs : P.underlying t = some d) (hd : d.isRow = true) (ht : P.cellTypes P.depth t = some ts) (hc : P.cellsOf t = ts.length)
    (hval : Value.okWide P w r b0 t v) : ∃ cs, v = .agg cs ∧ cs.size = ts.length ∧ ∀ (i : Nat) u, ts[i]? = some u → ∃ c, cs[i]? = some c ∧ Cell.okWide P w r b0 u c := by
  have h : ∃ cs, v = .agg cs ∧ cs.size = P.cellsOf t ∧ Row.okWide P w r b0 t cs := by
    unfold Value.okWide at hval
    rw [hs] at hval
    cases d <;> simp_all
  obtain ⟨cs, rfl, h1, ts', h2, h3, h4⟩ := h
  rw [ht] at h2
  obtain rfl := Option.some.inj h2
  refine ⟨cs, rfl, by rw [h1, hc], fun i u hu => ?_⟩
  have hi : i < ts.length := (List.getElem?_eq_some_iff.1 hu).1
  have hi2 : i < cs.size := by rw [h1, hc]; exact hi
  obtain ⟨u', h5, h6⟩ := h4 i cs[i] (by simp [hi2])
  rw [Nat.mod_eq_of_lt hi, hu] at h5
  obtain rfl := Option.some.inj h5
  exact ⟨cs[i], by simp [hi2], h6⟩
theorem cell_int {P : Program} {w : World} {r : Reach} {b0 : Nat} {t : TypeId} {v : Value} {k : IntKind} (ht : P.underlying t = some (.int k)) (h : Cell.okWide P w r b0 t v) : ∃ n, v = .int k n ∧ k.has n := by
  unfold Cell.okWide at h
  rw [ht] at h
  cases v <;> simp_all [Cell.ok]
theorem has_i {n : Int} (h : IntKind.i64.has n) : -9223372036854775808 ≤ n ∧ n ≤ 9223372036854775807 := by
  simp [IntKind.has, IntKind.min, IntKind.max, IntKind.signed, IntKind.bits] at h
  omega
theorem has_u {n : Int} (h : IntKind.u64.has n) : ∃ a : BitVec 64, n = (a.toNat : Int) := by
  simp [IntKind.has, IntKind.min, IntKind.max, IntKind.signed, IntKind.bits] at h
  refine ⟨BitVec.ofInt 64 n, ?_⟩
  rw [BitVec.toNat_ofInt]; omega
theorem open_rel {P : Program} {w : World} {r : Reach} {b0 : Nat} {t ti te : TypeId} {v : Value} {d : TypeDesc} (hs : P.underlying t = some d) (hd : d.isRow = true) (ht : P.cellTypes P.depth t = some (ti :: List.replicate 64 te)) (hc : P.cellsOf t = 65)
    (hi : P.underlying ti = some (.int .i64)) (he : P.underlying te = some (.int .u64)) (hval : Value.okWide P w r b0 t v) : ∃ rl : Rl, v = .agg (relC rl) ∧ -9223372036854775808 ≤ rl.n ∧ rl.n ≤ 9223372036854775807 := by
  obtain ⟨cs, rfl, hz, h⟩ := agg_cells hs hd ht (by rw [hc]; simp) hval
  obtain ⟨c0, h0, h1⟩ := h 0 ti rfl
  obtain ⟨n, rfl, hn⟩ := cell_int hi h1
  have hrow : ∀ j : Nat, ∃ a : BitVec 64, j < 64 → cs[j + 1]? = some (U a) := fun j => by
    by_cases hj : j < 64
    · obtain ⟨c, h2, h3⟩ := h (j + 1) te (by rw [List.getElem?_cons_succ, List.getElem?_replicate, if_pos hj])
      obtain ⟨m, rfl, hm⟩ := cell_int he h3
      obtain ⟨a, rfl⟩ := has_u hm
      exact ⟨a, fun _ => h2⟩
    · exact ⟨0#64, fun h => absurd h hj⟩
  refine ⟨⟨n, fun j => (hrow j).choose⟩, ?_, has_i hn⟩
  congr 1
  rw [relC_def]
  apply Array.ext_getElem?
  intro j
  cases j with
  | zero => rw [h0]; simp [relL]
  | succ j =>
    by_cases hj : j < 64
    · rw [(hrow j).choose_spec hj]; simp [relL, hj]
    · have e1 : cs[j + 1]? = none := by
        rw [Array.getElem?_eq_none_iff, hz]; simp; omega
      rw [e1]; simp [relL, hj]
theorem open_pair {P : Program} {w : World} {r : Reach} {b0 : Nat} {t ti : TypeId} {v : Value} {d : TypeDesc} (hs : P.underlying t = some d) (hd : d.isRow = true) (ht : P.cellTypes P.depth t = some [ti, ti]) (hc : P.cellsOf t = 2)
    (hi : P.underlying ti = some (.int .i64)) (hval : Value.okWide P w r b0 t v) : ∃ a b : Int, v = .agg #[I a, I b] ∧ (-9223372036854775808 ≤ a ∧ a ≤ 9223372036854775807) ∧ (-9223372036854775808 ≤ b ∧ b ≤ 9223372036854775807) := by
  obtain ⟨cs, rfl, hz, h⟩ := agg_cells hs hd ht (by rw [hc]; simp) hval
  obtain ⟨c0, h0, h1⟩ := h 0 ti rfl
  obtain ⟨c1, h2, h3⟩ := h 1 ti rfl
  obtain ⟨n, rfl, hn⟩ := cell_int hi h1
  obtain ⟨m, rfl, hm⟩ := cell_int hi h3
  refine ⟨n, m, ?_, has_i hn, has_i hm⟩
  congr 1
  apply Array.ext_getElem?
  intro j
  match j with
  | 0 => rw [h0]; rfl
  | 1 => rw [h2]; rfl
  | j + 2 =>
    have e1 : cs[j + 2]? = none := by
      rw [Array.getElem?_eq_none_iff, hz]; simp
    rw [e1]; simp
theorem agg_list {cs : Array Value} {n : Nat} {α : Type} {c : α → Value} (d : α) (hz : cs.size = n) (h : ∀ i, i < n → ∃ a, cs[i]? = some (c a)) : ∃ l : List α, l.length = n ∧ cs = (l.map c).toArray := by
  have hc : ∀ i : Nat, ∃ a : α, i < n → cs[i]? = some (c a) := fun i => by
    by_cases hi : i < n
    · obtain ⟨a, ha⟩ := h i hi; exact ⟨a, fun _ => ha⟩
    · exact ⟨d, fun h => absurd h hi⟩
  refine ⟨(List.range n).map fun i => (hc i).choose, by simp, ?_⟩
  apply Array.ext_getElem?
  intro j
  by_cases hj : j < n
  · rw [(hc j).choose_spec hj]; simp [hj]
  · have e1 : cs[j]? = none := by rw [Array.getElem?_eq_none_iff, hz]; omega
    rw [e1]; simp [hj]
theorem open_arrI {P : Program} {w : World} {r : Reach} {b0 n : Nat} {t te : TypeId} {v : Value} {d : TypeDesc} (hs : P.underlying t = some d) (hd : d.isRow = true) (ht : P.cellTypes P.depth t = some (List.replicate n te)) (hc : P.cellsOf t = n)
    (he : P.underlying te = some (.int .i64)) (hval : Value.okWide P w r b0 t v) : ∃ l : List Int, l.length = n ∧ v = .agg (l.map I).toArray := by
  obtain ⟨cs, rfl, hz, h⟩ := agg_cells hs hd ht (by rw [hc]; simp) hval
  obtain ⟨l, h1, rfl⟩ := agg_list (n := n) (c := I) 0 (hz.trans (by simp)) fun i hi => by
    obtain ⟨c, h2, h3⟩ := h i te (by rw [List.getElem?_replicate, if_pos hi])
    obtain ⟨m, rfl, -⟩ := cell_int he h3
    exact ⟨m, h2⟩
  exact ⟨l, h1, rfl⟩
theorem open_arrU {P : Program} {w : World} {r : Reach} {b0 n : Nat} {t te : TypeId} {v : Value} {d : TypeDesc} (hs : P.underlying t = some d) (hd : d.isRow = true) (ht : P.cellTypes P.depth t = some (List.replicate n te)) (hc : P.cellsOf t = n)
    (he : P.underlying te = some (.int .u64)) (hval : Value.okWide P w r b0 t v) : ∃ l : List (BitVec 64), l.length = n ∧ v = .agg (l.map U).toArray := by
  obtain ⟨cs, rfl, hz, h⟩ := agg_cells hs hd ht (by rw [hc]; simp) hval
  obtain ⟨l, h1, rfl⟩ := agg_list (n := n) (c := U) 0#64 (hz.trans (by simp)) fun i hi => by
    obtain ⟨c, h2, h3⟩ := h i te (by rw [List.getElem?_replicate, if_pos hi])
    obtain ⟨m, rfl, hm⟩ := cell_int he h3
    obtain ⟨a, rfl⟩ := has_u hm
    exact ⟨a, h2⟩
  exact ⟨l, h1, rfl⟩
theorem len2 {α : Type} {l : List α} (h : l.length = 2) : ∃ a b, l = [a, b] := by
  match l, h with
  | [a, b], _ => exact ⟨a, b, rfl⟩
theorem len3 {α : Type} {l : List α} (h : l.length = 3) : ∃ a b c, l = [a, b, c] := by
  match l, h with
  | [a, b, c], _ => exact ⟨a, b, c, rfl⟩
end Go.Proofs.YtieckcbckgalhaaGreatDoor.E
