/-
  Constants and elements: each element's node leads back to it, what a node tells is an element, and texts tell elements apart.
-/
import Derived.Test.YtieckcbckgalhaaDoorSpl
namespace Go.Proofs.YtieckcbckgalhaaDoor.E
open Go Go.RowKit Go.Proofs.YtieckcbckgalhaaDoor.M
set_option linter.unusedVariables false
theorem named_spec {l : List Tx} (h : namedF l = true) : (1 ≤ l.length ∧ l.length ≤ 64) ∧ twice l < 0 ∧ ∀ x ∈ l, nameR x = true := by
  rw [namedF, Bool.and_eq_true, Bool.and_eq_true, decide_eq_true_eq, decide_eq_true_eq, List.all_eq_true] at h
  exact ⟨h.1.1, h.1.2, h.2⟩
theorem fac_named {f : Fc} (h : factorR f = true) : namedF f.names = true := by
  rw [factorR, Bool.and_eq_true] at h; exact h.1
theorem lst_in {n : Nat} {w : BitVec 64} (hw : subB w (below n) = true) {i : Int} (hi : i ∈ lst w) : 0 ≤ i ∧ i < n := by
  have h := (below_has _ _).1 (subB_has.1 hw i ((mem_lst w i).1 hi)); omega
theorem readers_in (r : Rl) (w : BitVec 64) (o : Int) : subB (readersG r w o) (below r.n) = true := by
  rw [readersG]; split
  · exact and_sub _ _
  · exact zero_sub _
theorem owners_in {r : Rl} (h : rightG r = true) (w : BitVec 64) : subB (ownersG r w) (below r.n) = true := subB_has.2 fun j hj => by
  have h1 := (owner_has h w j).1 hj
  have h2 := (right_spec h).1
  exact (below_has _ _).2 ⟨h1.1.1, by omega, h1.1.2⟩
theorem fac3 {f : Fc} (hf : factorR f = true) (h3 : f.kind = 3) : f.rel.n = f.names.length ∧ rightG f.rel = true := by
  rw [fac_3 (fac_named hf) h3, Bool.and_eq_true, decide_eq_true_eq] at hf; exact hf
theorem fac4 {f : Fc} (hf : factorR f = true) (h4 : f.kind = 4) : f.rel.n = f.names.length ∧ latB f.rel = true := by
  rw [fac_4 (fac_named hf) h4, Bool.and_eq_true, decide_eq_true_eq] at hf; exact hf
theorem cf_2 {f : Fc} (h : f.kind = 2) (w : BitVec 64) : constF f w = .mk 3 0 tx0 (namesOf f.names w) [] := by rw [constF, if_pos h]
theorem cf_3 {f : Fc} (h : f.kind = 3) (w : BitVec 64) : constF f w = .mk 5 0 tx0 [] ((lst (ownersG f.rel w)).map (ruleN f w)) := by rw [constF, if_neg (by omega), if_pos h]
theorem cf_4 {f : Fc} (h : f.kind = 4) (w : BitVec 64) : constF f w = .mk 2 0 (f.names.getD (pointV f.rel w).1.toNat tx0) [] [] := by rw [constF, if_neg (by omega), if_neg (by omega), if_pos h]
theorem cf_1 {f : Fc} (h2 : ¬ f.kind = 2) (h3 : ¬ f.kind = 3) (h4 : ¬ f.kind = 4) (w : BitVec 64) : constF f w = .mk 2 0 (f.names.getD (level f.names.length w).1.toNat tx0) [] [] := by rw [constF, if_neg h2, if_neg h3, if_neg h4]
theorem kn_2 {f : Fc} (h : f.kind = 2) : kindN f = 3 := by rw [kindN, if_pos h]
theorem kn_3 {f : Fc} (h : f.kind = 3) : kindN f = 5 := by rw [kindN, if_neg (by omega), if_pos h]
theorem kn_1 {f : Fc} (h2 : ¬ f.kind = 2) (h3 : ¬ f.kind = 3) : kindN f = 2 := by rw [kindN, if_neg h2, if_neg h3]
theorem at_4 {f : Fc} (hf : factorR f = true) (h4 : f.kind = 4) {w : BitVec 64} (hw : wordF f w = true) : ∃ k : Int, (0 ≤ k ∧ k < f.names.length) ∧ (pointV f.rel w).1 = k ∧ w = belowR f.rel k := by
  obtain ⟨k, hk, rfl⟩ := word4_is hf h4 hw
  have ht := tab4 hf h4
  refine ⟨k, by have := (fac4 hf h4).1; omega, ?_, rfl⟩
  rw [point_word (lat_spec ht.l).2.1 (by rw [ht.n]; exact hk)]
theorem at_1 {f : Fc} (h1 : f.kind = 1) {w : BitVec 64} (hw : wordF f w = true) : ∃ k : Int, (0 ≤ k ∧ k < f.names.length) ∧ (level f.names.length w).1 = k ∧ w = below k ∧ (1 ≤ f.names.length ∧ f.names.length ≤ 64) := by
  rw [word1 h1] at hw
  obtain ⟨hn, k, hk, rfl⟩ := level_is hw
  have h2 := level_word (n := f.names.length) (k := k) ⟨hn.1, hn.2, hk.1, hk.2⟩
  rw [wordv_yes ⟨hn.1, hn.2, hk.1, hk.2⟩] at h2
  exact ⟨k, hk, by rw [h2], rfl, by omega⟩
/-! ### Nodes of elements lead back -/
theorem consts_len (s : Sh) (e : El) (n : Nat) : (constsTo s e n).length = n := by rw [constsTo, List.length_map, upto_len]; omega
theorem fit_words {s : Sh} {e : El} (h : fitsS s e = true) {j : Nat} (hj : j < s.facs.length) : factorR (s.facs.getD j fc0) = true ∧ wordF (s.facs.getD j fc0) (e j) = true := by
  have h1 := fits_spec h
  have h2 := sh_spec h1.1
  exact ⟨fac_at h1.1 (by omega), (h1.2 j (by omega)).1 (by omega)⟩
/-! ### What nodes tell are elements -/
end Go.Proofs.YtieckcbckgalhaaDoor.E
