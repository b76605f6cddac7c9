/-
  Constants and elements: each element's node leads back to it, what a node tells is an element, and texts tell elements apart.
-/
import Derived.Test.YtieckcbckgalhaaGreatDoorSpl
namespace Go.Proofs.YtieckcbckgalhaaGreatDoor.E
open Go Go.RowKit Go.Proofs.YtieckcbckgalhaaGreatDoor.M
set_option linter.unusedVariables false
theorem names_uniq {l : List Tx} (h : twice l < 0) {i : Int} (i0 : 0 ≤ i) (i1 : i < l.length) : nfind l (l.getD i.toNat tx0) = i := by
  have h1 := nfind_ge i0 i1
  rcases find_cases (fun i => decide (nfind l (l.getD i.toNat tx0) < i)) l.length with ⟨k, k0, -, -, -, e⟩ | ⟨hn, -⟩
  · rw [twice, e] at h; omega
  · have h2 := of_decide_eq_false (hn i i0 i1); omega
theorem named_spec {l : List Tx} (h : namedF l = true) : (1 ≤ l.length ∧ l.length ≤ 64) ∧ twice l < 0 ∧ ∀ x ∈ l, nameR x = true := by
  rw [namedF, Bool.and_eq_true, Bool.and_eq_true, decide_eq_true_eq, decide_eq_true_eq, List.all_eq_true] at h
  exact ⟨h.1.1, h.1.2, h.2⟩
theorem fac_named {f : Fc} (h : factorR f = true) : namedF f.names = true := by
  rw [factorR, Bool.and_eq_true] at h; exact h.1
theorem name_at {l : List Tx} (h : namedF l = true) {i : Int} (i0 : 0 ≤ i) (i1 : i < l.length) : nameR (l.getD i.toNat tx0) = true :=
  (named_spec h).2.2 _ (List.mem_of_getElem? (getD_at (d := tx0) i0 i1))
theorem lst_in {n : Nat} {w : BitVec 64} (hw : subB w (below n) = true) {i : Int} (hi : i ∈ lst w) : 0 ≤ i ∧ i < n := by
  have h := (below_has _ _).1 (subB_has.1 hw i ((mem_lst w i).1 hi)); omega
theorem got_list {l : List Tx} (h : twice l < 0) : ∀ (is : List Int) (s : BitVec 64), (∀ i ∈ is, 0 ≤ i ∧ i < l.length) → gotP l (is.map fun i => (⟨l.getD i.toNat tx0, 0⟩ : Wd)) s = .ok (is.foldl withB s)
  | [], s, _ => rfl
  | i :: is, s, hi => by
    have h1 := hi i (List.mem_cons_self ..)
    have h2 := names_uniq h h1.1 h1.2
    rw [List.map_cons, gotP, show (⟨l.getD i.toNat tx0, 0⟩ : Wd).text = l.getD i.toNat tx0 from rfl, h2, if_neg (by omega)]
    exact got_list h is _ fun j hj => hi j (List.mem_cons_of_mem _ hj)
theorem foldl_with : ∀ (is js : List Int), is.foldl withB (ofl js) = ofl (js ++ is)
  | [], js => by simp
  | i :: is, js => by
    rw [List.foldl_cons, withB_ofl, foldl_with is (js ++ [i]), List.append_assoc]; rfl
theorem places_back {l : List Tx} (h : twice l < 0) {w : BitVec 64} (hw : subB w (below l.length) = true) : placesG l (namesOf l w) = .ok w := by
  rw [placesG, namesOf, got_list h _ _ (fun i hi => lst_in hw hi), ← ofl_nil, foldl_with, List.nil_append, ofl_lst]
theorem words_back {l : List Tx} (h : namedF l = true) {w : BitVec 64} (hw : subB w (below l.length) = true) : wordsR (namesOf l w) = true := by
  rw [wordsR, List.all_eq_true]
  intro x hx
  rw [namesOf, List.mem_map] at hx
  obtain ⟨i, hi, rfl⟩ := hx
  have := lst_in hw hi
  exact name_at h this.1 this.2
theorem readers_in (r : Rl) (w : BitVec 64) (o : Int) : subB (readersG r w o) (below r.n) = true := by
  rw [readersG]; split
  · exact and_sub _ _
  · exact zero_sub _
theorem owners_in {r : Rl} (h : rightG r = true) (w : BitVec 64) : subB (ownersG r w) (below r.n) = true := subB_has.2 fun j hj => by
  have h1 := (owner_has h w j).1 hj
  have h2 := (right_spec h).1
  exact (below_has _ _).2 ⟨h1.1.1, by omega, h1.1.2⟩
theorem rules_list {f : Fc} (hf : namedF f.names = true) (hn : f.rel.n = f.names.length) (w : BitVec 64) : ∀ (os : List Int) (m : BitVec 64), (∀ o ∈ os, 0 ≤ o ∧ o < f.names.length) →
    rulesG f (os.map (ruleN f w)) m = .ok (os.foldl (fun a o => a ||| ruleG f.rel o (readersG f.rel w o)) m)
  | [], m, _ => rfl
  | o :: os, m, ho => by
    have h1 := ho o (List.mem_cons_self ..)
    have h2 := names_uniq (named_spec hf).2.1 h1.1 h1.2
    have h3 : placesG f.names (namesOf f.names (readersG f.rel w o)) = .ok (readersG f.rel w o) := places_back (named_spec hf).2.1 (by rw [← hn]; exact readers_in _ _ _)
    rw [List.map_cons, rulesG, show (ruleN f w o).text = f.names.getD o.toNat tx0 from rfl, show (ruleN f w o).names = namesOf f.names (readersG f.rel w o) from rfl, h2, if_neg (by omega), h3]
    exact rules_list hf hn w os _ fun j hj => ho j (List.mem_cons_of_mem _ hj)
theorem wordG_k {f : Fc} {n : Nd} (hk : n.kind = kindN f) : wordG f n = if f.kind = 2 then placesG f.names n.names else if f.kind = 3 then rulesG f n.kids 0#64 else pointG f n := by rw [wordG, if_neg (fun e => e hk)]
theorem const2_yes {t : Tx} (h : nameR t = true) : constB (.mk 2 0 t [] []) = true := by
  rw [const_eq]; show (if (2 : Int) = 2 then nameR t && decide (([] : List Wd).length = 0 ∧ ([] : List Nd).length = 0) else _) = true
  rw [if_pos rfl, h]; rfl
theorem fac3 {f : Fc} (hf : factorR f = true) (h3 : f.kind = 3) : f.rel.n = f.names.length ∧ rightG f.rel = true := by
  rw [fac_3 (fac_named hf) h3, Bool.and_eq_true, decide_eq_true_eq] at hf; exact hf
theorem fac4 {f : Fc} (hf : factorR f = true) (h4 : f.kind = 4) : f.rel.n = f.names.length ∧ latB f.rel = true := by
  rw [fac_4 (fac_named hf) h4, Bool.and_eq_true, decide_eq_true_eq] at hf; exact hf
theorem cf_2 {f : Fc} (h : f.kind = 2) (w : BitVec 64) : constF f w = .mk 3 0 tx0 (namesOf f.names w) [] := by rw [constF, if_pos h]
theorem cf_3 {f : Fc} (h : f.kind = 3) (w : BitVec 64) : constF f w = .mk 5 0 tx0 [] ((lst (ownersG f.rel w)).map (ruleN f w)) := by rw [constF, if_neg (by omega), if_pos h]
theorem cf_4 {f : Fc} (h : f.kind = 4) (w : BitVec 64) : constF f w = .mk 2 0 (f.names.getD (pointV f.rel w).1.toNat tx0) [] [] := by rw [constF, if_neg (by omega), if_neg (by omega), if_pos h]
theorem cf_1 {f : Fc} (h2 : ¬ f.kind = 2) (h3 : ¬ f.kind = 3) (h4 : ¬ f.kind = 4) (w : BitVec 64) : constF f w = .mk 2 0 (f.names.getD (level f.names.length w).1.toNat tx0) [] [] := by rw [constF, if_neg h2, if_neg h3, if_neg h4]
theorem kn_2 {f : Fc} (h : f.kind = 2) : kindN f = 3 := by rw [kindN, if_pos h]
theorem kn_3 {f : Fc} (h : f.kind = 3) : kindN f = 5 := by rw [kindN, if_neg (by omega), if_pos h]
theorem kn_1 {f : Fc} (h2 : ¬ f.kind = 2) (h3 : ¬ f.kind = 3) : kindN f = 2 := by rw [kindN, if_neg h2, if_neg h3]
theorem at_4 {f : Fc} (hf : factorR f = true) (h4 : f.kind = 4) {w : BitVec 64} (hw : wordF f w = true) : ∃ k : Int, (0 ≤ k ∧ k < f.names.length) ∧ (pointV f.rel w).1 = k ∧ w = belowR f.rel k := by
  obtain ⟨k, hk, rfl⟩ := word4_is hf h4 hw
  have ht := tab4 hf h4
  refine ⟨k, by have := (fac4 hf h4).1; omega, ?_, rfl⟩
  rw [point_word (lat_spec ht.l).2.1 (by rw [ht.n]; exact hk)]
theorem at_1 {f : Fc} (h1 : f.kind = 1) {w : BitVec 64} (hw : wordF f w = true) : ∃ k : Int, (0 ≤ k ∧ k < f.names.length) ∧ (level f.names.length w).1 = k ∧ w = below k ∧ (1 ≤ f.names.length ∧ f.names.length ≤ 64) := by
  rw [word1 h1] at hw
  obtain ⟨hn, k, hk, rfl⟩ := level_is hw
  have h2 := level_word (n := f.names.length) (k := k) ⟨hn.1, hn.2, hk.1, hk.2⟩
  rw [wordv_yes ⟨hn.1, hn.2, hk.1, hk.2⟩] at h2
  exact ⟨k, hk, by rw [h2], rfl, by omega⟩
theorem back_f {f : Fc} (hf : factorR f = true) {w : BitVec 64} (hw : wordF f w = true) : wordG f (constF f w) = .ok w ∧ constB (constF f w) = true := by
  have hn := fac_named hf
  have hu := (named_spec hn).2.1
  rcases fac_kind hf with h1 | h2 | ⟨h3, -⟩ | h4
  · obtain ⟨k, hk, e, e2, hl⟩ := at_1 h1 hw
    rw [cf_1 (by omega) (by omega) (by omega), e]
    refine ⟨?_, const2_yes (name_at hn hk.1 hk.2)⟩
    rw [wordG_k (by rw [kn_1 (by omega) (by omega)]; rfl), if_neg (by omega), if_neg (by omega), pointG, show (Nd.mk 2 0 (f.names.getD k.toNat tx0) [] []).text = f.names.getD k.toNat tx0 from rfl, names_uniq hu hk.1 hk.2, if_neg (by omega), if_neg (by omega), wordv_yes ⟨by omega, by omega, hk.1, hk.2⟩, e2]
  · rw [word2 h2] at hw
    rw [cf_2 h2]
    constructor
    · rw [wordG_k (by rw [kn_2 h2]; rfl), if_pos h2]; exact places_back hu hw
    · rw [const_eq]
      show (if (3 : Int) = 2 then _ else if (3 : Int) = 3 then decide (tx0 = tx0) && wordsR (namesOf f.names w) && decide (([] : List Nd).length = 0) else _) = true
      rw [if_neg (by decide), if_pos rfl, words_back hn hw]; rfl
  · rw [word3 h3] at hw
    have hr := fac3 hf h3
    have hc := closed_eq hw
    have ho : ∀ o ∈ lst (ownersG f.rel w), 0 ≤ o ∧ o < f.names.length := fun o ho => lst_in (by rw [← hr.1]; exact owners_in hr.2 w) ho
    rw [cf_3 h3]
    constructor
    · rw [wordG_k (by rw [kn_3 h3]; rfl), if_neg (by omega), if_pos h3]
      show rulesG f ((lst (ownersG f.rel w)).map (ruleN f w)) 0#64 = _
      rw [rules_list hn hr.1 w _ _ ho]
      have hb := gl_back hr.2 w
      rw [hc.2] at hb
      exact congrArg Except.ok hb
    · rw [const_eq]
      show (if (5 : Int) = 2 then _ else if (5 : Int) = 3 then _ else if (5 : Int) = 4 then _ else if (5 : Int) = 5 then decide (tx0 = tx0) && decide (([] : List Wd).length = 0) && ((lst (ownersG f.rel w)).map (ruleN f w)).all ruleB else _) = true
      rw [if_neg (by decide), if_neg (by decide), if_neg (by decide), if_pos rfl]
      have : ((lst (ownersG f.rel w)).map (ruleN f w)).all ruleB = true := by
        rw [List.all_eq_true]
        intro x hx
        rw [List.mem_map] at hx
        obtain ⟨o, h1, rfl⟩ := hx
        show (decide ((6 : Int) = 6) && nameR (f.names.getD o.toNat tx0) && wordsR (namesOf f.names (readersG f.rel w o)) && decide (([] : List Nd).length = 0)) = true
        rw [name_at hn (ho o h1).1 (ho o h1).2, words_back hn (by rw [← hr.1]; exact readers_in _ _ _)]; rfl
      rw [this]; rfl
  · obtain ⟨k, hk, e, e2⟩ := at_4 hf h4 hw
    rw [cf_4 h4, e]
    refine ⟨?_, const2_yes (name_at hn hk.1 hk.2)⟩
    rw [wordG_k (by rw [kn_1 (by omega) (by omega)]; rfl), if_neg (by omega), if_neg (by omega), pointG, show (Nd.mk 2 0 (f.names.getD k.toNat tx0) [] []).text = f.names.getD k.toNat tx0 from rfl, names_uniq hu hk.1 hk.2, if_neg (by omega), if_pos h4, e2]
/-! ### Nodes of elements lead back -/
theorem consts_get {s : Sh} {e : El} {n j : Nat} (h : j < n) : (constsTo s e n)[j]? = some (constF (s.facs.getD j fc0) (e j)) := by
  rw [constsTo, upto, List.map_map, List.getElem?_map, List.getElem?_range (by omega)]; rfl
theorem consts_len (s : Sh) (e : El) (n : Nat) : (constsTo s e n).length = n := by rw [constsTo, List.length_map, upto_len]; omega
theorem fit_words {s : Sh} {e : El} (h : fitsS s e = true) {j : Nat} (hj : j < s.facs.length) : factorR (s.facs.getD j fc0) = true ∧ wordF (s.facs.getD j fc0) (e j) = true := by
  have h1 := fits_spec h
  have h2 := sh_spec h1.1
  exact ⟨fac_at h1.1 (by omega), (h1.2 j (by omega)).1 (by omega)⟩
/-! ### What nodes tell are elements -/
end Go.Proofs.YtieckcbckgalhaaGreatDoor.E
