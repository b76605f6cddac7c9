/-
  The reference's faults of names and pairs, step by step.
-/
import Derived.Test.YtiaifdnlkdcbiaaDoorJdg
namespace Go.Proofs.YtiaifdnlkdcbiaaDoor.E
open Go Go.RowKit Go.Proofs.YtiaifdnlkdcbiaaDoor.M
set_option linter.unusedVariables false
def wordAt (p : Pw) (j : Int) : Wd := if j = 0 then p.1 else p.2
def missTo (c : CmdR) (p : Pw) (j : Int) : List Flt := (upto j).flatMap fun i => missF c (wordAt p i)
theorem miss_next {c : CmdR} {p : Pw} {j : Int} (h : 0 ≤ j) : missTo c p (j + 1) = missTo c p j ++ missF c (wordAt p j) := by
  rw [missTo, missTo, ← upto_succ h, List.flatMap_append]; simp
theorem miss_two (c : CmdR) (k : Int) : missTo c (c.pairs.getD k.toNat pw0) 2 = pairAt c k := by
  rw [show (2 : Int) = 0 + 1 + 1 from rfl, miss_next (by omega), miss_next (by omega)]
  rfl
theorem miss_yes {c : CmdR} {x : Wd} (h : nfind (textsF c.names) x.text < 0) : missF c x = [⟨3, x.place⟩] := by rw [missF, decide_eq_true h]; rfl
theorem miss_no {c : CmdR} {x : Wd} (h : ¬ nfind (textsF c.names) x.text < 0) : missF c x = [] := by rw [missF, decide_eq_false h]; rfl
section
variable {s : Scp} {c : CmdR} {k : Int}
theorem nm_p1 (h0 : 0 ≤ k) (h1 : k < c.names.length) (h : c.op = 3) (hl : ¬ (0 ≤ findLat s ((textsF c.names).getD k.toNat tx0) ∨ 0 ≤ findVar s ((textsF c.names).getD k.toNat tx0))) : nameAt s c k = [⟨3, (c.names.getD k.toNat wd0).place⟩] := by
  rw [texts_get _ h0 h1] at hl
  rw [nameAt, if_pos h, livesF, decide_eq_false hl]; rfl
theorem nm_p2 (h0 : 0 ≤ k) (h1 : k < c.names.length) (h : c.op = 3) (hl : 0 ≤ findLat s ((textsF c.names).getD k.toNat tx0) ∨ 0 ≤ findVar s ((textsF c.names).getD k.toNat tx0)) (h2 : findLat s ((textsF c.names).getD k.toNat tx0) < 0) : nameAt s c k = [⟨4, (c.names.getD k.toNat wd0).place⟩] := by
  rw [texts_get _ h0 h1] at hl h2
  rw [nameAt, if_pos h, livesF, isF, decide_eq_true hl, decide_eq_false (by omega)]; rfl
theorem nm_p3 (h0 : 0 ≤ k) (h1 : k < c.names.length) (h : c.op = 3) (hl : 0 ≤ findLat s ((textsF c.names).getD k.toNat tx0) ∨ 0 ≤ findVar s ((textsF c.names).getD k.toNat tx0)) (h2 : ¬ findLat s ((textsF c.names).getD k.toNat tx0) < 0) : nameAt s c k = [] := by
  rw [texts_get _ h0 h1] at hl h2
  rw [nameAt, if_pos h, livesF, isF, decide_eq_true hl, decide_eq_true (by omega)]; rfl
theorem nm_n1 (h : ¬ c.op = 3) (ha : nfind (textsF c.names) ((textsF c.names).getD k.toNat tx0) < k) : nameAt s c k = [⟨3, (c.names.getD k.toNat wd0).place⟩] := by
  rw [nameAt, if_neg h, aheadF, decide_eq_true ha]; rfl
theorem nm_n2 (h0 : 0 ≤ k) (h1 : k < c.names.length) (h : c.op = 6 ∨ c.op = 7) (hl : 0 ≤ findLat s ((textsF c.names).getD k.toNat tx0) ∨ 0 ≤ findVar s ((textsF c.names).getD k.toNat tx0)) : nameAt s c k = [⟨3, (c.names.getD k.toNat wd0).place⟩] := by
  rw [texts_get _ h0 h1] at hl
  rw [nameAt, if_neg (by omega), livesF, decide_eq_true hl, decide_eq_true h]; simp [tellF]
theorem nm_n3 (h0 : 0 ≤ k) (h1 : k < c.names.length) (h : ¬ c.op = 3) (ha : ¬ nfind (textsF c.names) ((textsF c.names).getD k.toNat tx0) < k) (hl : ¬ (0 ≤ findLat s ((textsF c.names).getD k.toNat tx0) ∨ 0 ≤ findVar s ((textsF c.names).getD k.toNat tx0))) : nameAt s c k = [] := by
  rw [nameAt, if_neg h, aheadF, decide_eq_false ha]
  rw [texts_get _ h0 h1] at hl
  rw [livesF, decide_eq_false hl]; simp [tellF]
theorem nm_n4 (h : ¬ c.op = 3) (ha : ¬ nfind (textsF c.names) ((textsF c.names).getD k.toNat tx0) < k) (hv : ¬ (c.op = 6 ∨ c.op = 7)) : nameAt s c k = [] := by
  rw [nameAt, if_neg h, aheadF, decide_eq_false ha, decide_eq_false hv]; simp [tellF]
end
theorem neB {a b : Bool} (h : (!(a == b)) = true) : a ≠ b := by cases a <;> cases b <;> simp_all
theorem eqB {a b : Bool} (h : (!(a == b)) = false) : a = b := by cases a <;> cases b <;> simp_all
def lenN (s : Scp) (c : CmdR) : Int := if c.op = 3 then (prodF (prodL s c.names)).length else c.names.length
def mostN (c : CmdR) : Int := if c.op = 4 ∨ c.op = 3 then 8 else 64
theorem facs_le {m : Nat} : ∀ (l : List Shp), (∀ p ∈ l, p.facs.length ≤ m) → (prodF l).length ≤ m * l.length
  | [], _ => by simp [prodF]
  | p :: l, h => by
    have h1 := facs_le l fun q hq => h q (List.mem_cons_of_mem _ hq)
    have h2 := h p (List.mem_cons_self ..)
    rw [show prodF (p :: l) = p.facs.map Fac.fc ++ prodF l from rfl, List.length_append, List.length_map, List.length_cons, Nat.mul_succ]
    omega
theorem lenN_bd {s : Scp} {c : CmdR} (h : Sm s c) : 0 ≤ lenN s c ∧ lenN s c ≤ 10000 := by
  have h1 := h.nl
  rw [lenN]; split
  · have h2 := facs_le (m := 100) (prodL s c.names) fun p hp => by
      obtain ⟨a, ha, e⟩ := prodL_of hp
      rw [← e]; exact h.fn a ha
    have h3 := prodL_len s c.names
    have h4 : 100 * (prodL s c.names).length ≤ 100 * 100 := Nat.mul_le_mul_left _ (by omega)
    omega
  · omega
section
variable {s : Scp} {c : CmdR}
theorem limit_yes (h : ((c.op = 6 ∨ c.op = 7) ∧ 64 < (s.vars.length : Int) + lenN s c) ∨ (¬ (c.op = 6 ∨ c.op = 7) ∧ (mostN c < lenN s c ∨ (16 : Int) ≤ s.lats.length))) : limitF s c = [⟨7, c.place⟩] := by
  rw [limitF]
  rcases h with ⟨h1, h2⟩ | ⟨h1, h2⟩
  · rw [lenN, if_neg (by omega)] at h2
    rw [if_pos h1, decide_eq_true (by omega)]; rfl
  · rw [if_neg h1]
    rw [lenN, mostN] at h2
    by_cases h3 : c.op = 3
    · rw [if_pos h3, if_pos (.inr h3)] at h2
      rw [if_pos h3, decide_eq_true h2]; rfl
    · rw [if_neg h3] at h2
      rw [if_neg h3]
      by_cases h4 : c.op = 4
      · rw [if_pos (.inl h4)] at h2
        rw [if_pos h4, decide_eq_true h2]; rfl
      · rw [if_neg (by omega)] at h2
        rw [if_neg h4, decide_eq_true h2]; rfl
theorem limit_no (h : ¬ (((c.op = 6 ∨ c.op = 7) ∧ 64 < (s.vars.length : Int) + lenN s c) ∨ (¬ (c.op = 6 ∨ c.op = 7) ∧ (mostN c < lenN s c ∨ (16 : Int) ≤ s.lats.length)))) : limitF s c = [] := by
  rw [limitF]
  by_cases h1 : c.op = 6 ∨ c.op = 7
  · have h2 : ¬ 64 < (s.vars.length : Int) + lenN s c := fun h' => h (.inl ⟨h1, h'⟩)
    rw [lenN, if_neg (by omega)] at h2
    rw [if_pos h1, decide_eq_false (by omega)]; rfl
  · have h2 : ¬ (mostN c < lenN s c ∨ (16 : Int) ≤ s.lats.length) := fun h' => h (.inr ⟨h1, h'⟩)
    rw [if_neg h1]
    rw [lenN, mostN] at h2
    by_cases h3 : c.op = 3
    · rw [if_pos h3, if_pos (.inr h3)] at h2
      rw [if_pos h3, decide_eq_false h2]; rfl
    · rw [if_neg h3] at h2
      rw [if_neg h3]
      by_cases h4 : c.op = 4
      · rw [if_pos (.inl h4)] at h2
        rw [if_pos h4, decide_eq_false h2]; rfl
      · rw [if_neg (by omega)] at h2
        rw [if_neg h4, decide_eq_false h2]; rfl
theorem order_yes (h : c.op = 5) (h2 : (c.names.length : Int) ≤ 64) (h3 : latB (relatedF c) = false) : orderF c = [⟨5, c.pat⟩] := by
  rw [orderF, decide_eq_true ⟨h, by omega⟩, h3]; rfl
theorem order_no (h : ¬ c.op = 5 ∨ ¬ (c.names.length : Int) ≤ 64 ∨ latB (relatedF c) = true) : orderF c = [] := by
  rw [orderF]
  rcases h with h | h | h
  · rw [decide_eq_false fun h' => h h'.1]; rfl
  · rw [decide_eq_false fun h' => h (by have := h'.2; omega)]; rfl
  · rw [h]; simp [tellF]
abbrev vO (c : CmdR) : Prop := c.op = 6 ∨ c.op = 7
abbrev lO (s : Scp) (c : CmdR) : Prop := 0 ≤ findLat s c.name.text ∨ 0 ≤ findVar s c.name.text
theorem hd_1 (h0 : 1 ≤ c.op ∧ c.op ≤ 7) (h : decide (vO c) ≠ decide (lO s c)) : headF s c = [⟨3, c.name.place⟩] := by
  have h1 : livesF s c.name.text = decide (lO s c) := rfl
  rw [headF, isF]
  by_cases hv : vO c
  · rw [decide_eq_true hv] at h
    have hl : decide (lO s c) = false := by cases hc : decide (lO s c) <;> simp_all
    rw [if_neg (by unfold vO at hv; omega), h1, hl]; rfl
  · rw [decide_eq_false hv] at h
    have hl : decide (lO s c) = true := by cases hc : decide (lO s c) <;> simp_all
    rw [if_pos (by unfold vO at hv; omega), h1, hl]; rfl
theorem hd_2 (h : decide (vO c) = decide (lO s c)) (hv : vO c) (hf : findLat s c.name.text < 0) : headF s c = [⟨4, c.name.place⟩] := by
  have h1 : livesF s c.name.text = decide (lO s c) := rfl
  rw [headF, isF, if_neg (by unfold vO at hv; omega), h1, ← h, decide_eq_true hv, decide_eq_false (by omega)]; rfl
theorem hd_3 (h0 : 1 ≤ c.op ∧ c.op ≤ 7) (h : decide (vO c) = decide (lO s c)) (hv : ¬ vO c) : headF s c = [] := by
  have h1 : livesF s c.name.text = decide (lO s c) := rfl
  rw [headF, if_pos (by unfold vO at hv; omega), h1, ← h, decide_eq_false hv]; rfl
theorem hd_4 (h : decide (vO c) = decide (lO s c)) (hv : vO c) (hf : ¬ findLat s c.name.text < 0) : headF s c = [] := by
  have h1 : livesF s c.name.text = decide (lO s c) := rfl
  rw [headF, isF, if_neg (by unfold vO at hv; omega), h1, ← h, decide_eq_true hv, decide_eq_true (by omega)]; rfl
end
/-- The least of faults does not look at their order. -/
abbrev betterF (f b : Flt) : Prop := f.cls ≠ 0 ∧ (b.cls = 0 ∨ f.cls < b.cls ∨ (f.cls = b.cls ∧ f.place < b.place))
theorem less_t {b f : Flt} (h : betterF f b) : lessF b f = f := if_pos h
theorem less_f {b f : Flt} (h : ¬ betterF f b) : lessF b f = b := if_neg h
theorem less_comm (b f g : Flt) : lessF (lessF b f) g = lessF (lessF b g) f := by
  by_cases h1 : betterF f b <;> by_cases h2 : betterF g b
  · rw [less_t h1, less_t h2]
    by_cases h3 : betterF g f <;> by_cases h4 : betterF f g
    · unfold betterF at *; exfalso; omega
    · rw [less_t h3, less_f h4]
    · rw [less_f h3, less_t h4]
    · rw [less_f h3, less_f h4]
      obtain ⟨f1, f2⟩ := f; obtain ⟨g1, g2⟩ := g
      unfold betterF at *
      simp only [] at *
      have e1 : f1 = g1 := by omega
      have e2 : f2 = g2 := by omega
      rw [e1, e2]
  · rw [less_t h1, less_f h2, less_t h1]
    exact less_f fun h3 => by unfold betterF at *; omega
  · rw [less_f h1, less_t h2]
    exact (less_f fun h3 => by unfold betterF at *; omega).symm
  · rw [less_f h1, less_f h2, less_f h1]
theorem least_perm {l m : List Flt} (h : l.Perm m) (b : Flt) : l.foldl lessF b = m.foldl lessF b := by
  induction h generalizing b with
  | nil => rfl
  | cons x _ ih => exact ih _
  | swap x y l => rw [List.foldl_cons, List.foldl_cons, List.foldl_cons, List.foldl_cons, less_comm]
  | trans _ _ ih1 ih2 => rw [ih1, ih2]
def namedL (s : Scp) (c : CmdR) : List Flt := namesTo s c c.names.length ++ pairsTo c c.pairs.length
section
variable {P : Program} {σ : Env} {w : World} {dst : Option Tmp} {ty t : TypeId} {pos : String} {aft : Array Edge} {g : Option (Nat × Bool)} {x : Operand} {v : Value} {l : List Pw} {k j : Int} {d : TypeDesc}
theorem run_ldPwT (hS : Sl w v 4 l.length (l.flatMap pwL)) (hu : P.underlying t = some d) (hd : d.isRow = false) (hx : ev σ x = .pointer (some ⟨sb v, so v + k.toNat * 4 + j.toNat * 2 + 0, none⟩)) (hk : 0 ≤ k ∧ k < l.length) (hj : 0 ≤ j ∧ j < 2) :
    (execOp (ev σ) ⟨dst, .load t x, ty, pos, aft, g⟩).run P w = .ok (.value (S (wordAt (l.getD k.toNat pw0) j).text)) w := by
  rcases (by omega : j = 0 ∨ j = 1) with rfl | rfl
  · exact run_ldE1 (dv := pw0) (off := 0) pwL_len hS hu hd hx hk rfl
  · exact run_ldE1 (dv := pw0) (off := 2) pwL_len hS hu hd hx hk rfl
theorem run_ldPwI (hS : Sl w v 4 l.length (l.flatMap pwL)) (hu : P.underlying t = some d) (hd : d.isRow = false) (hx : ev σ x = .pointer (some ⟨sb v, so v + k.toNat * 4 + j.toNat * 2 + 1, none⟩)) (hk : 0 ≤ k ∧ k < l.length) (hj : 0 ≤ j ∧ j < 2) :
    (execOp (ev σ) ⟨dst, .load t x, ty, pos, aft, g⟩).run P w = .ok (.value (I (wordAt (l.getD k.toNat pw0) j).place)) w := by
  rcases (by omega : j = 0 ∨ j = 1) with rfl | rfl
  · exact run_ldE1 (dv := pw0) (off := 1) pwL_len hS hu hd hx hk rfl
  · exact run_ldE1 (dv := pw0) (off := 3) pwL_len hS hu hd hx hk rfl
end
theorem fault_is {s : Scp} {c : CmdR} (h : 1 ≤ c.op ∧ c.op ≤ 7) : (namedL s c ++ headF s c ++ orderF c ++ limitF s c).foldl lessF flt0 = faultF s c := by
  rw [faultF, if_pos h, faultL, namedL]
  refine least_perm ?_ _
  rw [show headF s c ++ namesTo s c c.names.length ++ (pairsTo c c.pairs.length ++ orderF c) ++ limitF s c = (headF s c ++ (namesTo s c c.names.length ++ pairsTo c c.pairs.length) ++ orderF c) ++ limitF s c by simp only [List.append_assoc]]
  refine List.Perm.append_right _ ?_
  refine List.Perm.append_right _ ?_
  exact List.perm_append_comm
theorem named_len {s : Scp} {c : CmdR} (h : Sm s c) : (namedL s c).length ≤ 400 := by
  have h1 := names_len s c c.names.length
  have h2 := pairs_len c c.pairs.length
  have h3 := h.nl
  have h4 := h.pl
  rw [namedL, List.length_append]; omega
end Go.Proofs.YtiaifdnlkdcbiaaDoor.E
