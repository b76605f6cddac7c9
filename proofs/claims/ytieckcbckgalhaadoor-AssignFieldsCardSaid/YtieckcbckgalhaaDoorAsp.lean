/-
  Assignments form a lattice: least, meet, order; and their texts tell them apart.
-/
import Derived.Test.YtieckcbckgalhaaDoorAsn
namespace Go.Proofs.YtieckcbckgalhaaDoor.E
open Go Go.RowKit Go.Proofs.YtieckcbckgalhaaDoor.M
set_option linter.unusedVariables false
set_option linter.unusedSimpArgs false
def Sorted (l : List ValR) : Prop := l.Pairwise fun a b => lessT a.name b.name = true
theorem ordered_iff {l : List ValR} : orderedF l = true ↔ (∀ x ∈ l, nameR x.name = true) ∧ Sorted l := by
  have hg : ∀ (i : Nat) (hi : i < l.length), l.getD i val0 = l[i] := fun i hi => by rw [List.getD_eq_getElem?_getD, List.getElem?_eq_getElem hi]; rfl
  constructor
  · intro h
    rw [orderedF, List.all_eq_true] at h
    have key : ∀ i : Nat, (hi : i < l.length) → nameR l[i].name = true ∧ (0 < i → lessT (l.getD (i - 1) val0).name l[i].name = true) := fun i hi => by
      have h1 := h (i : Int) (mem_upto.2 (by omega))
      rw [Bool.and_eq_true, Bool.or_eq_true, decide_eq_true_eq, Int.toNat_natCast, hg i hi] at h1
      refine ⟨h1.1, fun h0 => ?_⟩
      rcases h1.2 with h2 | h2
      · omega
      · rw [show ((i : Int) - 1).toNat = i - 1 by omega] at h2; exact h2
    refine ⟨fun x hx => ?_, ?_⟩
    · obtain ⟨i, hi, rfl⟩ := List.getElem_of_mem hx; exact (key i hi).1
    · rw [Sorted, List.pairwise_iff_getElem]
      have step : ∀ (d i : Nat) (hi : i < l.length) (hj : i + d + 1 < l.length), lessT l[i].name l[i + d + 1].name = true := fun d => by
        induction d with
        | zero =>
          intro i hi hj
          have := (key (i + 0 + 1) hj).2 (by omega)
          rw [show i + 0 + 1 - 1 = i by omega, hg i hi] at this; exact this
        | succ d ih =>
          intro i hi hj
          have h1 := ih i hi (by omega)
          have h2 := (key (i + (d + 1) + 1) hj).2 (by omega)
          rw [show i + (d + 1) + 1 - 1 = i + d + 1 by omega, hg (i + d + 1) (by omega)] at h2
          exact less_trans h1 h2
      intro i j hi hj hij
      have := step (j - i - 1) i hi (by omega)
      have e : i + (j - i - 1) + 1 = j := by omega
      simp only [e] at this; exact this
  · rintro ⟨h1, h2⟩
    rw [orderedF, List.all_eq_true]
    intro i hi
    have hi := mem_upto.1 hi
    have h3 : i.toNat < l.length := by omega
    rw [hg _ h3, h1 _ (List.getElem_mem h3), Bool.true_and, Bool.or_eq_true, decide_eq_true_eq]
    by_cases h0 : i ≤ 0
    · exact .inl h0
    · have h4 : (i - 1).toNat < l.length := by omega
      rw [hg _ h4]
      exact .inr (List.pairwise_iff_getElem.1 h2 _ _ h4 h3 (by omega))
/-! ### Whole assignments -/
def shOf (s : Sc) (v : VarR) : Sh := s.lats.getD v.lat.toNat ⟨false, []⟩
theorem okV_is {s : Sc} {v : VarR} {e : El} {l : List ValR} (h : okV s v e l = true) : (0 ≤ v.lat ∧ v.lat < s.lats.length) ∧ ((v.kind = 1 ∧ l = [] ∧ fitsS (shOf s v) e = true) ∨ (v.kind = 2 ∧ eqE e el0 ∧ orderedF l = true ∧ ∀ x ∈ l, fitsS (shOf s v) x.el = true)) := by
  rw [okV, Bool.and_eq_true, decide_eq_true_eq] at h
  refine ⟨h.1, ?_⟩
  have h2 := h.2
  split at h2
  · rename_i hk
    rw [Bool.and_eq_true, decide_eq_true_eq] at h2
    exact .inl ⟨hk, List.eq_nil_of_length_eq_zero h2.1, h2.2⟩
  · split at h2
    · rename_i hk
      rw [Bool.and_eq_true, Bool.and_eq_true, decide_eq_true_eq, fitsF, List.all_eq_true] at h2
      exact .inr ⟨hk, h2.1.1, h2.1.2, h2.2⟩
    · cases h2
theorem rightA_iff {s : Sc} {a : As} : rightA s a = true ↔ (a.labels.length = s.vars.length ∧ a.rows.length = s.vars.length) ∧ ∀ i : Nat, i < s.vars.length → okV s (s.vars.getD i var0) (a.labels.getD i el0) (a.rows.getD i []) = true := by
  rw [rightA, Bool.and_eq_true, decide_eq_true_eq, List.all_eq_true]
  refine and_congr_right fun _ => ⟨fun h i hi => ?_, fun h i hi => ?_⟩
  · have := h (i : Int) (mem_upto.2 (by omega)); rw [Int.toNat_natCast] at this; exact this
  · have := mem_upto.1 hi; exact h i.toNat (by omega)
section
variable {s : Sc} {a b c : As} (ha : rightA s a = true) (hb : rightA s b = true)
include ha hb
end
/-! ### Texts -/
def joinF (b : Tx) : List Tx → Tx
  | [] => tx0
  | x :: l => l.foldl (fun a y => a ++ b ++ y) x
def fieldT (s : Sh) (v : ValR) : Tx := v.name ++ tc 61 ++ spellF s v.el
def rowT (s : Sh) (l : List ValR) : Tx := tc 91 ++ joinF (tc 44) (l.map (fieldT s)) ++ tc 93
def varT (s : Sc) (v : VarR) (e : El) (l : List ValR) : Tx := v.name ++ tc 61 ++ (if v.kind = 1 then spellF (shOf s v) e else rowT (shOf s v) l)
def varsT (s : Sc) (a : As) (k : Int) : List Tx := (upto k).map fun i => varT s (s.vars.getD i.toNat var0) (a.labels.getD i.toNat el0) (a.rows.getD i.toNat [])
def textA (s : Sc) (a : As) : Tx := if rightA s a then joinF (tc 32) (varsT s a s.vars.length) else tx0
def comS (l : List By) : By := l.flatMap fun y => 32 :: y
theorem okV_names {s : Sc} {v : VarR} {e : El} {l : List ValR} (h : okV s v e l = true) : ∀ x ∈ l, nameR x.name = true ∧ fitsS (shOf s v) x.el = true := by
  rcases (okV_is h).2 with ⟨-, rfl, -⟩ | ⟨-, -, h2, h3⟩
  · exact fun x hx => by simp at hx
  · exact fun x hx => ⟨(ordered_iff.1 h2).1 x hx, h3 x hx⟩
def PT (s : Sc) (p : VarR × El × List ValR) : By := bl (varT s p.1 p.2.1 p.2.2)
def trip (s : Sc) (a : As) : List (VarR × El × List ValR) := (upto s.vars.length).map fun i => (s.vars.getD i.toNat var0, a.labels.getD i.toNat el0, a.rows.getD i.toNat [])
end Go.Proofs.YtieckcbckgalhaaDoor.E
