/-
  When a scope is right.
-/
import Derived.Test.YtkdbiooamgnfmaaDoorAst
namespace Go.Proofs.YtkdbiooamgnfmaaDoor.E
open Go Go.RowKit Go.Proofs.YtkdbiooamgnfmaaDoor.M
set_option linter.unusedVariables false
set_option linter.unusedSimpArgs false
def latOk (l : LatR) : Bool := nameR l.name && shR l.shp.sh
def varOk (n : Nat) (v : VarR) : Bool := nameR v.name && decide ((v.kind = 1 ∨ v.kind = 2) ∧ 0 ≤ v.lat ∧ v.lat < n)
def namesS (s : Scp) : List Tx := s.lats.map LatR.name ++ s.vars.map VarR.name
def rightS (s : Scp) : Bool := decide (s.lats.length ≤ 16 ∧ s.vars.length ≤ 64) && s.lats.all latOk && s.vars.all (varOk s.lats.length) && decide (twice (namesS s) < 0)
section
variable {s : Scp}
theorem right_no1 (h : ¬ (s.lats.length ≤ 16 ∧ s.vars.length ≤ 64)) : rightS s = false := by rw [rightS, decide_eq_false h]; rfl
theorem right_no2 {k : Int} (h0 : 0 ≤ k) (h1 : k < s.lats.length) (h : latOk (s.lats.getD k.toNat lat0) = false) : rightS s = false := by rw [rightS, all_no h0 h1 h]; simp
theorem right_no3 {k : Int} (h0 : 0 ≤ k) (h1 : k < s.vars.length) (h : varOk s.lats.length (s.vars.getD k.toNat var0) = false) : rightS s = false := by rw [rightS, all_no h0 h1 h]; simp
theorem right_yes {k j : Int} (h : s.lats.length ≤ 16 ∧ s.vars.length ≤ 64) (hk : ¬ k < s.lats.length) (hl : ∀ i : Int, 0 ≤ i → i < k → latOk (s.lats.getD i.toNat lat0) = true) (hj : ¬ j < s.vars.length) (hv : ∀ i : Int, 0 ≤ i → i < j → varOk s.lats.length (s.vars.getD i.toNat var0) = true) :
    rightS s = decide (twice (namesS s) < 0) := by rw [rightS, decide_eq_true h, all_yes hk hl, all_yes hj hv]; rfl
theorem lnames_next {k : Int} (h0 : 0 ≤ k) (h1 : k < s.lats.length) : (s.lats.take (k + 1).toNat).map LatR.name = (s.lats.take k.toNat).map LatR.name ++ [(s.lats.getD k.toNat lat0).name] := by
  have h2 : k.toNat < s.lats.length := by omega
  rw [show (k + 1).toNat = k.toNat + 1 by omega, List.take_add_one, List.map_append, List.getD_eq_getElem?_getD, List.getElem?_eq_getElem h2]; rfl
theorem vnames_next {k : Int} (h0 : 0 ≤ k) (h1 : k < s.vars.length) : (s.vars.take (k + 1).toNat).map VarR.name = (s.vars.take k.toNat).map VarR.name ++ [(s.vars.getD k.toNat var0).name] := by
  have h2 : k.toNat < s.vars.length := by omega
  rw [show (k + 1).toNat = k.toNat + 1 by omega, List.take_add_one, List.map_append, List.getD_eq_getElem?_getD, List.getElem?_eq_getElem h2]; rfl
end
end Go.Proofs.YtkdbiooamgnfmaaDoor.E
