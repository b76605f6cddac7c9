/-
  When a scope is right.
-/
import Derived.Test.YtkdbiooamgnfmaaGreatDoorAst
namespace Go.Proofs.YtkdbiooamgnfmaaGreatDoor.E
open Go Go.RowKit Go.Proofs.YtkdbiooamgnfmaaGreatDoor.M
set_option linter.unusedVariables false
set_option linter.unusedSimpArgs false
def latOk (l : LatR) : Bool := nameR l.name && shR l.shp.sh
def varOk (n : Nat) (v : VarR) : Bool := nameR v.name && decide ((v.kind = 1 ∨ v.kind = 2) ∧ 0 ≤ v.lat ∧ v.lat < n)
def namesS (s : Scp) : List Tx := s.lats.map LatR.name ++ s.vars.map VarR.name
def rightS (s : Scp) : Bool := decide (s.lats.length ≤ 16 ∧ s.vars.length ≤ 64) && s.lats.all latOk && s.vars.all (varOk s.lats.length) && decide (twice (namesS s) < 0)
section
variable {s : Scp}
theorem right_no1 (h : ¬ (s.lats.length ≤ 16 ∧ s.vars.length ≤ 64)) : rightS s = false := by rw [rightS, decide_eq_false h]; rfl
theorem right_no2 {k : Int} (h0 : 0 ≤ k) (h1 : k < s.lats.length) (h : latOk (s.lats.getD k.toNat lat0) = false) : rightS s = false := by rw [rightS, all_no h0 h1 h]; simp
theorem right_no3 {k : Int} (h0 : 0 ≤ k) (h1 : k < s.vars.length) (h : varOk s.lats.length (s.vars.getD k.toNat var0) = false) : rightS s = false := by rw [rightS, all_no h0 h1 h]; simp
theorem right_yes {k j : Int} (h : s.lats.length ≤ 16 ∧ s.vars.length ≤ 64) (hk : ¬ k < s.lats.length) (hl : ∀ i : Int, 0 ≤ i → i < k → latOk (s.lats.getD i.toNat lat0) = true) (hj : ¬ j < s.vars.length) (hv : ∀ i : Int, 0 ≤ i → i < j → varOk s.lats.length (s.vars.getD i.toNat var0) = true) :
    rightS s = decide (twice (namesS s) < 0) := by rw [rightS, decide_eq_true h, all_yes hk hl, all_yes hj hv]; rfl
theorem right_name {k : Int} (h0 : 0 ≤ k) (h1 : k < (namesS s).length) (h : nameR ((namesS s).getD k.toNat tx0) = false) : rightS s = false := by
  cases hc : rightS s with
  | false => rfl
  | true =>
    rw [rightS, Bool.and_eq_true, Bool.and_eq_true, Bool.and_eq_true, List.all_eq_true, List.all_eq_true] at hc
    have hm := List.mem_of_getElem? (getD_at (d := tx0) h0 h1)
    rw [namesS, List.mem_append, List.mem_map, List.mem_map] at hm
    rcases hm with ⟨a, ha, e⟩ | ⟨a, ha, e⟩
    · have := hc.1.1.2 a ha
      rw [latOk, Bool.and_eq_true, e] at this
      have h2 := this.1
      rw [namesS] at h; rw [h] at h2; cases h2
    · have := hc.1.2 a ha
      rw [varOk, Bool.and_eq_true, e] at this
      have h2 := this.1
      rw [namesS] at h; rw [h] at h2; cases h2
theorem right_all {k j i : Int} (k1 : k ≤ s.lats.length) (j1 : j ≤ s.vars.length) (h : s.lats.length ≤ 16 ∧ s.vars.length ≤ 64) (hk : ¬ k < s.lats.length) (hl : ∀ i : Int, 0 ≤ i → i < k → shR (s.lats.getD i.toNat lat0).shp.sh = true) (hj : ¬ j < s.vars.length) (hv : ∀ i : Int, 0 ≤ i → i < j → ((s.vars.getD i.toNat var0).kind = 1 ∨ (s.vars.getD i.toNat var0).kind = 2) ∧ 0 ≤ (s.vars.getD i.toNat var0).lat ∧ (s.vars.getD i.toNat var0).lat < s.lats.length)
    (hi : ¬ i < (namesS s).length) (hn : ∀ x : Int, 0 ≤ x → x < i → nameR ((namesS s).getD x.toNat tx0) = true) : rightS s = decide (twice (namesS s) < 0) := by
  have hall : ∀ t ∈ namesS s, nameR t = true := fun t ht => by
    obtain ⟨x, hx, rfl⟩ := List.getElem_of_mem ht
    have := hn x (by omega) (by omega)
    rw [List.getD_eq_getElem?_getD, Int.toNat_natCast, List.getElem?_eq_getElem hx] at this
    simpa using this
  refine right_yes h hk (fun x x0 x1 => ?_) hj fun x x0 x1 => ?_
  · rw [latOk, hl x x0 x1, Bool.and_true]
    refine hall _ (List.mem_append_left _ (List.mem_map_of_mem (List.mem_of_getElem? (getD_at (d := lat0) x0 (by omega)))))
  · rw [varOk, decide_eq_true (hv x x0 x1), Bool.and_true]
    refine hall _ (List.mem_append_right _ (List.mem_map_of_mem (List.mem_of_getElem? (getD_at (d := var0) x0 (by omega)))))
theorem lnames_next {k : Int} (h0 : 0 ≤ k) (h1 : k < s.lats.length) : (s.lats.take (k + 1).toNat).map LatR.name = (s.lats.take k.toNat).map LatR.name ++ [(s.lats.getD k.toNat lat0).name] := by
  have h2 : k.toNat < s.lats.length := by omega
  rw [show (k + 1).toNat = k.toNat + 1 by omega, List.take_add_one, List.map_append, List.getD_eq_getElem?_getD, List.getElem?_eq_getElem h2]; rfl
theorem vnames_next {k : Int} (h0 : 0 ≤ k) (h1 : k < s.vars.length) : (s.vars.take (k + 1).toNat).map VarR.name = (s.vars.take k.toNat).map VarR.name ++ [(s.vars.getD k.toNat var0).name] := by
  have h2 : k.toNat < s.vars.length := by omega
  rw [show (k + 1).toNat = k.toNat + 1 by omega, List.take_add_one, List.map_append, List.getD_eq_getElem?_getD, List.getElem?_eq_getElem h2]; rfl
end
end Go.Proofs.YtkdbiooamgnfmaaGreatDoor.E
