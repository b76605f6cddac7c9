/-
  When a scope is right.
-/
import Derived.Test.YtkdbiooamgnfmaaGreatDoorAst
namespace Go.Proofs.YtkdbiooamgnfmaaGreatDoor.E
open Go Go.RowKit Go.Proofs.YtkdbiooamgnfmaaGreatDoor.M
set_option linter.unusedVariables false
set_option linter.unusedSimpArgs false
theorem vfind_cases (l : List ValR) (f : Tx) : (0 ≤ vfind l f ∧ vfind l f < l.length ∧ (l.getD (vfind l f).toNat val0).name = f ∧ ∀ j : Int, 0 ≤ j → j < vfind l f → (l.getD j.toNat val0).name ≠ f) ∨ (vfind l f < 0 ∧ ∀ j : Int, 0 ≤ j → j < l.length → (l.getD j.toNat val0).name ≠ f) := by
  rcases find_cases (fun i => decide ((l.getD i.toNat val0).name = f)) l.length with ⟨k, h0, h1, h2, h3, e⟩ | ⟨h3, e⟩
  · left
    have e' : vfind l f = k := e
    rw [e']; exact ⟨h0, h1, of_decide_eq_true h2, fun j a b => of_decide_eq_false (h3 j a b)⟩
  · right
    have e' : vfind l f = -1 := e
    exact ⟨by omega, fun j a b => of_decide_eq_false (h3 j a b)⟩
def spotW (l : List ValR) (f : Tx) : Nat := if vfind l f < 0 then spot l f else (vfind l f).toNat
theorem with_cut (l : List ValR) (f : Tx) (e : El) : (vfind l f < 0 ∧ (∀ v ∈ l, v.name ≠ f) ∧ spotW l f ≤ l.length ∧ withF l f e = l.take (spotW l f) ++ ⟨f, e⟩ :: l.drop (spotW l f)) ∨
    (0 ≤ vfind l f ∧ spotW l f < l.length ∧ (∀ v ∈ l.take (spotW l f), v.name ≠ f) ∧ (l.getD (spotW l f) val0).name = f ∧ withF l f e = l.take (spotW l f) ++ ⟨f, e⟩ :: l.drop (spotW l f + 1)) := by
  rcases vfind_cases l f with ⟨h0, h1, h2, h3⟩ | ⟨h0, h3⟩
  · right
    have hs : spotW l f = (vfind l f).toNat := if_neg (by omega)
    have hk : (vfind l f).toNat < l.length := by omega
    refine ⟨h0, by omega, fun v hv => ?_, by rw [hs]; exact h2, ?_⟩
    · rw [hs] at hv
      obtain ⟨i, hi, rfl⟩ := List.getElem_of_mem hv
      rw [List.length_take] at hi
      have := h3 i (by omega) (by omega)
      rw [Int.toNat_natCast, List.getD_eq_getElem?_getD, List.getElem?_eq_getElem (by omega)] at this
      rw [List.getElem_take]; simpa using this
    · rw [hs, withF, if_neg (by omega), List.set_eq_take_append_cons_drop, if_pos hk]
  · left
    have hs : spotW l f = spot l f := if_pos h0
    have hle : spot l f ≤ l.length := by
      unfold spot; split
      · rcases find_cases (fun i => lessT f (l.getD i.toNat val0).name) l.length with ⟨k, a, b, _, _, ek⟩ | ⟨_, ek⟩ <;> omega
      · omega
    refine ⟨h0, fun v hv => ?_, by omega, by rw [hs, withF, if_pos h0]⟩
    obtain ⟨i, hi, rfl⟩ := List.getElem_of_mem hv
    have := h3 i (by omega) (by omega)
    rw [Int.toNat_natCast, List.getD_eq_getElem?_getD, List.getElem?_eq_getElem hi] at this
    simpa using this
def wTo (l : List ValR) (f : Tx) (e : El) (k : Int) (d : Bool) : List ValR := (withF l f e).take (k.toNat + if d && !(getF l f).2 then 1 else 0)
def wIs (l : List ValR) (f : Tx) (k : Int) (d : Bool) : Prop := (d = true → (spotW l f : Int) < k) ∧ (d = false → k ≤ (spotW l f : Int))
section
variable {l m : List ValR} {f : Tx} {e : El} {k : Int} {d : Bool}
theorem spot_less (h0 : 0 ≤ k) (h1 : k < l.length) (hv : vfind l f < 0) (hk : k ≤ spotW l f) : lessT f (l.getD k.toNat val0).name = true ↔ k = spotW l f := by
  have hs : spotW l f = spot l f := if_pos hv
  rw [hs] at hk ⊢
  unfold spot at hk ⊢
  rcases find_cases (fun i => lessT f (l.getD i.toNat val0).name) l.length with ⟨j, a, b, c, q, ek⟩ | ⟨q, ek⟩
  · rw [ek] at hk ⊢; rw [if_pos a] at hk ⊢
    constructor
    · intro h
      by_cases x : k < j
      · have := q k h0 x; rw [h] at this; cases this
      · omega
    · intro h; have : k = j := by omega
      rw [this]; exact c
  · rw [ek] at hk ⊢; rw [if_neg (by omega)] at hk ⊢
    constructor
    · intro h; have := q k h0 h1; rw [h] at this; cases this
    · intro h; omega
theorem k1 (h0 : 0 ≤ k) : (k + 1).toNat = k.toNat + 1 := by omega
end
end Go.Proofs.YtkdbiooamgnfmaaGreatDoor.E
namespace Go.Proofs.YtkdbiooamgnfmaaGreatDoor.E
open Go Go.RowKit Go.Proofs.YtkdbiooamgnfmaaGreatDoor.M
set_option linter.unusedVariables false
set_option linter.unusedSimpArgs false
def latOk (l : LatR) : Bool := nameR l.name && shR l.shp.sh
def varOk (n : Nat) (v : VarR) : Bool := nameR v.name && decide ((v.kind = 1 ∨ v.kind = 2) ∧ 0 ≤ v.lat ∧ v.lat < n)
def namesS (s : Scp) : List Tx := s.lats.map LatR.name ++ s.vars.map VarR.name
def rightS (s : Scp) : Bool := decide (s.lats.length ≤ 16 ∧ s.vars.length ≤ 64) && s.lats.all latOk && s.vars.all (varOk s.lats.length) && decide (twice (namesS s) < 0)
section
variable {s : Scp}
theorem right_no1 (h : ¬ (s.lats.length ≤ 16 ∧ s.vars.length ≤ 64)) : rightS s = false := by rw [rightS, decide_eq_false h]; rfl
theorem right_no2 {k : Int} (h0 : 0 ≤ k) (h1 : k < s.lats.length) (h : latOk (s.lats.getD k.toNat lat0) = false) : rightS s = false := by rw [rightS, all_no h0 h1 h]; simp
theorem right_no3 {k : Int} (h0 : 0 ≤ k) (h1 : k < s.vars.length) (h : varOk s.lats.length (s.vars.getD k.toNat var0) = false) : rightS s = false := by rw [rightS, all_no h0 h1 h]; simp
theorem right_yes {k j : Int} (h : s.lats.length ≤ 16 ∧ s.vars.length ≤ 64) (hk : ¬ k < s.lats.length) (hl : ∀ i : Int, 0 ≤ i → i < k → latOk (s.lats.getD i.toNat lat0) = true) (hj : ¬ j < s.vars.length) (hv : ∀ i : Int, 0 ≤ i → i < j → varOk s.lats.length (s.vars.getD i.toNat var0) = true) :
    rightS s = decide (twice (namesS s) < 0) := by rw [rightS, decide_eq_true h, all_yes hk hl, all_yes hj hv]; rfl
theorem right_name {k : Int} (h0 : 0 ≤ k) (h1 : k < (namesS s).length) (h : nameR ((namesS s).getD k.toNat tx0) = false) : rightS s = false := by
  cases hc : rightS s with
  | false => rfl
  | true =>
    rw [rightS, Bool.and_eq_true, Bool.and_eq_true, Bool.and_eq_true, List.all_eq_true, List.all_eq_true] at hc
    have hm := List.mem_of_getElem? (getD_at (d := tx0) h0 h1)
    rw [namesS, List.mem_append, List.mem_map, List.mem_map] at hm
    rcases hm with ⟨a, ha, e⟩ | ⟨a, ha, e⟩
    · have := hc.1.1.2 a ha
      rw [latOk, Bool.and_eq_true, e] at this
      have h2 := this.1
      rw [namesS] at h; rw [h] at h2; cases h2
    · have := hc.1.2 a ha
      rw [varOk, Bool.and_eq_true, e] at this
      have h2 := this.1
      rw [namesS] at h; rw [h] at h2; cases h2
theorem right_all {k j i : Int} (k1 : k ≤ s.lats.length) (j1 : j ≤ s.vars.length) (h : s.lats.length ≤ 16 ∧ s.vars.length ≤ 64) (hk : ¬ k < s.lats.length) (hl : ∀ i : Int, 0 ≤ i → i < k → shR (s.lats.getD i.toNat lat0).shp.sh = true) (hj : ¬ j < s.vars.length) (hv : ∀ i : Int, 0 ≤ i → i < j → ((s.vars.getD i.toNat var0).kind = 1 ∨ (s.vars.getD i.toNat var0).kind = 2) ∧ 0 ≤ (s.vars.getD i.toNat var0).lat ∧ (s.vars.getD i.toNat var0).lat < s.lats.length)
    (hi : ¬ i < (namesS s).length) (hn : ∀ x : Int, 0 ≤ x → x < i → nameR ((namesS s).getD x.toNat tx0) = true) : rightS s = decide (twice (namesS s) < 0) := by
  have hall : ∀ t ∈ namesS s, nameR t = true := fun t ht => by
    obtain ⟨x, hx, rfl⟩ := List.getElem_of_mem ht
    have := hn x (by omega) (by omega)
    rw [List.getD_eq_getElem?_getD, Int.toNat_natCast, List.getElem?_eq_getElem hx] at this
    simpa using this
  refine right_yes h hk (fun x x0 x1 => ?_) hj fun x x0 x1 => ?_
  · rw [latOk, hl x x0 x1, Bool.and_true]
    refine hall _ (List.mem_append_left _ (List.mem_map_of_mem (List.mem_of_getElem? (getD_at (d := lat0) x0 (by omega)))))
  · rw [varOk, decide_eq_true (hv x x0 x1), Bool.and_true]
    refine hall _ (List.mem_append_right _ (List.mem_map_of_mem (List.mem_of_getElem? (getD_at (d := var0) x0 (by omega)))))
theorem lnames_next {k : Int} (h0 : 0 ≤ k) (h1 : k < s.lats.length) : (s.lats.take (k + 1).toNat).map LatR.name = (s.lats.take k.toNat).map LatR.name ++ [(s.lats.getD k.toNat lat0).name] := by
  have h2 : k.toNat < s.lats.length := by omega
  rw [show (k + 1).toNat = k.toNat + 1 by omega, List.take_add_one, List.map_append, List.getD_eq_getElem?_getD, List.getElem?_eq_getElem h2]; rfl
theorem vnames_next {k : Int} (h0 : 0 ≤ k) (h1 : k < s.vars.length) : (s.vars.take (k + 1).toNat).map VarR.name = (s.vars.take k.toNat).map VarR.name ++ [(s.vars.getD k.toNat var0).name] := by
  have h2 : k.toNat < s.vars.length := by omega
  rw [show (k + 1).toNat = k.toNat + 1 by omega, List.take_add_one, List.map_append, List.getD_eq_getElem?_getD, List.getElem?_eq_getElem h2]; rfl
end
end Go.Proofs.YtkdbiooamgnfmaaGreatDoor.E
