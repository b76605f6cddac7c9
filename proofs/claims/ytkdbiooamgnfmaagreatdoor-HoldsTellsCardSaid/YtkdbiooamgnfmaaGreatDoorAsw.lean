/-
  A row with a field: what is looked up in it.
-/
import Derived.Test.YtkdbiooamgnfmaaGreatDoorAst
namespace Go.Proofs.YtkdbiooamgnfmaaGreatDoor.E
open Go Go.RowKit Go.Proofs.YtkdbiooamgnfmaaGreatDoor.M
set_option linter.unusedVariables false
set_option linter.unusedSimpArgs false
theorem getF_nil (f : Tx) : getF [] f = (el0, false) := get_no (by rw [vfind, find_no fun j a b => absurd b (by simp; omega)]; decide)
theorem vfind_cases (l : List ValR) (f : Tx) : (0 ≤ vfind l f ∧ vfind l f < l.length ∧ (l.getD (vfind l f).toNat val0).name = f ∧ ∀ j : Int, 0 ≤ j → j < vfind l f → (l.getD j.toNat val0).name ≠ f) ∨ (vfind l f < 0 ∧ ∀ j : Int, 0 ≤ j → j < l.length → (l.getD j.toNat val0).name ≠ f) := by
  rcases find_cases (fun i => decide ((l.getD i.toNat val0).name = f)) l.length with ⟨k, h0, h1, h2, h3, e⟩ | ⟨h3, e⟩
  · left
    have e' : vfind l f = k := e
    rw [e']; exact ⟨h0, h1, of_decide_eq_true h2, fun j a b => of_decide_eq_false (h3 j a b)⟩
  · right
    have e' : vfind l f = -1 := e
    exact ⟨by omega, fun j a b => of_decide_eq_false (h3 j a b)⟩
theorem get_find (l : List ValR) (f : Tx) : getF l f = match l.find? (fun v => decide (v.name = f)) with
    | none => (el0, false)
    | some v => (v.el, true) := by
  rcases vfind_cases l f with ⟨h0, h1, h2, h3⟩ | ⟨h0, h3⟩
  · rw [get_yes (by omega)]
    have hk : (vfind l f).toNat < l.length := by omega
    have e : l.find? (fun v => decide (v.name = f)) = some (l.getD (vfind l f).toNat val0) := by
      rw [List.find?_eq_some_iff_getElem]
      refine ⟨decide_eq_true h2, (vfind l f).toNat, hk, ?_, fun j hj => ?_⟩
      · rw [List.getD_eq_getElem?_getD, List.getElem?_eq_getElem hk]; rfl
      · have := h3 j (by omega) (by omega)
        rw [Int.toNat_natCast, List.getD_eq_getElem?_getD, List.getElem?_eq_getElem (by omega)] at this
        simpa using this
    rw [e]
  · rw [get_no h0]
    have e : l.find? (fun v => decide (v.name = f)) = none := by
      rw [List.find?_eq_none]
      intro x hx
      obtain ⟨i, hi, rfl⟩ := List.getElem_of_mem hx
      have := h3 i (by omega) (by omega)
      rw [Int.toNat_natCast, List.getD_eq_getElem?_getD, List.getElem?_eq_getElem hi] at this
      simpa using this
    rw [e]
theorem find_ne {l : List ValR} {f : Tx} (h : ∀ v ∈ l, v.name ≠ f) : l.find? (fun v => decide (v.name = f)) = none := by
  rw [List.find?_eq_none]; intro x hx; simpa using h x hx
def spotW (l : List ValR) (f : Tx) : Nat := if vfind l f < 0 then spot l f else (vfind l f).toNat
theorem with_cut (l : List ValR) (f : Tx) (e : El) : (vfind l f < 0 ∧ (∀ v ∈ l, v.name ≠ f) ∧ spotW l f ≤ l.length ∧ withF l f e = l.take (spotW l f) ++ ⟨f, e⟩ :: l.drop (spotW l f)) ∨
    (0 ≤ vfind l f ∧ spotW l f < l.length ∧ (∀ v ∈ l.take (spotW l f), v.name ≠ f) ∧ (l.getD (spotW l f) val0).name = f ∧ withF l f e = l.take (spotW l f) ++ ⟨f, e⟩ :: l.drop (spotW l f + 1)) := by
  rcases vfind_cases l f with ⟨h0, h1, h2, h3⟩ | ⟨h0, h3⟩
  · right
    have hs : spotW l f = (vfind l f).toNat := if_neg (by omega)
    have hk : (vfind l f).toNat < l.length := by omega
    refine ⟨h0, by omega, fun v hv => ?_, by rw [hs]; exact h2, ?_⟩
    · rw [hs] at hv
      obtain ⟨i, hi, rfl⟩ := List.getElem_of_mem hv
      rw [List.length_take] at hi
      have := h3 i (by omega) (by omega)
      rw [Int.toNat_natCast, List.getD_eq_getElem?_getD, List.getElem?_eq_getElem (by omega)] at this
      rw [List.getElem_take]; simpa using this
    · rw [hs, withF, if_neg (by omega), List.set_eq_take_append_cons_drop, if_pos hk]
  · left
    have hs : spotW l f = spot l f := if_pos h0
    have hle : spot l f ≤ l.length := by
      unfold spot; split
      · rcases find_cases (fun i => lessT f (l.getD i.toNat val0).name) l.length with ⟨k, a, b, _, _, ek⟩ | ⟨_, ek⟩ <;> omega
      · omega
    refine ⟨h0, fun v hv => ?_, by omega, by rw [hs, withF, if_pos h0]⟩
    obtain ⟨i, hi, rfl⟩ := List.getElem_of_mem hv
    have := h3 i (by omega) (by omega)
    rw [Int.toNat_natCast, List.getD_eq_getElem?_getD, List.getElem?_eq_getElem hi] at this
    simpa using this
theorem get_with_same (l : List ValR) (f : Tx) (e : El) : getF (withF l f e) f = (e, true) := by
  rw [get_find]
  rcases with_cut l f e with ⟨_, h1, _, h2⟩ | ⟨_, _, h1, _, h2⟩
  · rw [h2, List.find?_append, find_ne fun v hv => h1 v (List.mem_of_mem_take hv), Option.none_or, List.find?_cons, decide_eq_true rfl]
  · rw [h2, List.find?_append, find_ne h1, Option.none_or, List.find?_cons, decide_eq_true rfl]
theorem get_with_other {l : List ValR} {f o : Tx} (e : El) (h : ¬ o = f) : getF (withF l f e) o = getF l o := by
  have hn : decide (f = o) = false := decide_eq_false fun x => h x.symm
  rw [get_find, get_find]
  rcases with_cut l f e with ⟨_, h1, _, h2⟩ | ⟨_, hl, h1, hm, h2⟩
  · have e : (l.take (spotW l f) ++ ⟨f, e⟩ :: l.drop (spotW l f)).find? (fun v => decide (v.name = o)) = l.find? (fun v => decide (v.name = o)) := by
      rw [List.find?_append, List.find?_cons, show decide ((⟨f, e⟩ : ValR).name = o) = false from hn, ← List.find?_append, List.take_append_drop]
    rw [h2, e]
  · have e : (l.take (spotW l f) ++ ⟨f, e⟩ :: l.drop (spotW l f + 1)).find? (fun v => decide (v.name = o)) = l.find? (fun v => decide (v.name = o)) := by
      have e2 : l = l.take (spotW l f) ++ l.getD (spotW l f) val0 :: l.drop (spotW l f + 1) := by
        rw [List.getD_eq_getElem?_getD, List.getElem?_eq_getElem hl, Option.getD_some, ← List.drop_eq_getElem_cons hl, List.take_append_drop]
      rw [List.find?_append, List.find?_cons, show decide ((⟨f, e⟩ : ValR).name = o) = false from hn]
      conv => rhs; rw [e2]
      rw [List.find?_append, List.find?_cons (a := l.getD _ _), hm, hn]
    rw [h2, e]
def wTo (l : List ValR) (f : Tx) (e : El) (k : Int) (d : Bool) : List ValR := (withF l f e).take (k.toNat + if d && !(getF l f).2 then 1 else 0)
def wIs (l : List ValR) (f : Tx) (k : Int) (d : Bool) : Prop := (d = true → (spotW l f : Int) < k) ∧ (d = false → k ≤ (spotW l f : Int))
section
variable {l m : List ValR} {f : Tx} {e : El} {k : Int} {d : Bool}
theorem has_at (hh : (getF l f).2 = true) : 0 ≤ vfind l f := by
  by_cases h : vfind l f < 0
  · rw [get_no h] at hh; cases hh
  · omega
theorem has_not (hh : (getF l f).2 = false) : vfind l f < 0 := by
  by_cases h : vfind l f < 0
  · exact h
  · rw [get_yes h] at hh; cases hh
theorem with_at (i : Nat) : (withF l f e)[i]? = if vfind l f < 0 then (if i < spotW l f then l[i]? else if i = spotW l f then some ⟨f, e⟩ else l[i - 1]?) else if i = spotW l f then some ⟨f, e⟩ else l[i]? := by
  rcases with_cut l f e with ⟨h0, _, hp, h2⟩ | ⟨h0, hp, _, _, h2⟩
  · rw [if_pos h0, h2, List.getElem?_append, List.length_take]
    by_cases c : i < spotW l f
    · rw [if_pos (by omega), if_pos c, List.getElem?_take, if_pos c]
    · rw [if_neg (by omega), if_neg c, Nat.min_eq_left hp]
      by_cases c2 : i = spotW l f
      · rw [if_pos c2, c2, Nat.sub_self]; rfl
      · rw [if_neg c2, show i - spotW l f = (i - spotW l f - 1) + 1 by omega, List.getElem?_cons_succ, List.getElem?_drop]; congr 1; omega
  · rw [if_neg (by omega), h2, List.getElem?_append, List.length_take, Nat.min_eq_left (by omega)]
    by_cases c : i < spotW l f
    · rw [if_pos c, if_neg (by omega), List.getElem?_take, if_pos c]
    · rw [if_neg c]
      by_cases c2 : i = spotW l f
      · rw [if_pos c2, c2, Nat.sub_self]; rfl
      · rw [if_neg c2, show i - spotW l f = (i - spotW l f - 1) + 1 by omega, List.getElem?_cons_succ, List.getElem?_drop]; congr 1; omega
theorem with_more {i : Nat} {x : ValR} (h : (withF l f e)[i]? = some x) : (withF l f e).take i ++ [x] = (withF l f e).take (i + 1) := by
  rw [List.take_add_one, h]; rfl
theorem at_k (h0 : 0 ≤ k) (h1 : k < l.length) : l[k.toNat]? = some (l.getD k.toNat val0) := by
  rw [List.getD_eq_getElem?_getD, List.getElem?_eq_getElem (by omega)]; rfl
theorem spot_has (h0 : 0 ≤ k) (h1 : k < l.length) (hv : 0 ≤ vfind l f) (hk : k ≤ spotW l f) : (l.getD k.toNat val0).name = f ↔ k = spotW l f := by
  rcases with_cut l f el0 with ⟨h, _⟩ | ⟨_, hp, ha, hb, _⟩
  · omega
  · constructor
    · intro hn
      by_cases c : k.toNat < spotW l f
      · exact absurd hn (ha _ (List.mem_of_getElem? (by rw [List.getElem?_take, if_pos c]; exact at_k h0 h1)))
      · omega
    · intro hn; rw [hn, Int.toNat_natCast]; exact hb
theorem spot_less (h0 : 0 ≤ k) (h1 : k < l.length) (hv : vfind l f < 0) (hk : k ≤ spotW l f) : lessT f (l.getD k.toNat val0).name = true ↔ k = spotW l f := by
  have hs : spotW l f = spot l f := if_pos hv
  rw [hs] at hk ⊢
  unfold spot at hk ⊢
  rcases find_cases (fun i => lessT f (l.getD i.toNat val0).name) l.length with ⟨j, a, b, c, q, ek⟩ | ⟨q, ek⟩
  · rw [ek] at hk ⊢; rw [if_pos a] at hk ⊢
    constructor
    · intro h
      by_cases x : k < j
      · have := q k h0 x; rw [h] at this; cases this
      · omega
    · intro h; have : k = j := by omega
      rw [this]; exact c
  · rw [ek] at hk ⊢; rw [if_neg (by omega)] at hk ⊢
    constructor
    · intro h; have := q k h0 h1; rw [h] at this; cases this
    · intro h; omega
theorem wTo_f (k : Int) : wTo l f e k false = (withF l f e).take k.toNat := by simp [wTo]
theorem wTo_h (k : Int) (hh : (getF l f).2 = true) : wTo l f e k true = (withF l f e).take k.toNat := by simp [wTo, hh]
theorem wTo_n (k : Int) (hh : (getF l f).2 = false) : wTo l f e k true = (withF l f e).take (k.toNat + 1) := by simp [wTo, hh]
theorem wTo_le (h0 : 0 ≤ k) : ((wTo l f e k d).length : Int) ≤ k + 1 := by
  unfold wTo; rw [List.length_take]; split <;> omega
theorem k1 (h0 : 0 ≤ k) : (k + 1).toNat = k.toNat + 1 := by omega
theorem w_1 (h0 : 0 ≤ k) (h1 : k < l.length) (hm : m = wTo l f e k d) (hd : wIs l f k d) (hn : (!d) = true) (hh : (getF l f).2 = true) (hf : (l.getD k.toNat val0).name = f) : m ++ [⟨f, e⟩] = wTo l f e (k + 1) true ∧ wIs l f (k + 1) true := by
  have hd0 : d = false := by simpa using hn
  subst hd0
  have hp := hd.2 rfl
  have e1 := (spot_has h0 h1 (has_at hh) hp).1 hf
  rw [hm, wTo_f, wTo_h _ hh, k1 h0]
  have hv := has_at hh
  exact ⟨with_more (by rw [with_at, if_neg (by omega), if_pos (by omega)]), fun _ => by omega, fun h => by cases h⟩
theorem w_2 (h0 : 0 ≤ k) (h1 : k < l.length) (hm : m = wTo l f e k d) (hd : wIs l f k d) (hn : (!d) = true) (hh : (getF l f).2 = false) (hf : lessT f (l.getD k.toNat val0).name = true) : m ++ [⟨f, e⟩] ++ [l.getD k.toNat val0] = wTo l f e (k + 1) true ∧ wIs l f (k + 1) true := by
  have hd0 : d = false := by simpa using hn
  subst hd0
  have hp := hd.2 rfl
  have hv := has_not hh
  have e1 := (spot_less h0 h1 hv hp).1 hf
  rw [hm, wTo_f, wTo_n _ hh, k1 h0, with_more (by rw [with_at, if_pos hv, if_neg (by omega), if_pos (by omega)])]
  exact ⟨with_more (by rw [with_at, if_pos hv, if_neg (by omega), if_neg (by omega), Nat.add_sub_cancel]; exact at_k h0 h1), fun _ => by omega, fun h => by cases h⟩
theorem w_3 (h0 : 0 ≤ k) (h1 : k < l.length) (hm : m = wTo l f e k d) (hd : wIs l f k d) (hn : (!d) = true) (hf : ((getF l f).2 = true ∧ ¬ (l.getD k.toNat val0).name = f) ∨ ((getF l f).2 = false ∧ lessT f (l.getD k.toNat val0).name = false)) : m ++ [l.getD k.toNat val0] = wTo l f e (k + 1) d ∧ wIs l f (k + 1) d := by
  have hd0 : d = false := by simpa using hn
  subst hd0
  have hp := hd.2 rfl
  rw [hm, wTo_f, wTo_f, k1 h0]
  rcases hf with ⟨hh, hf⟩ | ⟨hh, hf⟩
  · have hv := has_at hh
    have hq : ¬ k = spotW l f := fun h => hf ((spot_has h0 h1 hv hp).2 h)
    exact ⟨with_more (by rw [with_at, if_neg (by omega), if_neg (by omega)]; exact at_k h0 h1), (fun h => by cases h), fun _ => by omega⟩
  · have hv := has_not hh
    have hq : ¬ k = spotW l f := fun h => by rw [(spot_less h0 h1 hv hp).2 h] at hf; cases hf
    exact ⟨with_more (by rw [with_at, if_pos hv, if_pos (by omega)]; exact at_k h0 h1), (fun h => by cases h), fun _ => by omega⟩
theorem w_4 (h0 : 0 ≤ k) (h1 : k < l.length) (hm : m = wTo l f e k d) (hd : wIs l f k d) (hn : (!d) = false) : m ++ [l.getD k.toNat val0] = wTo l f e (k + 1) d ∧ wIs l f (k + 1) d := by
  have hd0 : d = true := by simpa using hn
  subst hd0
  have hp := hd.1 rfl
  cases hh : (getF l f).2 with
  | true =>
    have hv := has_at hh
    rw [hm, wTo_h _ hh, wTo_h _ hh, k1 h0]
    exact ⟨with_more (by rw [with_at, if_neg (by omega), if_neg (by omega)]; exact at_k h0 h1), fun _ => by omega, fun h => by cases h⟩
  | false =>
    have hv := has_not hh
    rw [hm, wTo_n _ hh, wTo_n _ hh, k1 h0]
    exact ⟨with_more (by rw [with_at, if_pos hv, if_neg (by omega), if_neg (by omega), Nat.add_sub_cancel]; exact at_k h0 h1), fun _ => by omega, fun h => by cases h⟩
theorem withF_len : (withF l f e).length = l.length + if (getF l f).2 then 0 else 1 := by
  rcases with_cut l f e with ⟨h0, _, hp, h2⟩ | ⟨h0, hp, _, _, h2⟩
  · rw [h2, get_no h0]; simp; omega
  · rw [h2, get_yes (by omega)]; simp; omega
theorem w_e1 (h0 : 0 ≤ k) (hk : k ≤ l.length) (h1 : ¬ k < l.length) (hm : m = wTo l f e k d) (hd : wIs l f k d) (hn : (!d) = true) : m ++ [⟨f, e⟩] = withF l f e := by
  have hd0 : d = false := by simpa using hn
  subst hd0
  have hp := hd.2 rfl
  have hl := withF_len (l := l) (f := f) (e := e)
  rcases with_cut l f e with ⟨hv, _, hq, _⟩ | ⟨hv, hq, _, _, _⟩
  · rw [get_no hv, if_neg (by simp)] at hl
    rw [hm, wTo_f, with_more (by rw [with_at, if_pos hv, if_neg (by omega), if_pos (by omega)]), List.take_of_length_le (by omega)]
  · omega
theorem w_e2 (h0 : 0 ≤ k) (hk : k ≤ l.length) (h1 : ¬ k < l.length) (hm : m = wTo l f e k d) (hn : (!d) = false) : m = withF l f e := by
  have hd0 : d = true := by simpa using hn
  subst hd0
  have hl := withF_len (l := l) (f := f) (e := e)
  cases hh : (getF l f).2 with
  | true => rw [hh, if_pos rfl] at hl; rw [hm, wTo_h _ hh, List.take_of_length_le (by omega)]
  | false => rw [hh, if_neg (by simp)] at hl; rw [hm, wTo_n _ hh, List.take_of_length_le (by omega)]
theorem w_0 : ([] : List ValR) = wTo l f e 0 false ∧ wIs l f 0 false := ⟨by rw [wTo_f]; rfl, (fun h => by cases h), fun _ => by omega⟩
end
end Go.Proofs.YtkdbiooamgnfmaaGreatDoor.E
