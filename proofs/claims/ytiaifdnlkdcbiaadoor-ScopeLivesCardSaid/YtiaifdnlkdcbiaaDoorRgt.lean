/-
  When a scope is right, and when two are the same.
-/
import Derived.Test.YtiaifdnlkdcbiaaDoorAdd
namespace Go.Proofs.YtiaifdnlkdcbiaaDoor.E
open Go Go.RowKit Go.Proofs.YtiaifdnlkdcbiaaDoor.M
set_option linter.unusedVariables false
theorem node_ind {C : NodeR → Prop} (h : ∀ n, (∀ x ∈ n.kids, C x) → C n) (n : NodeR) : C n := h n fun x hx => node_ind h x
termination_by SizeOf.sizeOf n
decreasing_by
  cases n
  simp only [NodeR.kids] at hx
  have := List.sizeOf_lt_of_mem hx
  simp only [NodeR.mk.sizeOf_spec]
  omega
structure NodesV (K : Vu) (l : List NodeR) : Prop where
  each : ∀ x ∈ l, NodeV K x
theorem NodesV.mono {K K' : Vu} {l : List NodeR} (h : NodesV K l) (hl : Le K K') : NodesV K' l := ⟨fun x hx => NodeV.mono hl (h.each x hx)⟩
theorem NodesV.at {K : Vu} {l : List NodeR} (h : NodesV K l) {k : Int} (h0 : 0 ≤ k) (h1 : k < l.length) : NodeV K (l.getD k.toNat node0) := h.each _ (List.mem_of_getElem? (getD_at (d := node0) h0 h1))
theorem node2_ind {C : NodeR → NodeR → Prop} (h : ∀ a b, (∀ x ∈ a.kids, ∀ y ∈ b.kids, C x y) → C a b) (a b : NodeR) : C a b := h a b fun x hx y _ => node2_ind h x y
termination_by SizeOf.sizeOf a
decreasing_by
  cases a
  simp only [NodeR.kids] at hx
  have := List.sizeOf_lt_of_mem hx
  simp only [NodeR.mk.sizeOf_spec]
  omega
def lettersL : List Tx := [⟨#[]⟩, ⟨#[110, 119]⟩, ⟨#[110, 119]⟩, ⟨#[110, 119]⟩, ⟨#[110, 119, 112]⟩, ⟨#[110, 119, 112]⟩, ⟨#[110, 119]⟩, ⟨#[110, 119]⟩, ⟨#[110, 116, 116]⟩, ⟨#[110, 114, 114]⟩, ⟨#[110, 102]⟩, ⟨#[]⟩, ⟨#[]⟩, ⟨#[]⟩, ⟨#[]⟩, ⟨#[110]⟩]
def lettersF (n : Int) : Tx := if 0 ≤ n ∧ n < 16 then lettersL.getD n.toNat tx0 else tx0
def hasF (n c : Int) : Bool := (upto (lettersF n).size).any fun i => decide (byteAt (lettersF n) i = c)
theorem has_yes {n c i : Int} (h0 : 0 ≤ i) (h1 : i < (lettersF n).size) (h : byteAt (lettersF n) i = c) : hasF n c = true := by
  rw [hasF, List.any_eq_true]; exact ⟨i, mem_upto.2 ⟨h0, h1⟩, decide_eq_true h⟩
theorem has_no {n c i : Int} (hi : ¬ i < (lettersF n).size) (h : ∀ j : Int, 0 ≤ j → j < i → ¬ byteAt (lettersF n) j = c) : hasF n c = false := by
  rw [hasF, List.any_eq_false]
  intro x hx
  have := mem_upto.1 hx
  simpa using h x this.1 (by omega)
theorem letters_in {n : Int} (h : 0 ≤ n ∧ n < 16) : lettersF n = lettersL.getD n.toNat tx0 := if_pos h
theorem letters_out {n : Int} (h : ¬ (0 ≤ n ∧ n < 16)) : lettersF n = tx0 := if_neg h
theorem letters_le (n : Int) : (lettersF n).size ≤ 3 := by
  by_cases h : 0 ≤ n ∧ n < 16
  · have : n = 0 ∨ n = 1 ∨ n = 2 ∨ n = 3 ∨ n = 4 ∨ n = 5 ∨ n = 6 ∨ n = 7 ∨ n = 8 ∨ n = 9 ∨ n = 10 ∨ n = 11 ∨ n = 12 ∨ n = 13 ∨ n = 14 ∨ n = 15 := by omega
    rcases this with rfl | rfl | rfl | rfl | rfl | rfl | rfl | rfl | rfl | rfl | rfl | rfl | rfl | rfl | rfl | rfl <;> decide +kernel
  · rw [letters_out h]; decide
theorem has_decl {n : Int} (h : 1 ≤ n ∧ n ≤ 7) : hasF n 110 = true ∧ hasF n 119 = true ∧ hasF n 102 = false := by
  have : n = 1 ∨ n = 2 ∨ n = 3 ∨ n = 4 ∨ n = 5 ∨ n = 6 ∨ n = 7 := by omega
  rcases this with rfl | rfl | rfl | rfl | rfl | rfl | rfl <;> decide +kernel
/-- What is known of a command that might have been read. -/
structure CmdOk (c : CmdR) : Prop where
  names : ∀ x ∈ c.names, nameR x.text = true
  own : 1 ≤ c.op ∧ c.op ≤ 7 → nameR c.name.text = true
  some : 1 ≤ c.op ∧ c.op ≤ 7 → 1 ≤ c.names.length
def wordsR (l : List Wd) : Bool := l.all fun x => nameR x.text
def latOk (l : LatR) : Bool := nameR l.name && shR l.shp.sh
def varOk (n : Nat) (v : VarR) : Bool := nameR v.name && decide ((v.kind = 1 ∨ v.kind = 2) ∧ 0 ≤ v.lat ∧ v.lat < n)
def namesS (s : Scp) : List Tx := s.lats.map LatR.name ++ s.vars.map VarR.name
def rightS (s : Scp) : Bool := decide (s.lats.length ≤ 16 ∧ s.vars.length ≤ 64) && s.lats.all latOk && s.vars.all (varOk s.lats.length) && decide (twice (namesS s) < 0)
theorem ndF {p : Prop} [Decidable p] (h : (!decide p) = false) : p := by simpa using h
theorem ndT {p : Prop} [Decidable p] (h : (!decide p) = true) : ¬ p := by simpa using h
theorem all_no {α : Type} {l : List α} {d : α} {P : α → Bool} {k : Int} (h0 : 0 ≤ k) (h1 : k < l.length) (h : P (l.getD k.toNat d) = false) : l.all P = false := by
  cases hc : l.all P with
  | false => rfl
  | true =>
    rw [List.all_eq_true] at hc
    rw [hc _ (List.mem_of_getElem? (getD_at (d := d) h0 h1))] at h; cases h
theorem all_yes {α : Type} {l : List α} {d : α} {P : α → Bool} {k : Int} (hk : ¬ k < l.length) (h : ∀ j : Int, 0 ≤ j → j < k → P (l.getD j.toNat d) = true) : l.all P = true := by
  rw [List.all_eq_true]
  intro x hx
  obtain ⟨i, hi, rfl⟩ := List.getElem_of_mem hx
  have := h i (by omega) (by omega)
  rw [List.getD_eq_getElem?_getD, Int.toNat_natCast, List.getElem?_eq_getElem hi] at this
  simpa using this
section
variable {s : Scp}
theorem right_no1 (h : ¬ (s.lats.length ≤ 16 ∧ s.vars.length ≤ 64)) : rightS s = false := by rw [rightS, decide_eq_false h]; rfl
theorem right_no2 {k : Int} (h0 : 0 ≤ k) (h1 : k < s.lats.length) (h : latOk (s.lats.getD k.toNat lat0) = false) : rightS s = false := by rw [rightS, all_no h0 h1 h]; simp
theorem right_no3 {k : Int} (h0 : 0 ≤ k) (h1 : k < s.vars.length) (h : varOk s.lats.length (s.vars.getD k.toNat var0) = false) : rightS s = false := by rw [rightS, all_no h0 h1 h]; simp
theorem right_yes {k j : Int} (h : s.lats.length ≤ 16 ∧ s.vars.length ≤ 64) (hk : ¬ k < s.lats.length) (hl : ∀ i : Int, 0 ≤ i → i < k → latOk (s.lats.getD i.toNat lat0) = true) (hj : ¬ j < s.vars.length) (hv : ∀ i : Int, 0 ≤ i → i < j → varOk s.lats.length (s.vars.getD i.toNat var0) = true) :
    rightS s = decide (twice (namesS s) < 0) := by rw [rightS, decide_eq_true h, all_yes hk hl, all_yes hj hv]; rfl
theorem right_name {k : Int} (h0 : 0 ≤ k) (h1 : k < (namesS s).length) (h : nameR ((namesS s).getD k.toNat tx0) = false) : rightS s = false := by
  cases hc : rightS s with
  | false => rfl
  | true =>
    rw [rightS, Bool.and_eq_true, Bool.and_eq_true, Bool.and_eq_true, List.all_eq_true, List.all_eq_true] at hc
    have hm := List.mem_of_getElem? (getD_at (d := tx0) h0 h1)
    rw [namesS, List.mem_append, List.mem_map, List.mem_map] at hm
    rcases hm with ⟨a, ha, e⟩ | ⟨a, ha, e⟩
    · have := hc.1.1.2 a ha
      rw [latOk, Bool.and_eq_true, e] at this
      have h2 := this.1
      rw [namesS] at h; rw [h] at h2; cases h2
    · have := hc.1.2 a ha
      rw [varOk, Bool.and_eq_true, e] at this
      have h2 := this.1
      rw [namesS] at h; rw [h] at h2; cases h2
theorem right_all {k j i : Int} (k1 : k ≤ s.lats.length) (j1 : j ≤ s.vars.length) (h : s.lats.length ≤ 16 ∧ s.vars.length ≤ 64) (hk : ¬ k < s.lats.length) (hl : ∀ i : Int, 0 ≤ i → i < k → shR (s.lats.getD i.toNat lat0).shp.sh = true) (hj : ¬ j < s.vars.length) (hv : ∀ i : Int, 0 ≤ i → i < j → ((s.vars.getD i.toNat var0).kind = 1 ∨ (s.vars.getD i.toNat var0).kind = 2) ∧ 0 ≤ (s.vars.getD i.toNat var0).lat ∧ (s.vars.getD i.toNat var0).lat < s.lats.length)
    (hi : ¬ i < (namesS s).length) (hn : ∀ x : Int, 0 ≤ x → x < i → nameR ((namesS s).getD x.toNat tx0) = true) : rightS s = decide (twice (namesS s) < 0) := by
  have hall : ∀ t ∈ namesS s, nameR t = true := fun t ht => by
    obtain ⟨x, hx, rfl⟩ := List.getElem_of_mem ht
    have := hn x (by omega) (by omega)
    rw [List.getD_eq_getElem?_getD, Int.toNat_natCast, List.getElem?_eq_getElem hx] at this
    simpa using this
  refine right_yes h hk (fun x x0 x1 => ?_) hj fun x x0 x1 => ?_
  · rw [latOk, hl x x0 x1, Bool.and_true]
    refine hall _ (List.mem_append_left _ (List.mem_map_of_mem (List.mem_of_getElem? (getD_at (d := lat0) x0 (by omega)))))
  · rw [varOk, decide_eq_true (hv x x0 x1), Bool.and_true]
    refine hall _ (List.mem_append_right _ (List.mem_map_of_mem (List.mem_of_getElem? (getD_at (d := var0) x0 (by omega)))))
theorem lnames_next {k : Int} (h0 : 0 ≤ k) (h1 : k < s.lats.length) : (s.lats.take (k + 1).toNat).map LatR.name = (s.lats.take k.toNat).map LatR.name ++ [(s.lats.getD k.toNat lat0).name] := by
  have h2 : k.toNat < s.lats.length := by omega
  rw [show (k + 1).toNat = k.toNat + 1 by omega, List.take_add_one, List.map_append, List.getD_eq_getElem?_getD, List.getElem?_eq_getElem h2]; rfl
theorem vnames_next {k : Int} (h0 : 0 ≤ k) (h1 : k < s.vars.length) : (s.vars.take (k + 1).toNat).map VarR.name = (s.vars.take k.toNat).map VarR.name ++ [(s.vars.getD k.toNat var0).name] := by
  have h2 : k.toNat < s.vars.length := by omega
  rw [show (k + 1).toNat = k.toNat + 1 by omega, List.take_add_one, List.map_append, List.getD_eq_getElem?_getD, List.getElem?_eq_getElem h2]; rfl
end
/-- The same, of scopes with headers. -/
def sameS2 (a b : Scp) : Bool := decide (a.lats.length = b.lats.length ∧ a.vars.length = b.vars.length) && (upto a.lats.length).all (fun i => decide ((a.lats.getD i.toNat lat0).name = (b.lats.getD i.toNat lat0).name) && sameS (a.lats.getD i.toNat lat0).shp.sh (b.lats.getD i.toNat lat0).shp.sh) && decide (a.vars = b.vars)
section
variable {a b : Scp}
theorem same_no1 (h : ¬ (a.lats.length = b.lats.length ∧ a.vars.length = b.vars.length)) : sameS2 a b = false := by rw [sameS2, decide_eq_false h]; rfl
theorem same_no2 {k : Int} (h0 : 0 ≤ k) (h1 : k < a.lats.length) (h : (a.lats.getD k.toNat lat0).name ≠ (b.lats.getD k.toNat lat0).name ∨ sameS (a.lats.getD k.toNat lat0).shp.sh (b.lats.getD k.toNat lat0).shp.sh = false) : sameS2 a b = false := by
  cases hc : sameS2 a b with
  | false => rfl
  | true =>
    rw [sameS2, Bool.and_eq_true, Bool.and_eq_true, List.all_eq_true] at hc
    have := hc.1.2 k (mem_upto.2 ⟨h0, h1⟩)
    rw [Bool.and_eq_true, decide_eq_true_eq] at this
    rcases h with h | h
    · exact absurd this.1 h
    · rw [h] at this; exact absurd this.2 (by simp)
theorem same_no3 {k : Int} (h : a.vars.getD k.toNat var0 ≠ b.vars.getD k.toNat var0) : sameS2 a b = false := by
  cases hc : sameS2 a b with
  | false => rfl
  | true =>
    rw [sameS2, Bool.and_eq_true, decide_eq_true_eq] at hc
    exact absurd (by rw [hc.2]) h
theorem same_yes {k j : Int} (h : a.lats.length = b.lats.length ∧ a.vars.length = b.vars.length) (hk : ¬ k < a.lats.length) (hl : ∀ i : Int, 0 ≤ i → i < k → (a.lats.getD i.toNat lat0).name = (b.lats.getD i.toNat lat0).name ∧ sameS (a.lats.getD i.toNat lat0).shp.sh (b.lats.getD i.toNat lat0).shp.sh = true)
    (hj : ¬ j < a.vars.length) (hv : ∀ i : Int, 0 ≤ i → i < j → a.vars.getD i.toNat var0 = b.vars.getD i.toNat var0) : sameS2 a b = true := by
  rw [sameS2, decide_eq_true h, Bool.true_and, Bool.and_eq_true, List.all_eq_true, decide_eq_true_eq]
  refine ⟨fun i hi => ?_, ?_⟩
  · have := mem_upto.1 hi
    have := hl i this.1 (by omega)
    rw [Bool.and_eq_true, decide_eq_true_eq]; exact this
  · refine List.ext_getElem h.2 fun i h1 h2 => ?_
    have := hv i (by omega) (by omega)
    rw [List.getD_eq_getElem?_getD, List.getD_eq_getElem?_getD, Int.toNat_natCast, List.getElem?_eq_getElem h1, List.getElem?_eq_getElem h2] at this
    simpa using this
end
def wordsF (l : List Tx) : List Wd := (upto l.length).map fun i => ⟨l.getD i.toNat tx0, 10 + i⟩
def wordsTo (l : List Tx) (k : Int) : List Wd := (upto k).map fun i => ⟨l.getD i.toNat tx0, 10 + i⟩
theorem words_next {l : List Tx} {k : Int} (h0 : 0 ≤ k) : wordsTo l (k + 1) = wordsTo l k ++ [⟨l.getD k.toNat tx0, 10 + k⟩] := by
  rw [wordsTo, wordsTo, ← upto_succ h0, List.map_append]; rfl
end Go.Proofs.YtiaifdnlkdcbiaaDoor.E
