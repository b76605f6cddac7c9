/-
  Whether an assertion fits a scope.
-/
import Derived.Test.YtkdbiooamgnfmaaGreatDoorCod
namespace Go.Proofs.YtkdbiooamgnfmaaGreatDoor.E
open Go Go.RowKit Go.Proofs.YtkdbiooamgnfmaaGreatDoor.M
set_option linter.unusedVariables false
set_option linter.unusedSimpArgs false
def kdOk (s : Scp) (v kd lat : Int) : Bool := decide (0 ≤ v ∧ v < s.vars.length) && decide ((s.vars.getD v.toNat var0).kind = kd) && decide ((s.vars.getD v.toNat var0).lat = lat)
def shAt (s : Scp) (lat : Int) : Sh := (s.lats.getD lat.toNat lat0).shp.sh
def atomOk (s : Scp) (lat : Int) (a : AtomR) : Bool := if a.var < 0 then fitsS (shAt s lat) a.c else kdOk s a.var 1 lat
def fieldOk (s : Scp) (lat : Int) (f : FieldR) : Bool := nameR f.name && atomOk s lat f.at_
def fnames (r : RowR) : List Tx := r.fields.map FieldR.name
def rowOk (s : Scp) (lat : Int) (r : RowR) : Bool := decide (r.fields.length ≤ 16) && (decide (r.tail < 0) || kdOk s r.tail 2 lat) && r.fields.all (fieldOk s lat) && decide (twice (fnames r) < 0)
def insOk (s : Scp) (lat : Int) (x : InsR) : Bool := (!decide (x.op = 1) || kdOk s x.n 1 lat) && (!decide (x.op = 2) || fitsS (shAt s lat) x.c)
def codeOk (s : Scp) (lat : Int) (l : List InsR) : Bool := l.all (insOk s lat) && rightC l
def assOk (s : Scp) (a : AssR) : Bool :=
  if a.op = 10 then kdOk s a.var 2 a.lat && nameR a.field
  else if 0 ≤ a.lat ∧ a.lat < s.lats.length then (if a.op = 9 then rowOk s a.lat a.a && rowOk s a.lat a.b else if a.op = 8 then codeOk s a.lat a.code && atomOk s a.lat a.to else false)
  else false
def probOk (p : ProbR) : Bool := rightS p.s && decide (p.asserts.length ≤ 64) && p.asserts.all (assOk p.s)
section
variable {s : Scp} {v kd lat : Int} {a : AssR} {r : RowR} {l : List InsR} {k : Int}
theorem kind_no1 (h : ¬ (0 ≤ v ∧ v < s.vars.length)) : kdOk s v kd lat = false := by rw [kdOk, decide_eq_false h]; rfl
theorem kind_no2 (h : ¬ (s.vars.getD v.toNat var0).kind = kd) : kdOk s v kd lat = false := by rw [kdOk, decide_eq_false h, Bool.and_false]; rfl
theorem kind_yes (h : 0 ≤ v ∧ v < s.vars.length) (h2 : (s.vars.getD v.toNat var0).kind = kd) : kdOk s v kd lat = decide ((s.vars.getD v.toNat var0).lat = lat) := by rw [kdOk, decide_eq_true h, decide_eq_true h2]; rfl
theorem atom_1 {x : AtomR} (h : x.var < 0) : atomOk s lat x = fitsS (shAt s lat) x.c := if_pos h
theorem atom_2 {x : AtomR} (h : ¬ x.var < 0) : atomOk s lat x = kdOk s x.var 1 lat := if_neg h
theorem row_no1 (h : ¬ r.fields.length ≤ 16) : rowOk s lat r = false := by rw [rowOk, decide_eq_false h]; rfl
theorem row_no2 (h1 : ¬ r.tail < 0) (h : kdOk s r.tail 2 lat = false) : rowOk s lat r = false := by rw [rowOk, decide_eq_false h1, h]; simp
theorem row_no3 (h0 : 0 ≤ k) (h1 : k < r.fields.length) (h : fieldOk s lat (r.fields.getD k.toNat field0) = false) : rowOk s lat r = false := by rw [rowOk, all_no h0 h1 h]; simp
theorem row_yes (h : r.fields.length ≤ 16) (h1 : r.tail < 0 ∨ kdOk s r.tail 2 lat = true) (hk : ¬ k < r.fields.length) (hg : ∀ j : Int, 0 ≤ j → j < k → fieldOk s lat (r.fields.getD j.toNat field0) = true) : rowOk s lat r = decide (twice (fnames r) < 0) := by
  rw [rowOk, decide_eq_true h, all_yes hk hg]
  rcases h1 with h1 | h1
  · rw [decide_eq_true h1]; rfl
  · rw [h1]; simp
theorem field_no1 {f : FieldR} (h : nameR f.name = false) : fieldOk s lat f = false := by rw [fieldOk, h]; rfl
theorem field_no2 {f : FieldR} (h : atomOk s lat f.at_ = false) : fieldOk s lat f = false := by rw [fieldOk, h, Bool.and_false]
theorem field_yes {f : FieldR} (h : nameR f.name = true) (h2 : atomOk s lat f.at_ = true) : fieldOk s lat f = true := by rw [fieldOk, h, h2]; rfl
theorem fnames_next (h0 : 0 ≤ k) (h1 : k < r.fields.length) : (r.fields.take (k + 1).toNat).map FieldR.name = (r.fields.take k.toNat).map FieldR.name ++ [(r.fields.getD k.toNat field0).name] := by
  have h2 : k.toNat < r.fields.length := by omega
  rw [show (k + 1).toNat = k.toNat + 1 by omega, List.take_add_one, List.map_append, List.getD_eq_getElem?_getD, List.getElem?_eq_getElem h2]; rfl
theorem ins_no1 {x : InsR} (h : x.op = 1) (h2 : kdOk s x.n 1 lat = false) : insOk s lat x = false := by rw [insOk, decide_eq_true h, h2]; rfl
theorem ins_no2 {x : InsR} (h : x.op = 2) (h2 : fitsS (shAt s lat) x.c = false) : insOk s lat x = false := by rw [insOk, decide_eq_true h, h2]; simp
theorem ins_yes {x : InsR} (h : ¬ x.op = 1 ∨ kdOk s x.n 1 lat = true) (h2 : ¬ x.op = 2 ∨ fitsS (shAt s lat) x.c = true) : insOk s lat x = true := by
  rw [insOk]; rcases h with h | h <;> rcases h2 with h2 | h2 <;> simp [h, h2]
theorem code_no1 (h0 : 0 ≤ k) (h1 : k < l.length) (h : insOk s lat (l.getD k.toNat ins0) = false) : codeOk s lat l = false := by rw [codeOk, all_no h0 h1 h]; rfl
theorem code_yes (hk : ¬ k < l.length) (hg : ∀ j : Int, 0 ≤ j → j < k → insOk s lat (l.getD j.toNat ins0) = true) : codeOk s lat l = rightC l := by rw [codeOk, all_yes hk hg]; rfl
theorem ass_10 (h : a.op = 10) : assOk s a = (kdOk s a.var 2 a.lat && nameR a.field) := if_pos h
theorem ass_no (h : ¬ a.op = 10) (h2 : ¬ (0 ≤ a.lat ∧ a.lat < s.lats.length)) : assOk s a = false := by rw [assOk, if_neg h, if_neg h2]
theorem ass_9 (h : a.op = 9) (h2 : 0 ≤ a.lat ∧ a.lat < s.lats.length) : assOk s a = (rowOk s a.lat a.a && rowOk s a.lat a.b) := by rw [assOk, if_neg (by omega), if_pos h2, if_pos h]
theorem ass_8 (h : a.op = 8) (h2 : 0 ≤ a.lat ∧ a.lat < s.lats.length) : assOk s a = (codeOk s a.lat a.code && atomOk s a.lat a.to) := by rw [assOk, if_neg (by omega), if_pos h2, if_neg (by omega), if_pos h]
theorem ass_x (h : ¬ a.op = 10) (h1 : ¬ a.op = 9) (h2 : ¬ a.op = 8) : assOk s a = false := by rw [assOk, if_neg h, if_neg h1, if_neg h2]; split <;> rfl
end
section
variable {p : ProbR} {k : Int}
theorem prob_no1 (h : rightS p.s = false) : probOk p = false := by rw [probOk, h]; rfl
theorem prob_no2 (h : ¬ p.asserts.length ≤ 64) : probOk p = false := by rw [probOk, decide_eq_false h, Bool.and_false]; rfl
theorem prob_no3 (h0 : 0 ≤ k) (h1 : k < p.asserts.length) (h : assOk p.s (p.asserts.getD k.toNat ass0) = false) : probOk p = false := by rw [probOk, all_no h0 h1 h, Bool.and_false]
theorem prob_yes (h : rightS p.s = true) (h2 : p.asserts.length ≤ 64) (hk : ¬ k < p.asserts.length) (hg : ∀ j : Int, 0 ≤ j → j < k → assOk p.s (p.asserts.getD j.toNat ass0) = true) : probOk p = true := by rw [probOk, h, decide_eq_true h2, all_yes hk hg]; rfl
end
end Go.Proofs.YtkdbiooamgnfmaaGreatDoor.E
