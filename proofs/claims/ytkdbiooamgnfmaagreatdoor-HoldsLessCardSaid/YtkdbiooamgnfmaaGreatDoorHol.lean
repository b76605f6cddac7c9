/-
  Which assignments assertions hold under; and under the meet of two.
-/
import Derived.Test.YtkdbiooamgnfmaaGreatDoorRow
namespace Go.Proofs.YtkdbiooamgnfmaaGreatDoor.E
open Go Go.RowKit Go.Proofs.YtkdbiooamgnfmaaGreatDoor.M
set_option linter.unusedVariables false
set_option linter.unusedSimpArgs false
def oneF (s : Scp) (a : As) (x : AssR) : Bool :=
  if x.op = 10 then (if 0 ≤ x.var ∧ x.var < a.rows.length then !(getF (a.rows.getD x.var.toNat []) x.field).2 else false)
  else if x.op = 9 then (rowM a x.a).2 && (rowM a x.b).2 && sameL (rowM a x.a).1 (rowM a x.b).1
  else if x.op = 8 ∧ 0 ≤ x.lat ∧ x.lat < s.lats.length then (evalF (shAt s x.lat) x.code a.labels).2 && (atomF a x.to).2 && leqE (evalF (shAt s x.lat) x.code a.labels).1 (atomF a x.to).1
  else false
def firstF (s : Scp) (a : As) (l : List AssR) : Int := findV (fun i => !oneF s a (l.getD i.toNat ass0)) l.length
def allF (s : Scp) (a : As) (l : List AssR) : Bool := rightA s.sc a && decide (firstF s a l < 0)
section
variable {s : Scp} {a : As} {x : AssR} {l : List AssR}
theorem one_10a (h : x.op = 10) (h2 : ¬ (0 ≤ x.var ∧ x.var < a.rows.length)) : oneF s a x = false := by rw [oneF, if_pos h, if_neg h2]
theorem one_10 (h : x.op = 10) (h2 : 0 ≤ x.var ∧ x.var < a.rows.length) : oneF s a x = !(getF (a.rows.getD x.var.toNat []) x.field).2 := by rw [oneF, if_pos h, if_pos h2]
theorem one_9 (h : x.op = 9) : oneF s a x = ((rowM a x.a).2 && (rowM a x.b).2 && sameL (rowM a x.a).1 (rowM a x.b).1) := by rw [oneF, if_neg (by omega), if_pos h]
theorem one_8 (h : x.op = 8) (h2 : 0 ≤ x.lat ∧ x.lat < s.lats.length) : oneF s a x = ((evalF (shAt s x.lat) x.code a.labels).2 && (atomF a x.to).2 && leqE (evalF (shAt s x.lat) x.code a.labels).1 (atomF a x.to).1) := by
  rw [oneF, if_neg (by omega), if_neg (by omega), if_pos ⟨h, h2⟩]
theorem one_x (h : ¬ x.op = 10) (h1 : ¬ x.op = 9) (h2 : ¬ (x.op = 8 ∧ 0 ≤ x.lat ∧ x.lat < s.lats.length)) : oneF s a x = false := by rw [oneF, if_neg h, if_neg h1, if_neg h2]
theorem first_all : firstF s a l < 0 ↔ ∀ x ∈ l, oneF s a x = true := by
  unfold firstF
  rcases find_cases (fun i => !oneF s a (l.getD i.toNat ass0)) l.length with ⟨j, j0, j1, j2, _, e⟩ | ⟨q, e⟩
  · refine ⟨fun h => by omega, fun h => ?_⟩
    have hj : j.toNat < l.length := by omega
    have := h _ (List.getElem_mem hj)
    rw [List.getD_eq_getElem?_getD, List.getElem?_eq_getElem hj, Option.getD_some, this] at j2
    cases j2
  · refine ⟨fun _ x hx => ?_, fun _ => by omega⟩
    obtain ⟨i, hi, rfl⟩ := List.getElem_of_mem hx
    have := q i (by omega) (by omega)
    rw [Int.toNat_natCast, List.getD_eq_getElem?_getD, List.getElem?_eq_getElem hi, Option.getD_some] at this
    simpa using this
theorem all_iff : allF s a l = true ↔ rightA s.sc a = true ∧ ∀ x ∈ l, oneF s a x = true := by rw [allF, Bool.and_eq_true, decide_eq_true_eq, first_all]
theorem all_nil : allF s a [] = rightA s.sc a := by
  rw [Bool.eq_iff_iff, all_iff]; exact ⟨fun h => h.1, fun h => ⟨h, fun x hx => by cases hx⟩⟩
theorem all_less {k : Int} (h0 : 0 ≤ k) (h1 : k < l.length) : allF s a l = (allF s a (l.take k.toNat ++ l.drop (k + 1).toNat) && oneF s a (l.getD k.toNat ass0)) := by
  have hk : k.toNat < l.length := by omega
  have e : l = l.take k.toNat ++ l.getD k.toNat ass0 :: l.drop (k + 1).toNat := by
    rw [show (k + 1).toNat = k.toNat + 1 by omega, List.getD_eq_getElem?_getD, List.getElem?_eq_getElem hk, Option.getD_some, ← List.drop_eq_getElem_cons hk, List.take_append_drop]
  rw [Bool.eq_iff_iff, Bool.and_eq_true, all_iff, all_iff]
  constructor
  · intro h
    exact ⟨⟨h.1, fun x hx => h.2 x (by rw [e]; rcases List.mem_append.1 hx with q | q <;> simp [q])⟩, h.2 _ (by rw [List.getD_eq_getElem?_getD, List.getElem?_eq_getElem hk]; exact List.getElem_mem hk)⟩
  · intro ⟨⟨h, h2⟩, h3⟩
    refine ⟨h, fun x hx => ?_⟩
    rw [e, List.mem_append, List.mem_cons] at hx
    rcases hx with q | q | q
    · exact h2 x (List.mem_append_left _ q)
    · rw [q]; exact h3
    · exact h2 x (List.mem_append_right _ q)
end
section
variable {s : Scp} {a m : As} {lat : Int} {l : List InsR}
def LeqL : List El → List El → Prop
  | [], [] => True
  | a :: l, b :: m => leqE a b = true ∧ LeqL l m
  | _, _ => False
theorem LeqL.len : ∀ {l m : List El}, LeqL l m → l.length = m.length
  | [], [], _ => rfl
  | _ :: _, _ :: _, h => by simp [LeqL.len h.2]
  | [], _ :: _, h => h.elim
  | _ :: _, [], h => h.elim
theorem LeqL.app : ∀ {l m l' m' : List El}, LeqL l m → LeqL l' m' → LeqL (l ++ l') (m ++ m')
  | [], [], _, _, _, h => h
  | _ :: _, _ :: _, _, _, h, h' => ⟨h.1, LeqL.app h.2 h'⟩
  | [], _ :: _, _, _, h, _ => h.elim
  | _ :: _, [], _, _, h, _ => h.elim
theorem LeqL.take : ∀ {l m : List El} (n : Nat), LeqL l m → LeqL (l.take n) (m.take n)
  | [], [], n, _ => by simp [LeqL]
  | _ :: _, _ :: _, 0, h => by simp [LeqL]
  | _ :: _, _ :: _, n + 1, h => ⟨h.1, LeqL.take n h.2⟩
  | [], _ :: _, _, h => h.elim
  | _ :: _, [], _, h => h.elim
theorem LeqL.drop : ∀ {l m : List El} (n : Nat), LeqL l m → LeqL (l.drop n) (m.drop n)
  | [], [], n, _ => by simp [LeqL]
  | _ :: _, _ :: _, 0, h => h
  | _ :: _, _ :: _, n + 1, h => LeqL.drop n h.2
  | [], _ :: _, _, h => h.elim
  | _ :: _, [], _, h => h.elim
end
section
variable {s : Scp} {a b : As} {lat : Int} {T U : RowR}
end
end Go.Proofs.YtkdbiooamgnfmaaGreatDoor.E
