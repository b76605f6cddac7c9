/-
  Assignments: what the walks lean on.
-/
import Derived.Test.YtkdbiooamgnfmaaGreatDoorAsr
namespace Go.Proofs.YtkdbiooamgnfmaaGreatDoor.E
open Go Go.RowKit Go.Proofs.YtkdbiooamgnfmaaGreatDoor.M
set_option linter.unusedVariables false
set_option linter.unusedSimpArgs false
/-! ### Looked up -/
def latAt (l : List LatR) (i : Int) : LatR := if 0 ≤ i ∧ i < l.length then l.getD i.toNat lat0 else lat0
theorem RowsV.or {K : Vu} {l : List VrR} (h : RowsV K l) (k : Nat) : SlV K (l.getD k vr0).v 9 (l.getD k vr0).l.length ((l.getD k vr0).l.flatMap valL) := by
  by_cases hk : k < l.length
  · have := h.at (k := (k : Int)) (by omega) (by omega)
    simpa using this
  · rw [List.getD_eq_getElem?_getD, List.getElem?_eq_none (by omega)]; exact SlV.nil _ _
section
variable {s : Scp} {v : VarR} {e : El} {l : List ValR} {a : Asg} {k : Int}
abbrev shG (s : Scp) (v : VarR) : Sh := (s.lats.getD v.lat.toNat lat0).shp.sh
theorem ok_def : okV s.sc v e l = (decide (0 ≤ v.lat ∧ v.lat < s.lats.length) && (if v.kind = 1 then decide (l.length = 0) && fitsS (shG s v) e else if v.kind = 2 then decide (eqE e el0) && orderedF l && fitsF (shG s v) l else false)) := by
  rw [okV, sc_len, sc_lat]
theorem ok_n0 (h : ¬ (0 ≤ v.lat ∧ v.lat < s.lats.length)) : okV s.sc v e l = false := by rw [ok_def, decide_eq_false h]; rfl
theorem ok_1a (h1 : v.kind = 1) (h : ¬ l.length = 0) : okV s.sc v e l = false := by rw [ok_def, if_pos h1, decide_eq_false h, Bool.false_and, Bool.and_false]
theorem ok_1b (h1 : v.kind = 1) (h : fitsS (shG s v) e = false) : okV s.sc v e l = false := by rw [ok_def, if_pos h1, h, Bool.and_false, Bool.and_false]
theorem ok_2a (h1 : v.kind = 2) (h : decide (eqE e el0) = false) : okV s.sc v e l = false := by rw [ok_def, if_neg (by omega), if_pos h1, h, Bool.false_and, Bool.false_and, Bool.and_false]
theorem ok_2b (h1 : v.kind = 2) (h : orderedF l = false) : okV s.sc v e l = false := by rw [ok_def, if_neg (by omega), if_pos h1, h, Bool.and_false, Bool.false_and, Bool.and_false]
theorem ok_2c (h1 : v.kind = 2) (h : fitsF (shG s v) l = false) : okV s.sc v e l = false := by rw [ok_def, if_neg (by omega), if_pos h1, h, Bool.and_false, Bool.and_false]
theorem ok_x (h1 : ¬ v.kind = 1) (h2 : ¬ v.kind = 2) : okV s.sc v e l = false := by rw [ok_def, if_neg h1, if_neg h2, Bool.and_false]
theorem ok_y1 (hl : 0 ≤ v.lat ∧ v.lat < s.lats.length) (h1 : v.kind = 1) (h : l.length = 0) (hf : fitsS (shG s v) e = true) : okV s.sc v e l = true := by rw [ok_def, if_pos h1, decide_eq_true hl, decide_eq_true h, hf]; rfl
theorem ok_y2 (hl : 0 ≤ v.lat ∧ v.lat < s.lats.length) (h1 : v.kind = 2) (h : decide (eqE e el0) = true) (ho : orderedF l = true) (hf : fitsF (shG s v) l = true) : okV s.sc v e l = true := by rw [ok_def, if_neg (by omega), if_pos h1, decide_eq_true hl, h, ho, hf]; rfl
abbrev okG (s : Scp) (a : Asg) (k : Int) : Bool := okV s.sc (s.vars.getD k.toNat var0) (a.labels.getD k.toNat el0) (a.rows.getD k.toNat vr0).l
theorem right_def : rightA s.sc a.as = (decide (a.labels.length = s.vars.length ∧ a.rows.length = s.vars.length) && (upto s.vars.length).all (okG s a)) := by
  rw [rightA, as_rows_len]
  congr 2
  funext i; rw [as_row]; rfl
theorem right_1 (h : ¬ (a.labels.length : Int) = s.vars.length) : rightA s.sc a.as = false := by rw [right_def, decide_eq_false (by omega)]; rfl
theorem right_2 (h : ¬ (a.rows.length : Int) = s.vars.length) : rightA s.sc a.as = false := by rw [right_def, decide_eq_false (by omega)]; rfl
theorem right_3 (h0 : 0 ≤ k) (h1 : k < s.vars.length) (h : okG s a k = false) : rightA s.sc a.as = false := by rw [right_def, upAll_no (P := okG s a) h0 h1 h, Bool.and_false]
theorem right_y (h : (a.labels.length : Int) = s.vars.length) (h' : (a.rows.length : Int) = s.vars.length) (hk : ¬ k < s.vars.length) (hg : ∀ j : Int, 0 ≤ j → j < k → okG s a j = true) : rightA s.sc a.as = true := by
  rw [right_def, decide_eq_true (by omega), upAll_yes (P := okG s a) hk hg]; rfl
end
section
variable {a b : Asg} {k j : Int}
end
/-! ### Big ones -/
def rsum (l : List VrR) : Nat := (l.map fun r => r.l.length).sum
def bigNm (v : ValR) : Bool := decide (40 < v.name.size)
def bigR (r : VrR) : Bool := r.l.any bigNm
def bigA (a : Asg) : Bool := decide (100 < a.labels.length ∨ 100 < a.rows.length) || a.rows.any bigR || decide (200 < (rsum a.rows : Int))
theorem rsum_next {l : List VrR} {k : Int} (h0 : 0 ≤ k) (h1 : k < l.length) : (rsum (l.take (k + 1).toNat) : Int) = rsum (l.take k.toNat) + (l.getD k.toNat vr0).l.length := by
  rw [rsum, rsum, show (k + 1).toNat = k.toNat + 1 by omega, List.take_add_one, show l[k.toNat]? = some (l.getD k.toNat vr0) from getD_at h0 h1, List.map_append, List.sum_append]
  simp
theorem rsum_all {l : List VrR} {k : Int} (h : ¬ k < l.length) : rsum (l.take k.toNat) = rsum l := by rw [List.take_of_length_le (by omega)]
theorem rsum_bd {l : List VrR} {k : Int} (hb : ∀ r ∈ l, r.l.length ≤ 1759218604390) (h0 : 0 ≤ k) (h1 : k ≤ 100) : (rsum (l.take k.toNat) : Int) ≤ 175921860439000 := by
  have h2 := sum_bd (F := fun r : VrR => r.l.length) (m := 1759218604390) (l.take k.toNat) fun r hr => hb r (List.mem_of_mem_take hr)
  have h3 : (l.take k.toNat).length ≤ 100 := by rw [List.length_take]; omega
  have h4 := Nat.mul_le_mul_left 1759218604390 h3
  have h5 : rsum (l.take k.toNat) ≤ 1759218604390 * 100 := Nat.le_trans h2 h4
  omega
theorem rsum_le {l : List VrR} {r : VrR} (h : r ∈ l) : r.l.length ≤ rsum l := by
  induction l with
  | nil => cases h
  | cons x l ih =>
    rw [rsum, List.map_cons, List.sum_cons]
    rcases List.mem_cons.1 h with rfl | h
    · omega
    · have := ih h; rw [rsum] at this; omega
theorem any_f {α : Type} {l : List α} {P : α → Bool} (h : l.any P = false) : ∀ x ∈ l, P x = false := fun x hx => by
  cases hp : P x with
  | false => rfl
  | true => rw [List.any_eq_true.2 ⟨x, hx, hp⟩] at h; cases h
theorem bigA_no {a : Asg} (h : bigA a = false) : a.labels.length ≤ 100 ∧ a.rows.length ≤ 100 ∧ ∀ r ∈ a.rows, r.l.length ≤ 200 ∧ ∀ v ∈ r.l, v.name.size ≤ 40 := by
  rw [bigA, Bool.or_eq_false_iff, Bool.or_eq_false_iff, decide_eq_false_iff_not, decide_eq_false_iff_not] at h
  refine ⟨by omega, by omega, fun r hr => ⟨by have := rsum_le hr; omega, fun v hv => ?_⟩⟩
  have h2 := any_f (any_f h.1.2 r hr) v hv
  rw [bigNm, decide_eq_false_iff_not] at h2; omega
/-! ### Joined texts -/
def joinTo (b : Tx) (l : List Tx) (k : Int) : Tx := joinF b (l.take k.toNat)
def szJ (b : Tx) (l : List Tx) : Nat := (l.map fun x => x.size + b.size).sum
section
variable {s : Scp} {a : Asg} {k : Int}
end
section
variable {P m : Tx} {sh : Sh} {l : List ValR} {q : Int}
end
abbrev VS (s : Scp) (a : Asg) : List Tx := varsT s.sc a.as s.vars.length
section
variable {s : Scp} {a : Asg} {k : Int}
end
/-! ### Rows -/
abbrev tupE (p : El × Bool) : Value := .tuple #[.agg (elC p.1), B p.2]
theorem get_tn {l : List ValR} {f : Tx} (h : vfind l f < 0) : tupE (el0, false) = tupE (getF l f) := by rw [get_no h]
theorem get_ty {l : List ValR} {f : Tx} (h : ¬ vfind l f < 0) : tupE ((l.getD (vfind l f).toNat val0).el, true) = tupE (getF l f) := by rw [get_yes h]
theorem ordered_no1 {l : List ValR} {k : Int} (h0 : 0 ≤ k) (h1 : k < l.length) (h : nameR (l.getD k.toNat val0).name = false) : orderedF l = false := upAll_no (P := fun i => nameR (l.getD i.toNat val0).name && (decide (i ≤ 0) || lessT (l.getD (i - 1).toNat val0).name (l.getD i.toNat val0).name)) h0 h1 (by simp only [h, Bool.false_and])
theorem ordered_no2 {l : List ValR} {k : Int} (h0 : 0 ≤ k) (h1 : k < l.length) (hk : 0 < k) (h : lessT (l.getD (k - 1).toNat val0).name (l.getD k.toNat val0).name = false) : orderedF l = false :=
  upAll_no (P := fun i => nameR (l.getD i.toNat val0).name && (decide (i ≤ 0) || lessT (l.getD (i - 1).toNat val0).name (l.getD i.toNat val0).name)) h0 h1 (by simp only [h, decide_eq_false (show ¬ k ≤ 0 by omega), Bool.or_false, Bool.and_false])
theorem ordered_yes {l : List ValR} {k : Int} (hk : ¬ k < l.length) (h : ∀ j : Int, 0 ≤ j → j < k → (nameR (l.getD j.toNat val0).name && (decide (j ≤ 0) || lessT (l.getD (j - 1).toNat val0).name (l.getD j.toNat val0).name)) = true) : orderedF l = true := upAll_yes hk h
theorem ord_y1 {l : List ValR} {k : Int} (h : nameR (l.getD k.toNat val0).name = true) (hk : ¬ 0 < k) : (nameR (l.getD k.toNat val0).name && (decide (k ≤ 0) || lessT (l.getD (k - 1).toNat val0).name (l.getD k.toNat val0).name)) = true := by rw [h, decide_eq_true (by omega)]; rfl
theorem ord_y2 {l : List ValR} {k : Int} (h : nameR (l.getD k.toNat val0).name = true) (h2 : lessT (l.getD (k - 1).toNat val0).name (l.getD k.toNat val0).name = true) : (nameR (l.getD k.toNat val0).name && (decide (k ≤ 0) || lessT (l.getD (k - 1).toNat val0).name (l.getD k.toNat val0).name)) = true := by rw [h, h2]; simp
theorem fits_no {s : Sh} {l : List ValR} {k : Int} (h0 : 0 ≤ k) (h1 : k < l.length) (h : fitsS s (l.getD k.toNat val0).el = false) : fitsF s l = false := all_no (d := val0) (P := fun v => fitsS s v.el) h0 h1 h
theorem fits_all {s : Sh} {l : List ValR} {k : Int} (hk : ¬ k < l.length) (h : ∀ j : Int, 0 ≤ j → j < k → fitsS s (l.getD j.toNat val0).el = true) : fitsF s l = true := all_yes (d := val0) (P := fun v => fitsS s v.el) hk h
theorem rows_next {a b : As} {k : Int} (h0 : 0 ≤ k) (h1 : k < a.rows.length) (h2 : k < b.rows.length) : ((a.rows.zip b.rows).take k.toNat).map (fun p => bothF p.1 p.2) ++ [bothF (a.rows.getD k.toNat []) (b.rows.getD k.toNat [])] = ((a.rows.zip b.rows).take (k + 1).toNat).map fun p => bothF p.1 p.2 := (zip_next (F := fun p : List ValR × List ValR => bothF p.1 p.2) h0 h1 h2).symm
section
variable {P : Program} {σ : Env} {w : World} {dst : Option Tmp} {ty t e : TypeId} {pos : String} {aft : Array Edge} {g : Option (Nat × Bool)} {x : Operand}
theorem run_mkEl1 {a : El} {ie : TypeInfo} {z : Value} (hu : P.underlying t = some (.slice e)) (hie : P.info? e = some ie) (hz : ie.zero = some z) (hsz : ie.size = 8) (hx : ev σ x = .agg (elC a)) :
    (execOp (ev σ) ⟨dst, .buildSlice t 1 #[(0, x)], ty, pos, aft, g⟩).run P w = .ok (.value (.slice (some ⟨w.heap.size, 0, none⟩) 1 1)) (w.alloc (.cells ([a].flatMap elL).toArray e)) :=
  run_mkRecs (ps := [(0, x)]) (l := [a]) elL_len hu hie hz hsz rfl (by decide) (by decide) (by rw [elC_def] at hx; simp [hx])
theorem run_mkSl1 {v : Value} {ie : TypeInfo} {z : Value} (h1 : v.cells = #[v]) (hu : P.underlying t = some (.slice e)) (hie : P.info? e = some ie) (hz : ie.zero = some z) (hsz : ie.size = 1) (hx : ev σ x = v) :
    (execOp (ev σ) ⟨dst, .buildSlice t 1 #[(0, x)], ty, pos, aft, g⟩).run P w = .ok (.value (.slice (some ⟨w.heap.size, 0, none⟩) 1 1)) (w.alloc (.cells ([v] : List Value).toArray e)) := by
  have := run_mkL (P := P) (σ := σ) (w := w) (dst := dst) (ty := ty) (pos := pos) (aft := aft) (g := g) (ps := [(0, x)]) (vs := [v]) (sz := 1) hu hie hz hsz rfl (by simp) (by simp) (by simp [hx]) (by simp [h1])
  simpa [h1] using this
end
/-! ### Made ones -/
section
variable {a b : Asg} {ls : List El} {gr : List VrR} {v0 v1 : Value} {k j : Int}
end
section
variable {s : Scp} {ls : List El} {v0 v1 : Value} {k : Int}
end
/-! ### Rows that are made at once -/
theorem flat_take {α : Type} {cl : α → List Value} {sz : Nat} (hcl : ∀ a, (cl a).length = sz) (l : List α) (k : Nat) : (l.flatMap cl).take (k * sz) = (l.take k).flatMap cl := by
  by_cases h : k ≤ l.length
  · conv => lhs; rw [← List.take_append_drop k l, List.flatMap_append]
    exact List.take_left' (by rw [flat_length hcl, List.length_take, Nat.min_eq_left h])
  · rw [List.take_of_length_le (by rw [flat_length hcl]; exact Nat.mul_le_mul_right _ (by omega)), List.take_of_length_le (by omega)]
theorem flat_drop {α : Type} {cl : α → List Value} {sz : Nat} (hcl : ∀ a, (cl a).length = sz) (l : List α) (k : Nat) (h : k ≤ l.length) : (l.flatMap cl).drop (k * sz) = (l.drop k).flatMap cl := by
  conv => lhs; rw [← List.take_append_drop k l, List.flatMap_append]
  exact List.drop_left' (by rw [flat_length hcl, List.length_take, Nat.min_eq_left h])
def lsK (s : Scp) (k : Int) : List El := (s.vars.take k.toNat).map (botV s.sc) ++ List.replicate (s.vars.length - k.toNat) el0
section
variable {s : Scp} {k : Int}
end
/-! ### A row with a field -/
section
variable {l : List ValR} {f : Tx} {e : El} {k : Int}
theorem with_len (l : List ValR) (f : Tx) (e : El) : (withF l f e).length ≤ l.length + 1 := by
  unfold withF
  split
  · simp only [List.length_append, List.length_cons, List.length_take, List.length_drop]; omega
  · rw [List.length_set]; omega
end
/-! ### The example -/
def exLH : List Tx := [⟨#[108, 111]⟩, ⟨#[104, 105]⟩]
def exSl : Sh := ⟨false, [⟨1, exLH, Rl.none⟩]⟩
def exS : Sc := ⟨[exSl], [⟨⟨#[120]⟩, 1, 0⟩, ⟨⟨#[114]⟩, 2, 0⟩]⟩
def exA : As := ⟨[putE el0 0 1#64, el0], [[], [⟨⟨#[102]⟩, el0⟩]]⟩
section
variable {P : Program} {σ : Env} {w : World} {dst : Option Tmp} {ty t e : TypeId} {pos : String} {aft : Array Edge} {g : Option (Nat × Bool)} {x y : Operand}
end
end Go.Proofs.YtkdbiooamgnfmaaGreatDoor.E
