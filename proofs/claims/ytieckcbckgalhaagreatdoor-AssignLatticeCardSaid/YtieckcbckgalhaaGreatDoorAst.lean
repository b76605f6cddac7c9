/-
  Assignments: what the walks lean on.
-/
import Derived.Test.YtieckcbckgalhaaGreatDoorAsr
namespace Go.Proofs.YtieckcbckgalhaaGreatDoor.E
open Go Go.RowKit Go.Proofs.YtieckcbckgalhaaGreatDoor.M
set_option linter.unusedVariables false
set_option linter.unusedSimpArgs false
/-! ### Looked up -/
theorem lat0_v (K : Vu) : ShpV K lat0.shp := ⟨SlV.nil _ _, fun f hf => by cases hf⟩
def latAt (l : List LatR) (i : Int) : LatR := if 0 ≤ i ∧ i < l.length then l.getD i.toNat lat0 else lat0
theorem lat_at_v {K : Vu} {s : Scp} (h : ScpV K s) (i : Int) : ShpV K (latAt s.lats i).shp := by
  unfold latAt; split
  · next h1 => exact h.at h1.1 h1.2
  · exact lat0_v K
theorem RowsV.or {K : Vu} {l : List VrR} (h : RowsV K l) (k : Nat) : SlV K (l.getD k vr0).v 9 (l.getD k vr0).l.length ((l.getD k vr0).l.flatMap valL) := by
  by_cases hk : k < l.length
  · have := h.at (k := (k : Int)) (by omega) (by omega)
    simpa using this
  · rw [List.getD_eq_getElem?_getD, List.getElem?_eq_none (by omega)]; exact SlV.nil _ _
theorem getD_out {α : Type} {l : List α} {d : α} {i : Int} (h : ¬ i < l.length) : l.getD i.toNat d = d := by
  rw [List.getD_eq_getElem?_getD, List.getElem?_eq_none (by omega)]; rfl
section
variable {s : Scp} {v : VarR} {e : El} {l : List ValR} {a : Asg} {k : Int}
abbrev shG (s : Scp) (v : VarR) : Sh := (s.lats.getD v.lat.toNat lat0).shp.sh
theorem ok_def : okV s.sc v e l = (decide (0 ≤ v.lat ∧ v.lat < s.lats.length) && (if v.kind = 1 then decide (l.length = 0) && fitsS (shG s v) e else if v.kind = 2 then decide (eqE e el0) && orderedF l && fitsF (shG s v) l else false)) := by
  rw [okV, sc_len, sc_lat]
theorem ok_n0 (h : ¬ (0 ≤ v.lat ∧ v.lat < s.lats.length)) : okV s.sc v e l = false := by rw [ok_def, decide_eq_false h]; rfl
theorem ok_1a (h1 : v.kind = 1) (h : ¬ l.length = 0) : okV s.sc v e l = false := by rw [ok_def, if_pos h1, decide_eq_false h, Bool.false_and, Bool.and_false]
theorem ok_1b (h1 : v.kind = 1) (h : fitsS (shG s v) e = false) : okV s.sc v e l = false := by rw [ok_def, if_pos h1, h, Bool.and_false, Bool.and_false]
theorem ok_2a (h1 : v.kind = 2) (h : decide (eqE e el0) = false) : okV s.sc v e l = false := by rw [ok_def, if_neg (by omega), if_pos h1, h, Bool.false_and, Bool.false_and, Bool.and_false]
theorem ok_2b (h1 : v.kind = 2) (h : orderedF l = false) : okV s.sc v e l = false := by rw [ok_def, if_neg (by omega), if_pos h1, h, Bool.and_false, Bool.false_and, Bool.and_false]
theorem ok_2c (h1 : v.kind = 2) (h : fitsF (shG s v) l = false) : okV s.sc v e l = false := by rw [ok_def, if_neg (by omega), if_pos h1, h, Bool.and_false, Bool.and_false]
theorem ok_x (h1 : ¬ v.kind = 1) (h2 : ¬ v.kind = 2) : okV s.sc v e l = false := by rw [ok_def, if_neg h1, if_neg h2, Bool.and_false]
theorem ok_y1 (hl : 0 ≤ v.lat ∧ v.lat < s.lats.length) (h1 : v.kind = 1) (h : l.length = 0) (hf : fitsS (shG s v) e = true) : okV s.sc v e l = true := by rw [ok_def, if_pos h1, decide_eq_true hl, decide_eq_true h, hf]; rfl
theorem ok_y2 (hl : 0 ≤ v.lat ∧ v.lat < s.lats.length) (h1 : v.kind = 2) (h : decide (eqE e el0) = true) (ho : orderedF l = true) (hf : fitsF (shG s v) l = true) : okV s.sc v e l = true := by rw [ok_def, if_neg (by omega), if_pos h1, decide_eq_true hl, h, ho, hf]; rfl
abbrev okG (s : Scp) (a : Asg) (k : Int) : Bool := okV s.sc (s.vars.getD k.toNat var0) (a.labels.getD k.toNat el0) (a.rows.getD k.toNat vr0).l
theorem right_def : rightA s.sc a.as = (decide (a.labels.length = s.vars.length ∧ a.rows.length = s.vars.length) && (upto s.vars.length).all (okG s a)) := by
  rw [rightA, as_rows_len]
  congr 2
  funext i; rw [as_row]; rfl
theorem right_1 (h : ¬ (a.labels.length : Int) = s.vars.length) : rightA s.sc a.as = false := by rw [right_def, decide_eq_false (by omega)]; rfl
theorem right_2 (h : ¬ (a.rows.length : Int) = s.vars.length) : rightA s.sc a.as = false := by rw [right_def, decide_eq_false (by omega)]; rfl
theorem right_3 (h0 : 0 ≤ k) (h1 : k < s.vars.length) (h : okG s a k = false) : rightA s.sc a.as = false := by rw [right_def, upAll_no (P := okG s a) h0 h1 h, Bool.and_false]
theorem right_y (h : (a.labels.length : Int) = s.vars.length) (h' : (a.rows.length : Int) = s.vars.length) (hk : ¬ k < s.vars.length) (hg : ∀ j : Int, 0 ≤ j → j < k → okG s a j = true) : rightA s.sc a.as = true := by
  rw [right_def, decide_eq_true (by omega), upAll_yes (P := okG s a) hk hg]; rfl
theorem right_at (h : rightA s.sc a.as = true) (h0 : 0 ≤ k) (h1 : k < s.vars.length) : okG s a k = true := by
  rw [right_def, Bool.and_eq_true, List.all_eq_true] at h; exact h.2 k (mem_upto.2 ⟨h0, h1⟩)
theorem right_len (h : rightA s.sc a.as = true) : (a.labels.length : Int) = s.vars.length ∧ (a.rows.length : Int) = s.vars.length := by
  rw [right_def, Bool.and_eq_true, decide_eq_true_eq] at h; omega
theorem ok_lat (h : okV s.sc v e l = true) : 0 ≤ v.lat ∧ v.lat < s.lats.length := by
  rw [ok_def, Bool.and_eq_true, decide_eq_true_eq] at h; exact h.1
end
section
variable {a b : Asg} {k j : Int}
theorem same_1 (h : ¬ (a.labels.length : Int) = b.labels.length) : sameA a.as b.as = false := sameA_no1 h
theorem same_2 (h : ¬ (a.rows.length : Int) = b.rows.length) : sameA a.as b.as = false := sameA_no2 (by rw [as_rows_len, as_rows_len]; exact h)
theorem same_3 (h0 : 0 ≤ k) (h1 : k < a.labels.length) (h : decide (eqE (a.labels.getD k.toNat el0) (b.labels.getD k.toNat el0)) = false) : sameA a.as b.as = false := sameA_no3 h0 h1 h
theorem same_4 (h0 : 0 ≤ k) (h1 : k < a.rows.length) (h : sameL (a.rows.getD k.toNat vr0).l (b.rows.getD k.toNat vr0).l = false) : sameA a.as b.as = false := sameA_no4 h0 (by rw [as_rows_len]; exact h1) (by rw [as_row, as_row]; exact h)
theorem same_y (e1 : (a.labels.length : Int) = b.labels.length) (e2 : (a.rows.length : Int) = b.rows.length) (hk : ¬ k < a.labels.length) (h : ∀ i : Int, 0 ≤ i → i < k → decide (eqE (a.labels.getD i.toNat el0) (b.labels.getD i.toNat el0)) = true)
    (hj : ¬ j < a.rows.length) (h' : ∀ i : Int, 0 ≤ i → i < j → sameL (a.rows.getD i.toNat vr0).l (b.rows.getD i.toNat vr0).l = true) : sameA a.as b.as = true :=
  sameA_yes e1 (by rw [as_rows_len, as_rows_len]; exact e2) hk h (j := j) (by rw [as_rows_len]; exact hj) fun i h0 h1 => by rw [as_row, as_row]; exact h' i h0 h1
theorem leqA_1 (h0 : 0 ≤ k) (h1 : k < a.labels.length) (h : leqE (a.labels.getD k.toNat el0) (b.labels.getD k.toNat el0) = false) : leqA a.as b.as = false := leqA_no1 h0 h1 h
theorem leqA_2 (h0 : 0 ≤ k) (h1 : k < a.rows.length) (h : belowL (a.rows.getD k.toNat vr0).l (b.rows.getD k.toNat vr0).l = false) : leqA a.as b.as = false := leqA_no2 h0 (by rw [as_rows_len]; exact h1) (by rw [as_row, as_row]; exact h)
theorem leqA_y (hk : ¬ k < a.labels.length) (h : ∀ i : Int, 0 ≤ i → i < k → leqE (a.labels.getD i.toNat el0) (b.labels.getD i.toNat el0) = true)
    (hj : ¬ j < a.rows.length) (h' : ∀ i : Int, 0 ≤ i → i < j → belowL (a.rows.getD i.toNat vr0).l (b.rows.getD i.toNat vr0).l = true) : leqA a.as b.as = true :=
  leqA_yes hk h (j := j) (by rw [as_rows_len]; exact hj) fun i h0 h1 => by rw [as_row, as_row]; exact h' i h0 h1
end
/-! ### Big ones -/
def rsum (l : List VrR) : Nat := (l.map fun r => r.l.length).sum
def bigNm (v : ValR) : Bool := decide (40 < v.name.size)
def bigR (r : VrR) : Bool := r.l.any bigNm
def bigA (a : Asg) : Bool := decide (100 < a.labels.length ∨ 100 < a.rows.length) || a.rows.any bigR || decide (200 < (rsum a.rows : Int))
theorem rsum_next {l : List VrR} {k : Int} (h0 : 0 ≤ k) (h1 : k < l.length) : (rsum (l.take (k + 1).toNat) : Int) = rsum (l.take k.toNat) + (l.getD k.toNat vr0).l.length := by
  rw [rsum, rsum, show (k + 1).toNat = k.toNat + 1 by omega, List.take_add_one, show l[k.toNat]? = some (l.getD k.toNat vr0) from getD_at h0 h1, List.map_append, List.sum_append]
  simp
theorem rsum_all {l : List VrR} {k : Int} (h : ¬ k < l.length) : rsum (l.take k.toNat) = rsum l := by rw [List.take_of_length_le (by omega)]
theorem rsum_bd {l : List VrR} {k : Int} (hb : ∀ r ∈ l, r.l.length ≤ 1759218604390) (h0 : 0 ≤ k) (h1 : k ≤ 100) : (rsum (l.take k.toNat) : Int) ≤ 175921860439000 := by
  have h2 := sum_bd (F := fun r : VrR => r.l.length) (m := 1759218604390) (l.take k.toNat) fun r hr => hb r (List.mem_of_mem_take hr)
  have h3 : (l.take k.toNat).length ≤ 100 := by rw [List.length_take]; omega
  have h4 := Nat.mul_le_mul_left 1759218604390 h3
  have h5 : rsum (l.take k.toNat) ≤ 1759218604390 * 100 := Nat.le_trans h2 h4
  omega
theorem rsum_le {l : List VrR} {r : VrR} (h : r ∈ l) : r.l.length ≤ rsum l := by
  induction l with
  | nil => cases h
  | cons x l ih =>
    rw [rsum, List.map_cons, List.sum_cons]
    rcases List.mem_cons.1 h with rfl | h
    · omega
    · have := ih h; rw [rsum] at this; omega
theorem any_f {α : Type} {l : List α} {P : α → Bool} (h : l.any P = false) : ∀ x ∈ l, P x = false := fun x hx => by
  cases hp : P x with
  | false => rfl
  | true => rw [List.any_eq_true.2 ⟨x, hx, hp⟩] at h; cases h
theorem bigA_no {a : Asg} (h : bigA a = false) : a.labels.length ≤ 100 ∧ a.rows.length ≤ 100 ∧ ∀ r ∈ a.rows, r.l.length ≤ 200 ∧ ∀ v ∈ r.l, v.name.size ≤ 40 := by
  rw [bigA, Bool.or_eq_false_iff, Bool.or_eq_false_iff, decide_eq_false_iff_not, decide_eq_false_iff_not] at h
  refine ⟨by omega, by omega, fun r hr => ⟨by have := rsum_le hr; omega, fun v hv => ?_⟩⟩
  have h2 := any_f (any_f h.1.2 r hr) v hv
  rw [bigNm, decide_eq_false_iff_not] at h2; omega
/-! ### Joined texts -/
def joinTo (b : Tx) (l : List Tx) (k : Int) : Tx := joinF b (l.take k.toNat)
theorem join_1 {b : Tx} {l : List Tx} {k : Int} (h : k = 0) (h1 : k < l.length) : joinTo b l k ++ l.getD k.toNat tx0 = joinTo b l (k + 1) := by
  subst h
  cases l with
  | nil => simp at h1
  | cons x l => show tx0 ++ x = x; exact tx_0app x
theorem join_2 {b : Tx} {l : List Tx} {k : Int} (h0 : 0 < k) (h1 : k < l.length) : joinTo b l k ++ b ++ l.getD k.toNat tx0 = joinTo b l (k + 1) := by
  rw [joinTo, joinTo, show (k + 1).toNat = k.toNat + 1 by omega, List.take_add_one, show l[k.toNat]? = some (l.getD k.toNat tx0) from getD_at (by omega) h1]
  cases l with
  | nil => simp at h1; omega
  | cons x l =>
    rw [show k.toNat = (k.toNat - 1) + 1 by omega, List.take_succ_cons]
    show (l.take (k.toNat - 1)).foldl _ x ++ b ++ _ = ((l.take (k.toNat - 1)) ++ [_]).foldl _ x
    rw [List.foldl_append]; rfl
theorem join_all {b : Tx} {l : List Tx} {k : Int} (h : ¬ k < l.length) : joinTo b l k = joinF b l := by rw [joinTo, List.take_of_length_le (by omega)]
def szJ (b : Tx) (l : List Tx) : Nat := (l.map fun x => x.size + b.size).sum
theorem join_sz (b : Tx) (l : List Tx) : (joinF b l).size ≤ szJ b l := by
  cases l with
  | nil => exact Nat.le_refl _
  | cons x l =>
    have key : ∀ (l : List Tx) (a : Tx), (l.foldl (fun a y => a ++ b ++ y) a).size = a.size + szJ b l := fun l => by
      induction l with
      | nil => intro a; simp [szJ]
      | cons y l ih => intro a; rw [List.foldl_cons, ih, tx_size_app, tx_size_app]; simp only [szJ, List.map_cons, List.sum_cons]; omega
    show (l.foldl _ x).size ≤ _
    rw [key]; simp only [szJ, List.map_cons, List.sum_cons]; omega
theorem joinTo_sz {b : Tx} {l : List Tx} {k : Int} (h0 : 0 ≤ k) (h1 : k < l.length) : (joinTo b l k).size + (l.getD k.toNat tx0).size + b.size ≤ szJ b l := by
  have h2 := join_sz b (l.take k.toNat)
  have h3 : szJ b (l.take (k.toNat + 1)) ≤ szJ b l := by rw [szJ, szJ, List.map_take]; exact sum_take _
  rw [List.take_add_one, show l[k.toNat]? = some (l.getD k.toNat tx0) from getD_at h0 h1, szJ, List.map_append, List.sum_append] at h3
  simp only [Option.toList, List.map_cons, List.map_nil, List.sum_cons, List.sum_nil] at h3
  have h4 : szJ b (l.take k.toNat) = ((l.take k.toNat).map fun x => x.size + b.size).sum := rfl
  rw [joinTo]; omega
theorem spell_sz (s : Sh) (e : El) : (spellF s e).size ≤ 2000001 := by
  have h1 := text_sz (nodeF s e); have h2 := node_sz s e
  rw [spellF, tx_size_app, show (tc 35).size = 1 from rfl]; omega
theorem field_sz {s : Sh} {v : ValR} (h : v.name.size ≤ 40) : (fieldT s v).size ≤ 2000042 := by
  have := spell_sz s v.el
  rw [fieldT, tx_size_app, tx_size_app, show (tc 61).size = 1 from rfl]; omega
theorem fields_sz {s : Sh} {l : List ValR} (h : ∀ v ∈ l, v.name.size ≤ 40) (hl : l.length ≤ 1000) : szJ (tc 44) (l.map (fieldT s)) ≤ 2000043000 := by
  have h1 := sum_bd (F := fun x : Tx => x.size + (tc 44).size) (m := 2000043) (l.map (fieldT s)) fun x hx => by
    obtain ⟨v, hv, rfl⟩ := List.mem_map.1 hx
    have := field_sz (s := s) (h v hv)
    rw [show (tc 44).size = 1 from rfl]; omega
  rw [List.length_map] at h1
  have h2 := Nat.mul_le_mul_left 2000043 hl
  exact Nat.le_trans h1 (Nat.le_trans h2 (by decide))
theorem row_sz {s : Sh} {l : List ValR} (h : ∀ v ∈ l, v.name.size ≤ 40) (hl : l.length ≤ 1000) : (rowT s l).size ≤ 2000043002 := by
  have h1 := join_sz (tc 44) (l.map (fieldT s)); have h2 := fields_sz (s := s) h hl
  rw [rowT, tx_size_app, tx_size_app, show (tc 91).size = 1 from rfl, show (tc 93).size = 1 from rfl]; omega
theorem fields_next {s : Sh} {l : List ValR} {k : Int} (h0 : 0 ≤ k) (h1 : k < l.length) : (l.take (k + 1).toNat).map (fieldT s) = (l.take k.toNat).map (fieldT s) ++ [fieldT s (l.getD k.toNat val0)] := by
  rw [show (k + 1).toNat = k.toNat + 1 by omega, List.take_add_one, show l[k.toNat]? = some (l.getD k.toNat val0) from getD_at h0 h1, List.map_append]; rfl
theorem right_names {s : Sc} {a : As} (h : rightA s a = true) {i : Nat} (hi : i < s.vars.length) : ∀ v ∈ a.rows.getD i [], v.name.size ≤ 40 := fun v hv => by
  have := name_sz (okV_names ((rightA_iff.1 h).2 i hi) v hv).1; omega
theorem vars_len {s : Sc} {a : As} {k : Int} (h0 : 0 ≤ k) : ((varsT s a k).length : Int) = k := by rw [varsT, List.length_map, upto, List.length_map, List.length_range]; omega
theorem vars_next {s : Sc} {a : As} {k : Int} (h0 : 0 ≤ k) : varsT s a (k + 1) = varsT s a k ++ [varT s (s.vars.getD k.toNat var0) (a.labels.getD k.toNat el0) (a.rows.getD k.toNat [])] := by
  have e : upto (k + 1) = upto k ++ [k] := by rw [upto, upto, show (k + 1).toNat = k.toNat + 1 by omega, List.range_succ, List.map_append]; simp; omega
  rw [varsT, e, List.map_append]; rfl
section
variable {s : Scp} {a : Asg} {k : Int}
theorem shG_of (s : Scp) (v : VarR) : shOf s.sc v = shG s v := sc_lat s _
theorem vars_1 (h0 : 0 ≤ k) (h : (s.vars.getD k.toNat var0).kind = 1) : varsT s.sc a.as (k + 1) = varsT s.sc a.as k ++ [(s.vars.getD k.toNat var0).name ++ tc 61 ++ spellF (shG s (s.vars.getD k.toNat var0)) (a.labels.getD k.toNat el0)] := by
  rw [vars_next h0, varT, show s.sc.vars = s.vars from rfl, if_pos h, shG_of]; rfl
theorem vars_2 (h0 : 0 ≤ k) (h : ¬ (s.vars.getD k.toNat var0).kind = 1) : varsT s.sc a.as (k + 1) = varsT s.sc a.as k ++ [(s.vars.getD k.toNat var0).name ++ tc 61 ++ rowT (shG s (s.vars.getD k.toNat var0)) (a.rows.getD k.toNat vr0).l] := by
  rw [vars_next h0, varT, show s.sc.vars = s.vars from rfl, if_neg h, shG_of, as_row]
theorem names_at (h : rightA s.sc a.as = true) (h0 : 0 ≤ k) (h1 : k < s.vars.length) : ∀ v ∈ (a.rows.getD k.toNat vr0).l, v.name.size ≤ 40 := by
  have := right_names h (i := k.toNat) (show k.toNat < s.vars.length by omega)
  rwa [as_row] at this
theorem varT_sz {v : VarR} {e : El} {l : List ValR} (s : Sc) (hv : v.name.size ≤ 40) (h : ∀ v ∈ l, v.name.size ≤ 40) (hl : l.length ≤ 1000) : (varT s v e l).size ≤ 2000043043 := by
  rw [varT, tx_size_app, tx_size_app, show (tc 61).size = 1 from rfl]
  split
  · have := spell_sz (shOf s v) e; omega
  · have := row_sz (s := shOf s v) h hl; omega
theorem vars_sz (h : rightA s.sc a.as = true) (hv : s.vars.length ≤ 80) (hn : ∀ v ∈ s.vars, v.name.size ≤ 40) (hl : ∀ r ∈ a.rows, r.l.length ≤ 200) : szJ (tc 32) (varsT s.sc a.as s.vars.length) ≤ 160003443520 := by
  have h1 := sum_bd (F := fun x : Tx => x.size + (tc 32).size) (m := 2000043044) (varsT s.sc a.as s.vars.length) fun x hx => by
    rw [varsT, List.mem_map] at hx
    obtain ⟨i, hi, rfl⟩ := hx
    rw [mem_upto] at hi
    have hr := (right_len h).2
    have h2 := varT_sz (v := s.sc.vars.getD i.toNat var0) (e := a.as.labels.getD i.toNat el0) (l := a.as.rows.getD i.toNat []) s.sc (hn _ (List.mem_of_getElem? (getD_at (d := var0) hi.1 hi.2))) (right_names h (show i.toNat < s.vars.length by omega)) (by
      rw [as_row]; have := hl _ (List.mem_of_getElem? (getD_at (d := vr0) hi.1 (by omega))); omega)
    rw [show (tc 32).size = 1 from rfl]; omega
  have h3 : (varsT s.sc a.as s.vars.length).length ≤ 80 := by have := vars_len (s := s.sc) (a := a.as) (k := s.vars.length) (by omega); omega
  have h4 := Nat.mul_le_mul_left 2000043044 h3
  exact Nat.le_trans h1 (Nat.le_trans h4 (by decide))
theorem text_yes (h : rightA s.sc a.as = true) : textA s.sc a.as = joinF (tc 32) (varsT s.sc a.as s.vars.length) := if_pos h
theorem text_no (h : rightA s.sc a.as = false) : textA s.sc a.as = tx0 := by rw [textA, h]; rfl
end
section
variable {P m : Tx} {sh : Sh} {l : List ValR} {q : Int}
end
abbrev VS (s : Scp) (a : Asg) : List Tx := varsT s.sc a.as s.vars.length
section
variable {s : Scp} {a : Asg} {k : Int}
theorem VS_len : ((VS s a).length : Int) = s.vars.length := vars_len (by omega)
end
theorem one_pair {u v : Value} (h1 : u.oneCell' = true) (h2 : v.oneCell' = true) : ∀ x ∈ #[u, v], x.oneCell' = true := by
  intro x hx; simp at hx; rcases hx with rfl | rfl <;> assumption
theorem one_one {v : Value} (h1 : v.oneCell' = true) : ∀ x ∈ [v], x.oneCell' = true := by
  intro x hx; rw [List.mem_singleton.1 hx]; exact h1
/-! ### Rows -/
abbrev tupE (p : El × Bool) : Value := .tuple #[.agg (elC p.1), B p.2]
theorem get_tn {l : List ValR} {f : Tx} (h : vfind l f < 0) : tupE (el0, false) = tupE (getF l f) := by rw [get_no h]
theorem get_ty {l : List ValR} {f : Tx} (h : ¬ vfind l f < 0) : tupE ((l.getD (vfind l f).toNat val0).el, true) = tupE (getF l f) := by rw [get_yes h]
theorem both_one {l m : List ValR} {k : Int} (h0 : 0 ≤ k) (h1 : k < l.length) (h : (getF m (l.getD k.toNat val0).name).2 = true) : bothF (l.take k.toNat) m ++ [⟨(l.getD k.toNat val0).name, meetE (l.getD k.toNat val0).el (getF m (l.getD k.toNat val0).name).1⟩] = bothF (l.take (k + 1).toNat) m := by
  rw [both_next h0 h1, both_y h]
theorem both_not {l m : List ValR} {k : Int} (h0 : 0 ≤ k) (h1 : k < l.length) (h : (getF m (l.getD k.toNat val0).name).2 = false) : bothF (l.take k.toNat) m = bothF (l.take (k + 1).toNat) m := by
  rw [both_next h0 h1, both_n h, List.append_nil]
theorem ordered_no1 {l : List ValR} {k : Int} (h0 : 0 ≤ k) (h1 : k < l.length) (h : nameR (l.getD k.toNat val0).name = false) : orderedF l = false := upAll_no (P := fun i => nameR (l.getD i.toNat val0).name && (decide (i ≤ 0) || lessT (l.getD (i - 1).toNat val0).name (l.getD i.toNat val0).name)) h0 h1 (by simp only [h, Bool.false_and])
theorem ordered_no2 {l : List ValR} {k : Int} (h0 : 0 ≤ k) (h1 : k < l.length) (hk : 0 < k) (h : lessT (l.getD (k - 1).toNat val0).name (l.getD k.toNat val0).name = false) : orderedF l = false :=
  upAll_no (P := fun i => nameR (l.getD i.toNat val0).name && (decide (i ≤ 0) || lessT (l.getD (i - 1).toNat val0).name (l.getD i.toNat val0).name)) h0 h1 (by simp only [h, decide_eq_false (show ¬ k ≤ 0 by omega), Bool.or_false, Bool.and_false])
theorem ordered_yes {l : List ValR} {k : Int} (hk : ¬ k < l.length) (h : ∀ j : Int, 0 ≤ j → j < k → (nameR (l.getD j.toNat val0).name && (decide (j ≤ 0) || lessT (l.getD (j - 1).toNat val0).name (l.getD j.toNat val0).name)) = true) : orderedF l = true := upAll_yes hk h
theorem ord_y1 {l : List ValR} {k : Int} (h : nameR (l.getD k.toNat val0).name = true) (hk : ¬ 0 < k) : (nameR (l.getD k.toNat val0).name && (decide (k ≤ 0) || lessT (l.getD (k - 1).toNat val0).name (l.getD k.toNat val0).name)) = true := by rw [h, decide_eq_true (by omega)]; rfl
theorem ord_y2 {l : List ValR} {k : Int} (h : nameR (l.getD k.toNat val0).name = true) (h2 : lessT (l.getD (k - 1).toNat val0).name (l.getD k.toNat val0).name = true) : (nameR (l.getD k.toNat val0).name && (decide (k ≤ 0) || lessT (l.getD (k - 1).toNat val0).name (l.getD k.toNat val0).name)) = true := by rw [h, h2]; simp
theorem fits_no {s : Sh} {l : List ValR} {k : Int} (h0 : 0 ≤ k) (h1 : k < l.length) (h : fitsS s (l.getD k.toNat val0).el = false) : fitsF s l = false := all_no (d := val0) (P := fun v => fitsS s v.el) h0 h1 h
theorem fits_all {s : Sh} {l : List ValR} {k : Int} (hk : ¬ k < l.length) (h : ∀ j : Int, 0 ≤ j → j < k → fitsS s (l.getD j.toNat val0).el = true) : fitsF s l = true := all_yes (d := val0) (P := fun v => fitsS s v.el) hk h
theorem labels_next {a b : As} {k : Int} (h0 : 0 ≤ k) (h1 : k < a.labels.length) (h2 : k < b.labels.length) : ((a.labels.zip b.labels).take k.toNat).map (fun p => meetE p.1 p.2) ++ [meetE (a.labels.getD k.toNat el0) (b.labels.getD k.toNat el0)] = ((a.labels.zip b.labels).take (k + 1).toNat).map fun p => meetE p.1 p.2 := (zip_next (F := fun p : El × El => meetE p.1 p.2) h0 h1 h2).symm
theorem rows_next {a b : As} {k : Int} (h0 : 0 ≤ k) (h1 : k < a.rows.length) (h2 : k < b.rows.length) : ((a.rows.zip b.rows).take k.toNat).map (fun p => bothF p.1 p.2) ++ [bothF (a.rows.getD k.toNat []) (b.rows.getD k.toNat [])] = ((a.rows.zip b.rows).take (k + 1).toNat).map fun p => bothF p.1 p.2 := (zip_next (F := fun p : List ValR × List ValR => bothF p.1 p.2) h0 h1 h2).symm
section
variable {P : Program} {σ : Env} {w : World} {dst : Option Tmp} {ty t e : TypeId} {pos : String} {aft : Array Edge} {g : Option (Nat × Bool)} {x : Operand}
theorem run_mkEl1 {a : El} {ie : TypeInfo} {z : Value} (hu : P.underlying t = some (.slice e)) (hie : P.info? e = some ie) (hz : ie.zero = some z) (hsz : ie.size = 8) (hx : ev σ x = .agg (elC a)) :
    (execOp (ev σ) ⟨dst, .buildSlice t 1 #[(0, x)], ty, pos, aft, g⟩).run P w = .ok (.value (.slice (some ⟨w.heap.size, 0, none⟩) 1 1)) (w.alloc (.cells ([a].flatMap elL).toArray e)) :=
  run_mkRecs (ps := [(0, x)]) (l := [a]) elL_len hu hie hz hsz rfl (by decide) (by decide) (by rw [elC_def] at hx; simp [hx])
theorem run_mkSl1 {v : Value} {ie : TypeInfo} {z : Value} (h1 : v.cells = #[v]) (hu : P.underlying t = some (.slice e)) (hie : P.info? e = some ie) (hz : ie.zero = some z) (hsz : ie.size = 1) (hx : ev σ x = v) :
    (execOp (ev σ) ⟨dst, .buildSlice t 1 #[(0, x)], ty, pos, aft, g⟩).run P w = .ok (.value (.slice (some ⟨w.heap.size, 0, none⟩) 1 1)) (w.alloc (.cells ([v] : List Value).toArray e)) := by
  have := run_mkL (P := P) (σ := σ) (w := w) (dst := dst) (ty := ty) (pos := pos) (aft := aft) (g := g) (ps := [(0, x)]) (vs := [v]) (sz := 1) hu hie hz hsz rfl (by simp) (by simp) (by simp [hx]) (by simp [h1])
  simpa [h1] using this
end
/-! ### Made ones -/
section
variable {a b : Asg} {ls : List El} {gr : List VrR} {v0 v1 : Value} {k j : Int}
theorem mrows_next (h0 : 0 ≤ j) (h1 : j < a.rows.length) (h2 : j < b.rows.length) : ((a.as.rows.zip b.as.rows).take j.toNat).map (fun p => bothF p.1 p.2) ++ [bothF (a.rows.getD j.toNat vr0).l (b.rows.getD j.toNat vr0).l] = ((a.as.rows.zip b.as.rows).take (j + 1).toNat).map fun p => bothF p.1 p.2 := by
  have := rows_next (a := a.as) (b := b.as) h0 (by rw [as_rows_len]; exact h1) (by rw [as_rows_len]; exact h2)
  rwa [as_row, as_row] at this
theorem meet_is (h1 : ls = ((a.labels.zip b.labels).take k.toNat).map fun p => meetE p.1 p.2) (h2 : gr.map VrR.l = ((a.as.rows.zip b.as.rows).take j.toNat).map fun p => bothF p.1 p.2) (hk : ¬ (k < a.labels.length ∧ k < b.labels.length)) (hj : ¬ (j < a.rows.length ∧ j < b.rows.length)) :
    (⟨v0, ls, v1, gr⟩ : Asg).as = meetA a.as b.as := by
  show (⟨ls, gr.map VrR.l⟩ : As) = _
  rw [h1, h2, zip_all hk, zip_all (by rw [as_rows_len, as_rows_len]; exact hj)]; rfl
end
section
variable {s : Scp} {ls : List El} {v0 v1 : Value} {k : Int}
theorem bot_n {v : VarR} (h : ¬ (v.kind = 1 ∧ 0 ≤ v.lat ∧ v.lat < s.lats.length)) : botV s.sc v = el0 := by rw [botV, if_neg (by rw [sc_len]; exact h)]
theorem bot_at {v : VarR} (h : v.kind = 1) : eachS (latAt s.lats v.lat).shp.sh leastF = botV s.sc v := by
  rw [botV, sc_len, sc_lat, latAt]
  by_cases hl : 0 ≤ v.lat ∧ v.lat < s.lats.length
  · rw [if_pos hl, if_pos ⟨h, hl⟩]
  · rw [if_neg hl, if_neg (fun x => hl x.2)]
    funext i; rfl
theorem bots_next (h0 : 0 ≤ k) (h1 : k < s.vars.length) : (s.vars.take k.toNat).map (botV s.sc) ++ [botV s.sc (s.vars.getD k.toNat var0)] = (s.vars.take (k + 1).toNat).map (botV s.sc) := by
  rw [show (k + 1).toNat = k.toNat + 1 by omega, List.take_add_one, show s.vars[k.toNat]? = some (s.vars.getD k.toNat var0) from getD_at h0 h1, List.map_append]; rfl
theorem RowsV.nils (K : Vu) (n : Nat) : RowsV K (List.replicate n vr0) := ⟨fun r hr => by rw [(List.mem_replicate.1 hr).2]; exact SlV.nil _ _⟩
end
/-! ### Rows that are made at once -/
theorem flat_take {α : Type} {cl : α → List Value} {sz : Nat} (hcl : ∀ a, (cl a).length = sz) (l : List α) (k : Nat) : (l.flatMap cl).take (k * sz) = (l.take k).flatMap cl := by
  by_cases h : k ≤ l.length
  · conv => lhs; rw [← List.take_append_drop k l, List.flatMap_append]
    exact List.take_left' (by rw [flat_length hcl, List.length_take, Nat.min_eq_left h])
  · rw [List.take_of_length_le (by rw [flat_length hcl]; exact Nat.mul_le_mul_right _ (by omega)), List.take_of_length_le (by omega)]
theorem flat_drop {α : Type} {cl : α → List Value} {sz : Nat} (hcl : ∀ a, (cl a).length = sz) (l : List α) (k : Nat) (h : k ≤ l.length) : (l.flatMap cl).drop (k * sz) = (l.drop k).flatMap cl := by
  conv => lhs; rw [← List.take_append_drop k l, List.flatMap_append]
  exact List.drop_left' (by rw [flat_length hcl, List.length_take, Nat.min_eq_left h])
theorem put_in {A Y X B : List Value} (h : X.length = Y.length) : putL (A ++ Y ++ B) A.length X = A ++ X ++ B := by
  rw [putL, h, List.append_assoc A Y B, List.take_left' rfl, ← List.append_assoc A Y B, List.drop_left' (by rw [List.length_append])]
theorem put_set {α : Type} {cl : α → List Value} {sz : Nat} (hcl : ∀ a, (cl a).length = sz) (l : List α) (k : Nat) (x : α) (h : k < l.length) : putL (l.flatMap cl) (k * sz) (cl x) = (l.set k x).flatMap cl := by
  have e1 : l.flatMap cl = (l.take k).flatMap cl ++ cl l[k] ++ (l.drop (k + 1)).flatMap cl := by
    conv => lhs; rw [← List.take_append_drop k l, List.drop_eq_getElem_cons h, List.flatMap_append, List.flatMap_cons, ← List.append_assoc]
  have e2 : ((l.take k).flatMap cl).length = k * sz := by rw [flat_length hcl, List.length_take, Nat.min_eq_left (by omega)]
  rw [e1, ← e2, put_in (by rw [hcl, hcl]), List.set_eq_take_append_cons_drop, if_pos h, List.flatMap_append, List.flatMap_cons, List.append_assoc]
theorem put3 {R A X B : List Value} {a x : Nat} (ha : A.length = a) (hx : X.length = x) (h : R.length = a + x + B.length) : putL (putL (putL R 0 A) a X) (a + x) B = A ++ X ++ B := by
  have e1 : putL R 0 A = A ++ R.drop a := by rw [putL, List.take_zero, List.nil_append, Nat.zero_add, ha]
  have e2 : putL (A ++ R.drop a) a X = A ++ X ++ R.drop (a + x) := by
    rw [putL, List.take_left' ha, hx, List.drop_append, ha, List.drop_eq_nil_of_le (by omega), List.nil_append, List.drop_drop]
    congr 2; omega
  rw [e1, e2, putL, List.take_left' (by rw [List.length_append, ha, hx]), List.drop_eq_nil_of_le (by simp only [List.length_append, List.length_drop, ha, hx]; omega), List.append_nil]
def lsK (s : Scp) (k : Int) : List El := (s.vars.take k.toNat).map (botV s.sc) ++ List.replicate (s.vars.length - k.toNat) el0
section
variable {s : Scp} {k : Int}
theorem lsK_len (hk : k ≤ s.vars.length) : (lsK s k).length = s.vars.length := by rw [lsK, List.length_append, List.length_map, List.length_take, List.length_replicate]; omega
theorem lsK_rep (h0 : 0 ≤ k) (h1 : k < s.vars.length) : List.replicate (s.vars.length - k.toNat) el0 = el0 :: List.replicate (s.vars.length - (k + 1).toNat) el0 := by
  rw [show s.vars.length - k.toNat = (s.vars.length - (k + 1).toNat) + 1 by omega, List.replicate_succ]
theorem lsK_n (h0 : 0 ≤ k) (h1 : k < s.vars.length) (h : ¬ (s.vars.getD k.toNat var0).kind = 1) : lsK s k = lsK s (k + 1) := by
  rw [lsK, lsK, ← bots_next h0 h1, bot_n (fun x => h x.1), lsK_rep h0 h1, List.append_assoc]; rfl
theorem lsK_y (h0 : 0 ≤ k) (h1 : k < s.vars.length) : (lsK s k).set k.toNat (botV s.sc (s.vars.getD k.toNat var0)) = lsK s (k + 1) := by
  have hl : ((s.vars.take k.toNat).map (botV s.sc)).length = k.toNat := by rw [List.length_map, List.length_take]; omega
  rw [lsK, lsK_rep h0 h1, List.set_append_right _ _ (by omega), hl, Nat.sub_self, List.set_cons_zero, lsK, ← bots_next h0 h1, List.append_assoc]; rfl
theorem lsK_put (h0 : 0 ≤ k) (h1 : k < s.vars.length) (h : (s.vars.getD k.toNat var0).kind = 1) : putL ((lsK s k).flatMap elL) (k.toNat * 8) (elL (eachS (latAt s.lats (s.vars.getD k.toNat var0).lat).shp.sh leastF)) = (lsK s (k + 1)).flatMap elL := by
  rw [bot_at h, put_set elL_len _ _ _ (by rw [lsK_len (by omega)]; omega), lsK_y h0 h1]
theorem lsK_end (h0 : 0 ≤ k) (hk : ¬ k < s.vars.length) : lsK s k = s.vars.map (botV s.sc) := by
  rw [lsK, List.take_of_length_le (by omega), show s.vars.length - k.toNat = 0 by omega, List.replicate_zero, List.append_nil]
theorem lsv {K : Vu} {v : Value} (h0 : 0 ≤ k) (hk : ¬ k < s.vars.length) (h : SlV K v 8 s.vars.length ((lsK s k).flatMap elL)) : SlV K v 8 (s.vars.map (botV s.sc)).length ((s.vars.map (botV s.sc)).flatMap elL) := by
  rw [lsK_end h0 hk] at h; rw [List.length_map]; exact h
theorem nilrows (n : Nat) : ((List.replicate n vr0).flatMap fun r => [r.v]) = rowsC (List.replicate n vr0) := by
  induction n with
  | zero => rfl
  | succ n ih => rw [List.replicate_succ, List.flatMap_cons, ih]; rfl
theorem rsv {K : Vu} {v : Value} {n : Nat} (h : SlV K v 1 n ((List.replicate n vr0).flatMap fun r => [r.v])) : SlV K v 1 (List.replicate n vr0).length (rowsC (List.replicate n vr0)) := by
  rw [nilrows] at h; rw [List.length_replicate]; exact h
theorem least2_is {v0 v1 : Value} : (⟨v0, s.vars.map (botV s.sc), v1, List.replicate s.vars.length vr0⟩ : Asg).as = leastA s.sc := by
  show (⟨_, (List.replicate s.vars.length vr0).map VrR.l⟩ : As) = _
  rw [leastA]
  congr 1
  rw [List.map_replicate]
  exact (List.map_const' (l := s.vars) (b := ([] : List ValR))).symm
end
/-! ### A row with a field -/
section
variable {l : List ValR} {f : Tx} {e : El} {k : Int}
theorem with_i (h : 0 ≤ vfind l f) : l.set (vfind l f).toNat ⟨f, e⟩ = withF l f e := by rw [withF, if_neg (by omega)]
theorem with_n (h : vfind l f < 0) : l.take (spot l f) ++ ⟨f, e⟩ :: l.drop (spot l f) = withF l f e := by rw [withF, if_pos h]
theorem spot_y (h0 : 0 ≤ k) (h1 : k < l.length) (hg : ∀ j : Int, 0 ≤ j → j < k → lessT f (l.getD j.toNat val0).name = false) (h : lessT f (l.getD k.toNat val0).name = true) : spot l f = k.toNat := by
  have e := find_yes (P := fun i => lessT f (l.getD i.toNat val0).name) h0 h1 h hg
  rw [spot, e, if_pos h0]
theorem spot_e (hk : k = l.length) (hg : ∀ j : Int, 0 ≤ j → j < k → lessT f (l.getD j.toNat val0).name = false) : spot l f = k.toNat := by
  have e := find_no (P := fun i => lessT f (l.getD i.toNat val0).name) (n := l.length) fun j a b => hg j a (by omega)
  rw [spot, e, if_neg (by decide)]; omega
end
theorem latL_shp (l : LatR) : (latL l).toArray.extract 1 (1 + 2) = shpC l.shp := rfl
theorem with_made1 {K : Vu} {v : Value} {l : List ValR} {f : Tx} {e : El} (h : 0 ≤ vfind l f) (hv : SlV K v 9 (0 + l.length) (putL ([] ++ l.flatMap valL) ((vfind l f).toNat * 9) (valL ⟨f, e⟩))) : SlV K v 9 (withF l f e).length ((withF l f e).flatMap valL) := by
  have hi := @vfind_in l f (by omega)
  rw [List.nil_append, put_set valL_len _ _ _ (by omega), with_i h, Nat.zero_add] at hv
  have : (withF l f e).length = l.length := by rw [← with_i h, List.length_set]
  rw [this]; exact hv
theorem with_made2 {K : Vu} {v : Value} {l : List ValR} {f : Tx} {e : El} {k : Int} (h : vfind l f < 0) (hs : spot l f = k.toNat) (h0 : 0 ≤ k) (hk : k ≤ l.length)
    (hv : SlV K v 9 (l.length + 1) (putL (putL (putL ((List.replicate (l.length + 1) val0).flatMap valL) 0 (((l.flatMap valL).take (k.toNat * 9)).take (k.toNat * 9))) (k.toNat * 9) (valL ⟨f, e⟩)) ((k + 1).toNat * 9) (((l.flatMap valL).drop (k.toNat * 9)).take ((l.length - k.toNat) * 9)))) : SlV K v 9 (withF l f e).length ((withF l f e).flatMap valL) := by
  have e1 : ((l.flatMap valL).take (k.toNat * 9)).take (k.toNat * 9) = (l.take k.toNat).flatMap valL := by rw [List.take_take, Nat.min_self, flat_take valL_len]
  have e2 : ((l.flatMap valL).drop (k.toNat * 9)).take ((l.length - k.toNat) * 9) = (l.drop k.toNat).flatMap valL := by
    rw [flat_drop valL_len _ _ (by omega), flat_take valL_len, List.take_of_length_le (by rw [List.length_drop]; omega)]
  have l1 : ((l.take k.toNat).flatMap valL).length = k.toNat * 9 := by rw [flat_length valL_len, List.length_take, Nat.min_eq_left (by omega)]
  rw [e1, e2, show (k + 1).toNat * 9 = k.toNat * 9 + 9 by omega, put3 l1 (valL_len _) (by rw [flat_length valL_len, flat_length valL_len, List.length_replicate, List.length_drop]; omega)] at hv
  have e3 : (l.take k.toNat).flatMap valL ++ valL ⟨f, e⟩ ++ (l.drop k.toNat).flatMap valL = (withF l f e).flatMap valL := by
    rw [← with_n h, hs, List.flatMap_append, List.flatMap_cons, List.append_assoc]
  have e4 : (withF l f e).length = l.length + 1 := by rw [← with_n h, hs, List.length_append, List.length_cons, List.length_take, List.length_drop]; omega
  rw [e3] at hv; rw [e4]; exact hv
/-! ### The example -/
def exLH : List Tx := [⟨#[108, 111]⟩, ⟨#[104, 105]⟩]
def exSl : Sh := ⟨false, [⟨1, exLH, Rl.none⟩]⟩
def exS : Sc := ⟨[exSl], [⟨⟨#[120]⟩, 1, 0⟩, ⟨⟨#[114]⟩, 2, 0⟩]⟩
def exA : As := ⟨[putE el0 0 1#64, el0], [[], [⟨⟨#[102]⟩, el0⟩]]⟩
theorem exA_R : rightA exS exA = true := by decide +kernel
theorem exA_L : leqA (leastA exS) exA = true := by decide +kernel
theorem exA_N : leqA exA (leastA exS) = false := by decide +kernel
theorem exF_1 : fitsS exSl (putE el0 0 1#64) = true := by decide +kernel
theorem exF_0 : fitsS exSl el0 = true := by decide +kernel
theorem exT_1 : spellF exSl (putE el0 0 1#64) = ⟨#[35, 104, 105]⟩ := by
  rw [spellF, nodeF, if_pos exF_1, if_neg (by decide)]
  show tc 35 ++ textF (constF ⟨1, exLH, Rl.none⟩ 1#64) = _
  rw [cf_1 (by decide) (by decide) (by decide), text_eq]
  decide +kernel
theorem exT_0 : spellF exSl el0 = ⟨#[35, 108, 111]⟩ := by
  rw [spellF, nodeF, if_pos exF_0, if_neg (by decide)]
  show tc 35 ++ textF (constF ⟨1, exLH, Rl.none⟩ 0#64) = _
  rw [cf_1 (by decide) (by decide) (by decide), text_eq]
  decide +kernel
theorem exA_T : textA exS exA = ⟨#[120, 61, 35, 104, 105, 32, 114, 61, 91, 102, 61, 35, 108, 111, 93]⟩ := by
  rw [textA, if_pos exA_R]
  show joinF (tc 32) [⟨#[120]⟩ ++ tc 61 ++ spellF exSl (putE el0 0 1#64), ⟨#[114]⟩ ++ tc 61 ++ (tc 91 ++ joinF (tc 44) [⟨#[102]⟩ ++ tc 61 ++ spellF exSl el0] ++ tc 93)] = _
  rw [exT_1, exT_0]; decide +kernel
theorem exA_W : withF [] ⟨#[102]⟩ el0 = [⟨⟨#[102]⟩, el0⟩] := by rfl
section
variable {P : Program} {σ : Env} {w : World} {dst : Option Tmp} {ty t e : TypeId} {pos : String} {aft : Array Edge} {g : Option (Nat × Bool)} {x y : Operand}
theorem run_mkEl2 {a b : El} {ie : TypeInfo} {z : Value} (hu : P.underlying t = some (.slice e)) (hie : P.info? e = some ie) (hz : ie.zero = some z) (hsz : ie.size = 8) (hx : ev σ x = .agg (elC a)) (hy : ev σ y = .agg (elC b)) :
    (execOp (ev σ) ⟨dst, .buildSlice t 2 #[(0, x), (1, y)], ty, pos, aft, g⟩).run P w = .ok (.value (.slice (some ⟨w.heap.size, 0, none⟩) 2 2)) (w.alloc (.cells ([a, b].flatMap elL).toArray e)) :=
  run_mkRecs (ps := [(0, x), (1, y)]) (l := [a, b]) elL_len hu hie hz hsz rfl (by decide) (by decide) (by rw [elC_def] at hx hy; simp [hx, hy])
theorem run_mkSl2 {v u : Value} {ie : TypeInfo} {z : Value} (h1 : v.cells = #[v]) (h2 : u.cells = #[u]) (hu : P.underlying t = some (.slice e)) (hie : P.info? e = some ie) (hz : ie.zero = some z) (hsz : ie.size = 1) (hx : ev σ x = v) (hy : ev σ y = u) :
    (execOp (ev σ) ⟨dst, .buildSlice t 2 #[(0, x), (1, y)], ty, pos, aft, g⟩).run P w = .ok (.value (.slice (some ⟨w.heap.size, 0, none⟩) 2 2)) (w.alloc (.cells ([v, u] : List Value).toArray e)) := by
  have := run_mkL (P := P) (σ := σ) (w := w) (dst := dst) (ty := ty) (pos := pos) (aft := aft) (g := g) (ps := [(0, x), (1, y)]) (vs := [v, u]) (sz := 1) hu hie hz hsz rfl (by simp) (by simp) (by simp [hx, hy]) (by simp [h1, h2])
  simpa [h1, h2] using this
end
theorem bigScp_no {s : Scp} (h : bigScp s = false) : s.vars.length ≤ 80 ∧ ∀ v ∈ s.vars, v.name.size ≤ 40 := by
  rw [bigScp, Bool.or_eq_false_iff, Bool.or_eq_false_iff, decide_eq_false_iff_not] at h
  refine ⟨by omega, fun v hv => ?_⟩
  have h2 := any_f h.2 v hv
  rw [bigV, decide_eq_false_iff_not] at h2; omega
end Go.Proofs.YtieckcbckgalhaaGreatDoor.E
