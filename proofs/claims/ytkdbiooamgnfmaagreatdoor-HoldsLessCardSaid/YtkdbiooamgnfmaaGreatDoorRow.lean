/-
  What a row term means.
-/
import Derived.Test.YtkdbiooamgnfmaaGreatDoorFit
import Derived.Test.YtkdbiooamgnfmaaGreatDoorRgs
namespace Go.Proofs.YtkdbiooamgnfmaaGreatDoor.E
open Go Go.RowKit Go.Proofs.YtkdbiooamgnfmaaGreatDoor.M
set_option linter.unusedVariables false
set_option linter.unusedSimpArgs false
def atomF (a : As) (t : AtomR) : El × Bool := if t.var < 0 then (t.c, true) else if t.var < a.labels.length then (a.labels.getD t.var.toNat el0, true) else (el0, false)
theorem atm_1 {a : As} {t : AtomR} (h : t.var < 0) : atomF a t = (t.c, true) := if_pos h
theorem atm_2 {a : As} {t : AtomR} (h : ¬ t.var < 0) (h2 : t.var < a.labels.length) : atomF a t = (a.labels.getD t.var.toNat el0, true) := by rw [atomF, if_neg h, if_pos h2]
theorem atm_3 {a : As} {t : AtomR} (h : ¬ t.var < 0) (h2 : ¬ t.var < a.labels.length) : atomF a t = (el0, false) := by rw [atomF, if_neg h, if_neg h2]
def valF (a : As) (f : FieldR) : ValR := ⟨f.name, (atomF a f.at_).1⟩
def tailV (a : As) (t : RowR) : List ValR := if 0 ≤ t.tail then a.rows.getD t.tail.toNat [] else []
def allV (a : As) (t : RowR) : List ValR := tailV a t ++ t.fields.map (valF a)
def allOk (a : As) (t : RowR) : Bool := decide (t.tail < a.rows.length) && t.fields.all fun f => (atomF a f.at_).2
def vnames (l : List ValR) : List Tx := l.map ValR.name
def layF (l : List ValR) : List ValR := l.foldl (fun m v => withF m v.name v.el) []
def onceV (l : List ValR) : Bool := decide (vnames l).Nodup
def rowM (a : As) (t : RowR) : List ValR × Bool := if (allOk a t && onceV (allV a t)) = true then (layF (allV a t), true) else ([], false)
theorem rw_no {a : As} {t : RowR} (h : (allOk a t && onceV (allV a t)) = false) : rowM a t = ([], false) := by rw [rowM, h]; rfl
theorem rw_yes {a : As} {t : RowR} (h : allOk a t = true) (h2 : onceV (allV a t) = true) : rowM a t = (layF (allV a t), true) := by rw [rowM, h, h2]; rfl
theorem less_total {a b : Tx} (h : a ≠ b) : lessT a b = true ∨ lessT b a = true := by
  have key : ∀ x y : List UInt8, x ≠ y → Op.bytesLess x y = true ∨ Op.bytesLess y x = true := by
    intro x
    induction x with
    | nil => intro y h; cases y with
      | nil => exact absurd rfl h
      | cons b y => exact .inl (by simp [Op.bytesLess])
    | cons a x ih => intro y h; cases y with
      | nil => exact .inr (by simp [Op.bytesLess])
      | cons b y =>
        simp only [Op.bytesLess, Bool.or_eq_true, Bool.and_eq_true, decide_eq_true_eq, beq_iff_eq]
        by_cases e : a = b
        · subst e
          rcases ih y (fun e => h (by rw [e])) with q | q
          · exact .inl (.inr ⟨rfl, q⟩)
          · exact .inr (.inr ⟨rfl, q⟩)
        · have : a.toNat ≠ b.toNat := fun q => e (UInt8.toNat_inj.1 q)
          rcases Nat.lt_or_gt_of_ne this with q | q
          · exact .inl (.inl (UInt8.lt_iff_toNat_lt.2 q))
          · exact .inr (.inl (UInt8.lt_iff_toNat_lt.2 q))
  exact key _ _ fun e => h (of_decide_eq_true (by rw [← beq_tx, e]; exact beq_self_eq_true _))
theorem less_asym {a b : Tx} (h : lessT a b = true) : lessT b a = false := by
  cases hc : lessT b a with
  | false => rfl
  | true => have := less_trans h hc; rw [less_irr] at this; cases this
theorem mem_with {l : List ValR} {f : Tx} {e : El} (h : ∀ v ∈ l, v.name ≠ f) (x : ValR) : x ∈ withF l f e ↔ x = ⟨f, e⟩ ∨ x ∈ l := by
  rcases with_cut l f e with ⟨_, _, _, h2⟩ | ⟨_, hl, _, hm, _⟩
  · rw [h2, List.mem_append, List.mem_cons]
    conv => rhs; rw [← List.take_append_drop (spotW l f) l, List.mem_append]
    exact or_left_comm
  · exact absurd hm (h _ (by rw [List.getD_eq_getElem?_getD, List.getElem?_eq_getElem hl]; exact List.getElem_mem hl))
theorem lay_snoc (l : List ValR) (v : ValR) : layF (l ++ [v]) = withF (layF l) v.name v.el := by simp [layF]
theorem onceV_snoc {l : List ValR} {v : ValR} (h : (vnames l).Nodup) (hv : v.name ∉ vnames l) : (vnames (l ++ [v])).Nodup := by
  unfold vnames at *
  rw [List.map_append, List.nodup_append]
  refine ⟨h, by simp, fun a ha b hb e => ?_⟩
  simp at hb
  exact hv (by rw [← hb, ← e]; exact ha)
theorem once_no {l m : List ValR} {v : ValR} (h : v.name ∈ vnames l) : onceV (l ++ v :: m) = false := decide_eq_false fun hn => by
  unfold vnames at *
  rw [List.map_append, List.nodup_append] at hn
  exact hn.2.2 _ h _ (by simp) rfl
theorem lay_sorted {l : List ValR} (h : (vnames l).Nodup) : Sorted (layF l) ∧ ∀ x, x ∈ layF l ↔ x ∈ l := by
  have key : ∀ r : List ValR, (vnames r.reverse).Nodup → Sorted (layF r.reverse) ∧ ∀ x, x ∈ layF r.reverse ↔ x ∈ r.reverse := by
    intro r
    induction r with
    | nil => intro _; exact ⟨List.Pairwise.nil, fun x => by simp [layF]⟩
    | cons v r ih =>
      intro hn
      rw [List.reverse_cons] at hn ⊢
      have hn2 := hn
      unfold vnames at hn2
      rw [List.map_append, List.nodup_append] at hn2
      obtain ⟨hs, hm⟩ := ih hn2.1
      have hne : ∀ x ∈ layF r.reverse, x.name ≠ v.name := fun x hx e => hn2.2.2 _ (List.mem_map.2 ⟨x, (hm x).1 hx, rfl⟩) _ (by simp) e
      rw [lay_snoc]
      refine ⟨?_, fun x => by rw [mem_with hne, hm, List.mem_append, List.mem_singleton, show (⟨v.name, v.el⟩ : ValR) = v from rfl]; exact or_comm⟩
      rcases with_cut (layF r.reverse) v.name v.el with ⟨hv, _, hp, h2⟩ | ⟨_, hl, _, hq, _⟩
      · rw [h2]
        unfold Sorted at hs ⊢
        have hsp := hs
        rw [← List.take_append_drop (spotW (layF r.reverse) v.name) (layF r.reverse), List.pairwise_append] at hs
        rw [List.pairwise_append, List.pairwise_cons]
        have hbelow : ∀ x ∈ (layF r.reverse).take (spotW (layF r.reverse) v.name), lessT x.name v.name = true := fun x hx => by
          obtain ⟨i, hi, rfl⟩ := List.getElem_of_mem hx
          rw [List.length_take] at hi
          have hi2 : i < (layF r.reverse).length := by omega
          rw [List.getElem_take]
          rcases less_total (hne _ (List.getElem_mem hi2)) with q | q
          · exact q
          · have := (spot_less (l := layF r.reverse) (f := v.name) (k := i) (by omega) (by omega) hv (by omega)).1 (by
              rw [Int.toNat_natCast, List.getD_eq_getElem?_getD, List.getElem?_eq_getElem hi2]; exact q)
            omega
        have habove : ∀ x ∈ (layF r.reverse).drop (spotW (layF r.reverse) v.name), lessT v.name x.name = true := fun x hx => by
          obtain ⟨i, hi, rfl⟩ := List.getElem_of_mem hx
          rw [List.length_drop] at hi
          have h0 : spotW (layF r.reverse) v.name < (layF r.reverse).length := by omega
          have hat := (spot_less (l := layF r.reverse) (f := v.name) (k := (spotW (layF r.reverse) v.name : Int)) (by omega) (by omega) hv (by omega)).2 rfl
          rw [Int.toNat_natCast, List.getD_eq_getElem?_getD, List.getElem?_eq_getElem h0] at hat
          rw [List.getElem_drop]
          by_cases hi0 : i = 0
          · subst hi0; exact hat
          · exact less_trans hat (List.pairwise_iff_getElem.1 hsp _ _ h0 (by omega) (by omega))
        exact ⟨hs.1, ⟨habove, hs.2.1⟩, fun x hx y hy => by
          rcases List.mem_cons.1 hy with rfl | hy
          · exact hbelow x hx
          · exact hs.2.2 x hx y hy⟩
      · exact absurd hq (hne _ (by rw [List.getD_eq_getElem?_getD, List.getElem?_eq_getElem hl]; exact List.getElem_mem hl))
  have := key l.reverse
  rw [List.reverse_reverse] at this
  exact this h
theorem sorted_eq : ∀ {l m : List Tx}, l.Pairwise (fun a b => lessT a b = true) → m.Pairwise (fun a b => lessT a b = true) → (∀ t, t ∈ l ↔ t ∈ m) → l = m
  | [], [], _, _, _ => rfl
  | [], b :: m, _, _, h => absurd ((h b).2 (by simp)) (by simp)
  | a :: l, [], _, _, h => absurd ((h a).1 (by simp)) (by simp)
  | a :: l, b :: m, h1, h2, h => by
    rw [List.pairwise_cons] at h1 h2
    have e : a = b := by
      rcases List.mem_cons.1 ((h a).1 (by simp)) with e | e
      · exact e
      · rcases List.mem_cons.1 ((h b).2 (by simp)) with e2 | e2
        · exact e2.symm
        · have q1 := h2.1 a e; have q2 := h1.1 b e2; rw [less_asym q1] at q2; cases q2
    subst e
    rw [sorted_eq h1.2 h2.2 fun t => ⟨fun ht => by
      rcases List.mem_cons.1 ((h t).1 (List.mem_cons_of_mem _ ht)) with e | e
      · have := h1.1 t ht; rw [e, less_irr] at this; cases this
      · exact e, fun ht => by
      rcases List.mem_cons.1 ((h t).2 (List.mem_cons_of_mem _ ht)) with e | e
      · have := h2.1 t ht; rw [e, less_irr] at this; cases this
      · exact e⟩]
def insAt (out : List Tx) (x : Tx) : Int := findV (fun k => !lessT (out.getD k.toNat tx0) x) out.length
def insN (out : List Tx) (x : Tx) : List Tx := if insAt out x < 0 then out ++ [x] else if out.getD (insAt out x).toNat tx0 = x then out else out.take (insAt out x).toNat ++ x :: out.drop (insAt out x).toNat
def sortN (l : List Tx) : List Tx := l.foldl insN []
theorem sort_next {l : List Tx} {k : Int} (h0 : 0 ≤ k) (h1 : k < l.length) : sortN (l.take (k + 1).toNat) = insN (sortN (l.take k.toNat)) (l.getD k.toNat tx0) := fold_next h0 h1
theorem insN_ok {out : List Tx} {x : Tx} (h : out.Pairwise (fun a b => lessT a b = true)) : (insN out x).Pairwise (fun a b => lessT a b = true) ∧ ∀ t, t ∈ insN out x ↔ t = x ∨ t ∈ out := by
  have gd : ∀ i : Nat, (hi : i < out.length) → out.getD i tx0 = out[i] := fun i hi => by rw [List.getD_eq_getElem?_getD, List.getElem?_eq_getElem hi]; rfl
  unfold insN insAt
  rcases find_cases (fun k => !lessT (out.getD k.toNat tx0) x) out.length with ⟨j, a, b, c, q, ek⟩ | ⟨q, ek⟩
  · rw [ek, if_neg (by omega)]
    have hj : j.toNat < out.length := by omega
    have c' : lessT (out.getD j.toNat tx0) x = false := by simpa using c
    rw [gd _ hj] at c' ⊢
    by_cases e : out[j.toNat] = x
    · rw [if_pos e]
      exact ⟨h, fun t => ⟨.inr, fun ht => ht.elim (fun q => by rw [q, ← e]; exact List.getElem_mem hj) id⟩⟩
    · rw [if_neg e]
      have hx : lessT x out[j.toNat] = true := (less_total e).resolve_left (by rw [c']; simp)
      have hs := h
      rw [← List.take_append_drop j.toNat out, List.pairwise_append] at hs
      refine ⟨?_, fun t => ?_⟩
      · rw [List.pairwise_append, List.pairwise_cons]
        have hbelow : ∀ y ∈ out.take j.toNat, lessT y x = true := fun y hy => by
          obtain ⟨i, hi, rfl⟩ := List.getElem_of_mem hy
          rw [List.length_take] at hi
          have := q i (by omega) (by omega)
          rw [Int.toNat_natCast, gd i (by omega)] at this
          rw [List.getElem_take]; simpa using this
        have habove : ∀ y ∈ out.drop j.toNat, lessT x y = true := fun y hy => by
          obtain ⟨i, hi, rfl⟩ := List.getElem_of_mem hy
          rw [List.length_drop] at hi
          rw [List.getElem_drop]
          by_cases i0 : i = 0
          · subst i0; exact hx
          · exact less_trans hx (List.pairwise_iff_getElem.1 h _ _ hj (by omega) (by omega))
        exact ⟨hs.1, ⟨habove, hs.2.1⟩, fun y hy z hz => by
          rcases List.mem_cons.1 hz with rfl | hz
          · exact hbelow y hy
          · exact hs.2.2 y hy z hz⟩
      · rw [List.mem_append, List.mem_cons]
        conv => rhs; rw [← List.take_append_drop j.toNat out, List.mem_append]
        exact or_left_comm
  · rw [ek, if_pos (by omega)]
    refine ⟨?_, fun t => by rw [List.mem_append, List.mem_singleton]; exact or_comm⟩
    rw [List.pairwise_append]
    refine ⟨h, by simp, fun y hy z hz => ?_⟩
    rw [List.mem_singleton.1 hz]
    obtain ⟨i, hi, rfl⟩ := List.getElem_of_mem hy
    have := q i (by omega) (by omega)
    rw [Int.toNat_natCast, gd i hi] at this
    simpa using this
theorem sort_ok (l : List Tx) : (sortN l).Pairwise (fun a b => lessT a b = true) ∧ ∀ t, t ∈ sortN l ↔ t ∈ l := by
  have key : ∀ r : List Tx, (sortN r.reverse).Pairwise (fun a b => lessT a b = true) ∧ ∀ t, t ∈ sortN r.reverse ↔ t ∈ r.reverse := by
    intro r
    induction r with
    | nil => exact ⟨List.Pairwise.nil, fun t => by simp [sortN]⟩
    | cons x r ih =>
      rw [List.reverse_cons]
      have e : sortN (r.reverse ++ [x]) = insN (sortN r.reverse) x := by simp [sortN]
      rw [e]
      have := insN_ok (x := x) ih.1
      exact ⟨this.1, fun t => by rw [this.2, ih.2]; simp [or_comm]⟩
  have := key l.reverse
  rwa [List.reverse_reverse] at this
def lookK (kv : List (Tx × El)) (f : Tx) : El × Bool := match kv.find? (fun p => decide (p.1 = f)) with
  | none => (el0, false)
  | some p => (p.2, true)
def putK (kv : List (Tx × El)) (f : Tx) (e : El) : List (Tx × El) := if (lookK kv f).2 then kv.map fun p => if p.1 = f then (f, e) else p else kv ++ [(f, e)]
theorem row_laid {l : List ValR} {ns : List Tx} (h : (vnames l).Nodup) (hp : ∀ t, t ∈ ns ↔ t ∈ vnames l) :
    (sortN ns).map (fun n => (⟨n, (lookK (l.map fun v => (v.name, v.el)) n).1⟩ : ValR)) = layF l := by
  obtain ⟨h1, h2⟩ := sort_ok ns
  obtain ⟨h3, h4⟩ := lay_sorted h
  have e : sortN ns = vnames (layF l) := by
    refine sorted_eq h1 ?_ fun t => ?_
    · unfold vnames; rw [List.pairwise_map]; exact h3
    · rw [h2, hp]; unfold vnames
      constructor
      · intro q; obtain ⟨v, hv, e⟩ := List.mem_map.1 q; exact List.mem_map.2 ⟨v, (h4 v).2 hv, e⟩
      · intro q; obtain ⟨v, hv, e⟩ := List.mem_map.1 q; exact List.mem_map.2 ⟨v, (h4 v).1 hv, e⟩
  rw [e]; unfold vnames; rw [List.map_map]
  conv => rhs; rw [← List.map_id (layF l)]
  refine List.map_congr_left fun v hv => ?_
  have hm := (h4 v).1 hv
  have el : lookK (l.map fun v => (v.name, v.el)) v.name = (v.el, true) := by
    unfold lookK
    rw [List.find?_map]
    cases hc : l.find? ((fun p : Tx × El => decide (p.1 = v.name)) ∘ fun v => (v.name, v.el)) with
    | none => rw [List.find?_eq_none] at hc; exact absurd (decide_eq_true (rfl : v.name = v.name)) (hc v hm)
    | some u =>
      have hu := List.mem_of_find?_eq_some hc
      have hn : u.name = v.name := by simpa using List.find?_some hc
      have : u = v := by
        unfold vnames at h
        rw [List.nodup_iff_pairwise_ne, List.pairwise_map] at h
        by_cases q : u = v
        · exact q
        · exact absurd hn (by
            rcases List.pairwise_iff_getElem.1 h with hh
            obtain ⟨i, hi, ei⟩ := List.getElem_of_mem hu
            obtain ⟨j, hj, ej⟩ := List.getElem_of_mem hm
            rcases Nat.lt_trichotomy i j with c | c | c
            · rw [← ei, ← ej]; exact hh i j hi hj c
            · subst c; exact absurd (ei.symm.trans ej) q
            · rw [← ei, ← ej]; exact (hh j i hj hi c).symm)
      rw [this]; rfl
  show (⟨v.name, (lookK _ v.name).1⟩ : ValR) = v
  rw [el]
end Go.Proofs.YtkdbiooamgnfmaaGreatDoor.E
