/-
  Which assignments assertions hold under; and under the meet of two.
-/
import Derived.Test.YtkdbiooamgnfmaaDoorRow
namespace Go.Proofs.YtkdbiooamgnfmaaDoor.E
open Go Go.RowKit Go.Proofs.YtkdbiooamgnfmaaDoor.M
set_option linter.unusedVariables false
set_option linter.unusedSimpArgs false
def oneF (s : Scp) (a : As) (x : AssR) : Bool :=
  if x.op = 10 then (if 0 ≤ x.var ∧ x.var < a.rows.length then !(getF (a.rows.getD x.var.toNat []) x.field).2 else false)
  else if x.op = 9 then (rowM a x.a).2 && (rowM a x.b).2 && sameL (rowM a x.a).1 (rowM a x.b).1
  else if x.op = 8 ∧ 0 ≤ x.lat ∧ x.lat < s.lats.length then (evalF (shAt s x.lat) x.code a.labels).2 && (atomF a x.to).2 && leqE (evalF (shAt s x.lat) x.code a.labels).1 (atomF a x.to).1
  else false
def firstF (s : Scp) (a : As) (l : List AssR) : Int := findV (fun i => !oneF s a (l.getD i.toNat ass0)) l.length
def allF (s : Scp) (a : As) (l : List AssR) : Bool := rightA s.sc a && decide (firstF s a l < 0)
section
variable {s : Scp} {a : As} {x : AssR} {l : List AssR}
theorem one_10a (h : x.op = 10) (h2 : ¬ (0 ≤ x.var ∧ x.var < a.rows.length)) : oneF s a x = false := by rw [oneF, if_pos h, if_neg h2]
theorem one_10 (h : x.op = 10) (h2 : 0 ≤ x.var ∧ x.var < a.rows.length) : oneF s a x = !(getF (a.rows.getD x.var.toNat []) x.field).2 := by rw [oneF, if_pos h, if_pos h2]
theorem one_9 (h : x.op = 9) : oneF s a x = ((rowM a x.a).2 && (rowM a x.b).2 && sameL (rowM a x.a).1 (rowM a x.b).1) := by rw [oneF, if_neg (by omega), if_pos h]
theorem one_8 (h : x.op = 8) (h2 : 0 ≤ x.lat ∧ x.lat < s.lats.length) : oneF s a x = ((evalF (shAt s x.lat) x.code a.labels).2 && (atomF a x.to).2 && leqE (evalF (shAt s x.lat) x.code a.labels).1 (atomF a x.to).1) := by
  rw [oneF, if_neg (by omega), if_neg (by omega), if_pos ⟨h, h2⟩]
theorem one_x (h : ¬ x.op = 10) (h1 : ¬ x.op = 9) (h2 : ¬ (x.op = 8 ∧ 0 ≤ x.lat ∧ x.lat < s.lats.length)) : oneF s a x = false := by rw [oneF, if_neg h, if_neg h1, if_neg h2]
theorem first_all : firstF s a l < 0 ↔ ∀ x ∈ l, oneF s a x = true := by
  unfold firstF
  rcases find_cases (fun i => !oneF s a (l.getD i.toNat ass0)) l.length with ⟨j, j0, j1, j2, _, e⟩ | ⟨q, e⟩
  · refine ⟨fun h => by omega, fun h => ?_⟩
    have hj : j.toNat < l.length := by omega
    have := h _ (List.getElem_mem hj)
    rw [List.getD_eq_getElem?_getD, List.getElem?_eq_getElem hj, Option.getD_some, this] at j2
    cases j2
  · refine ⟨fun _ x hx => ?_, fun _ => by omega⟩
    obtain ⟨i, hi, rfl⟩ := List.getElem_of_mem hx
    have := q i (by omega) (by omega)
    rw [Int.toNat_natCast, List.getD_eq_getElem?_getD, List.getElem?_eq_getElem hi, Option.getD_some] at this
    simpa using this
theorem all_iff : allF s a l = true ↔ rightA s.sc a = true ∧ ∀ x ∈ l, oneF s a x = true := by rw [allF, Bool.and_eq_true, decide_eq_true_eq, first_all]
theorem all_nil : allF s a [] = rightA s.sc a := by
  rw [Bool.eq_iff_iff, all_iff]; exact ⟨fun h => h.1, fun h => ⟨h, fun x hx => by cases hx⟩⟩
end
theorem kind_is {s : Scp} {v kd lat : Int} (h : kdOk s v kd lat = true) : (0 ≤ v ∧ v < s.vars.length) ∧ (s.vars.getD v.toNat var0).kind = kd ∧ (s.vars.getD v.toNat var0).lat = lat := by
  simp only [kdOk, Bool.and_eq_true, decide_eq_true_eq] at h
  exact ⟨h.1.1, h.1.2, h.2⟩
theorem label_fits {s : Scp} {a : As} (ha : rightA s.sc a = true) {v lat : Int} (h : kdOk s v 1 lat = true) : v < a.labels.length ∧ fitsS (shAt s lat) (a.labels.getD v.toNat el0) = true := by
  obtain ⟨h1, h2, h3⟩ := kind_is h
  have hr := rightA_iff.1 ha
  have hv : v.toNat < s.vars.length := by omega
  have hl : s.sc.vars.length = s.vars.length := rfl
  refine ⟨by omega, ?_⟩
  rcases (okV_is (hr.2 v.toNat hv)).2 with ⟨_, _, hf⟩ | ⟨hk, _⟩
  · have e : shOf s.sc (s.sc.vars.getD v.toNat var0) = shAt s lat := by
      unfold shOf shAt
      rw [sc_lat, show (s.sc.vars.getD v.toNat var0).lat = lat from h3]
    rw [e] at hf; exact hf
  · have : (s.sc.vars.getD v.toNat var0).kind = 1 := h2
    omega
section
variable {s : Scp} {a m : As} {lat : Int} {l : List InsR}
theorem opE_fits {sh : Sh} {op : Int} {a b : El} (fa : fitsS sh a = true) (fb : fitsS sh b = true) : fitsS sh (opE sh op a b) = true := by
  unfold opE; split
  · exact e_join fa fb
  · exact e_meet fa fb
theorem foldE_fits {sh : Sh} {op : Int} {l : List El} (h : l ≠ []) (hf : ∀ e ∈ l, fitsS sh e = true) : fitsS sh (foldE (opE sh op) l) = true := by
  induction l with
  | nil => exact absurd rfl h
  | cons e l ih =>
    cases l with
    | nil => exact hf e (by simp)
    | cons b l =>
      have := ih (by simp) fun x hx => hf x (List.mem_cons_of_mem _ hx)
      show fitsS sh (opE sh op e (foldE (opE sh op) (b :: l))) = true
      exact opE_fits (hf e (by simp)) this
theorem meet_mono {a b c d : El} (h : leqE a b = true) (h2 : leqE c d = true) : leqE (meetE a c) (meetE b d) = true :=
  e_glb (leqE_trans (e_down a c).1 h) (leqE_trans (e_down a c).2 h2)
theorem join_mono {sh : Sh} {a b c d : El} (fa : fitsS sh a = true) (fb : fitsS sh b = true) (fc : fitsS sh c = true) (fd : fitsS sh d = true) (h : leqE a b = true) (h2 : leqE c d = true) : leqE (joinS sh a c) (joinS sh b d) = true :=
  e_lub fa fc (e_join fb fd) (leqE_trans h (e_up fb fd).1) (leqE_trans h2 (e_up fb fd).2)
theorem opE_mono {sh : Sh} {op : Int} {a b c d : El} (fa : fitsS sh a = true) (fb : fitsS sh b = true) (fc : fitsS sh c = true) (fd : fitsS sh d = true) (h : leqE a b = true) (h2 : leqE c d = true) : leqE (opE sh op a c) (opE sh op b d) = true := by
  unfold opE; split
  · exact join_mono fa fb fc fd h h2
  · exact meet_mono h h2
def LeqL : List El → List El → Prop
  | [], [] => True
  | a :: l, b :: m => leqE a b = true ∧ LeqL l m
  | _, _ => False
theorem LeqL.len : ∀ {l m : List El}, LeqL l m → l.length = m.length
  | [], [], _ => rfl
  | _ :: _, _ :: _, h => by simp [LeqL.len h.2]
  | [], _ :: _, h => h.elim
  | _ :: _, [], h => h.elim
theorem LeqL.app : ∀ {l m l' m' : List El}, LeqL l m → LeqL l' m' → LeqL (l ++ l') (m ++ m')
  | [], [], _, _, _, h => h
  | _ :: _, _ :: _, _, _, h, h' => ⟨h.1, LeqL.app h.2 h'⟩
  | [], _ :: _, _, _, h, _ => h.elim
  | _ :: _, [], _, _, h, _ => h.elim
theorem LeqL.take : ∀ {l m : List El} (n : Nat), LeqL l m → LeqL (l.take n) (m.take n)
  | [], [], n, _ => by simp [LeqL]
  | _ :: _, _ :: _, 0, h => by simp [LeqL]
  | _ :: _, _ :: _, n + 1, h => ⟨h.1, LeqL.take n h.2⟩
  | [], _ :: _, _, h => h.elim
  | _ :: _, [], _, h => h.elim
theorem LeqL.drop : ∀ {l m : List El} (n : Nat), LeqL l m → LeqL (l.drop n) (m.drop n)
  | [], [], n, _ => by simp [LeqL]
  | _ :: _, _ :: _, 0, h => h
  | _ :: _, _ :: _, n + 1, h => LeqL.drop n h.2
  | [], _ :: _, _, h => h.elim
  | _ :: _, [], _, h => h.elim
theorem LeqL.at0 : ∀ {l m : List El}, LeqL l m → leqE (l.getD 0 el0) (m.getD 0 el0) = true
  | [], [], _ => leqE_refl _
  | _ :: _, _ :: _, h => h.1
  | [], _ :: _, h => h.elim
  | _ :: _, [], h => h.elim
theorem foldE_mono {sh : Sh} {op : Int} : ∀ {l m : List El}, LeqL l m → (∀ e ∈ l, fitsS sh e = true) → (∀ e ∈ m, fitsS sh e = true) → leqE (foldE (opE sh op) l) (foldE (opE sh op) m) = true
  | [], [], _, _, _ => leqE_refl _
  | [a], [b], h, _, _ => h.1
  | a :: a' :: l, b :: b' :: m, h, hf, hg => by
    have ih := foldE_mono (sh := sh) (op := op) (l := a' :: l) (m := b' :: m) h.2 (fun x hx => hf x (List.mem_cons_of_mem _ hx)) (fun x hx => hg x (List.mem_cons_of_mem _ hx))
    have f1 := foldE_fits (sh := sh) (op := op) (l := a' :: l) (by simp) fun x hx => hf x (List.mem_cons_of_mem _ hx)
    have f2 := foldE_fits (sh := sh) (op := op) (l := b' :: m) (by simp) fun x hx => hg x (List.mem_cons_of_mem _ hx)
    exact opE_mono (hf a (by simp)) (hg b (by simp)) f1 f2 h.1 ih
  | [], _ :: _, h, _, _ => h.elim
  | _ :: _, [], h, _, _ => h.elim
  | [_], _ :: _ :: _, h, _, _ => h.2.elim
  | _ :: _ :: _, [_], h, _, _ => h.2.elim
theorem eval_mono (hc : codeOk s lat l = true) (hm : rightA s.sc m = true) (ha : rightA s.sc a = true) (hle : leqA m a = true) :
    (evalF (shAt s lat) l m.labels).2 = true ∧ (evalF (shAt s lat) l a.labels).2 = true ∧ leqE (evalF (shAt s lat) l m.labels).1 (evalF (shAt s lat) l a.labels).1 = true := by
  simp only [codeOk, Bool.and_eq_true] at hc
  obtain ⟨hi, hr⟩ := hc
  have hle2 := (leqA_iff.1 hle).1
  have key : ∀ n : Nat, n ≤ l.length → ∃ st su, stackTo (shAt s lat) m.labels l n = some st ∧ stackTo (shAt s lat) a.labels l n = some su ∧ deepTo l n = some st.length ∧ LeqL st su ∧ (∀ e ∈ st, fitsS (shAt s lat) e = true) ∧ ∀ e ∈ su, fitsS (shAt s lat) e = true := by
    intro n
    induction n with
    | zero => intro _; exact ⟨[], [], rfl, rfl, rfl, trivial, (fun e he => by cases he), fun e he => by cases he⟩
    | succ n ih =>
      intro hn
      obtain ⟨st, su, h1, h2, h3, h4, h5, h6⟩ := ih (by omega)
      have hx := List.all_eq_true.1 hi _ (List.mem_of_getElem? (getD_at (d := ins0) (l := l) (i := (n : Int)) (by omega) (by omega)))
      rw [show ((n + 1 : Nat) : Int) = (n : Int) + 1 by omega]
      have hlen := h4.len
      rcases deep_ok hr (k := (n : Int)) (by omega) (by omega) h3 with ⟨ho, hd⟩ | ⟨⟨ho, hn1, hn2⟩, hd⟩
      · rcases ho with ho | ho
        · have hk : kdOk s (l.getD (n : Int).toNat ins0).n 1 lat = true := by
            simp only [insOk, Bool.and_eq_true, Bool.or_eq_true, Bool.not_eq_true', decide_eq_false_iff_not] at hx
            exact hx.1.resolve_left fun q => q ho
          have fm := label_fits hm hk; have fa := label_fits ha hk; have h0 := (kind_is hk).1
          refine ⟨_, _, ev_1 (by omega) (by omega) h1 ho ⟨h0.1, fm.1⟩, ev_1 (by omega) (by omega) h2 ho ⟨h0.1, fa.1⟩, by rw [hd]; simp, h4.app ⟨hle2 _ (by omega), trivial⟩, fun e he => ?_, fun e he => ?_⟩
          · rcases List.mem_append.1 he with q | q
            · exact h5 e q
            · rw [List.mem_singleton.1 q]; exact fm.2
          · rcases List.mem_append.1 he with q | q
            · exact h6 e q
            · rw [List.mem_singleton.1 q]; exact fa.2
        · have hk : fitsS (shAt s lat) (l.getD (n : Int).toNat ins0).c = true := by
            simp only [insOk, Bool.and_eq_true, Bool.or_eq_true, Bool.not_eq_true', decide_eq_false_iff_not] at hx
            exact hx.2.resolve_left fun q => q ho
          refine ⟨_, _, ev_2 (by omega) (by omega) h1 ho, ev_2 (by omega) (by omega) h2 ho, by rw [hd]; simp, h4.app ⟨leqE_refl _, trivial⟩, fun e he => ?_, fun e he => ?_⟩
          · rcases List.mem_append.1 he with q | q
            · exact h5 e q
            · rw [List.mem_singleton.1 q]; exact hk
          · rcases List.mem_append.1 he with q | q
            · exact h6 e q
            · rw [List.mem_singleton.1 q]; exact hk
      · generalize hg : l.getD (n : Int).toNat ins0 = x at *
        have e1 := ev_3 (s := shAt s lat) (v := m.labels) (l := l) (st := st) (k := (n : Int)) (by omega) (by omega) h1 (by rw [hg]; omega) (by rw [hg]; omega)
        have e2 := ev_3 (s := shAt s lat) (v := a.labels) (l := l) (st := su) (k := (n : Int)) (by omega) (by omega) h2 (by rw [hg]; omega) (by rw [hg]; omega)
        rw [hg] at e1 e2
        have d1 : st.drop (st.length - x.n.toNat) ≠ [] := fun q => by
          have := congrArg List.length q
          rw [List.length_drop, List.length_nil] at this; omega
        have g1 : ∀ e ∈ st.drop (st.length - x.n.toNat), fitsS (shAt s lat) e = true := fun e he => h5 e (List.mem_of_mem_drop he)
        have g2 : ∀ e ∈ su.drop (su.length - x.n.toNat), fitsS (shAt s lat) e = true := fun e he => h6 e (List.mem_of_mem_drop he)
        have hld := h4.drop (st.length - x.n.toNat)
        have hlt := h4.take (st.length - x.n.toNat)
        rw [hlen] at hld hlt
        rw [← hlen] at hld hlt
        have d2 : su.drop (su.length - x.n.toNat) ≠ [] := fun q => by
          have := congrArg List.length q
          rw [List.length_drop, List.length_nil] at this; omega
        refine ⟨_, _, e1, e2, ?_, ?_, fun e he => ?_, fun e he => ?_⟩
        · rw [hd, List.length_append, List.length_take, List.length_singleton]; congr 1; omega
        · rw [← hlen]
          refine hlt.app ⟨foldE_mono hld g1 (by rw [← hlen] at g2; exact g2), trivial⟩
        · rcases List.mem_append.1 he with q | q
          · exact h5 e (List.mem_of_mem_take q)
          · rw [List.mem_singleton.1 q]; exact foldE_fits d1 g1
        · rcases List.mem_append.1 he with q | q
          · exact h6 e (List.mem_of_mem_take q)
          · rw [List.mem_singleton.1 q]; exact foldE_fits d2 g2
  obtain ⟨st, su, h1, h2, h3, h4, _, _⟩ := key l.length (Nat.le_refl _)
  rw [ev_end hr (by omega) (by omega) h1, ev_end hr (by omega) (by omega) h2]
  exact ⟨rfl, rfl, h4.at0⟩
end
section
variable {s : Scp} {a b : As} {lat : Int} {T U : RowR}
theorem eqE_refl (e : El) : eqE e e := fun _ _ => rfl
theorem eqE_symm {a b : El} (h : eqE a b) : eqE b a := fun i hi => (h i hi).symm
theorem eqE_trans {a b c : El} (h : eqE a b) (h2 : eqE b c) : eqE a c := fun i hi => (h i hi).trans (h2 i hi)
theorem eqE_meet {a b c d : El} (h : eqE a b) (h2 : eqE c d) : eqE (meetE a c) (meetE b d) := fun i hi => by show a i &&& c i = b i &&& d i; rw [h i hi, h2 i hi]
theorem atom_right {t : AtomR} (h : atomOk s lat t = true) (ha : rightA s.sc a = true) : (atomF a t).2 = true := by
  by_cases c : t.var < 0
  · rw [atm_1 c]
  · rw [atom_2 c] at h
    rw [atm_2 c (label_fits ha h).1]
theorem atom_meet {t : AtomR} (h : atomOk s lat t = true) (ha : rightA s.sc a = true) (hb : rightA s.sc b = true) : (atomF (meetA a b) t).2 = true ∧ eqE (atomF (meetA a b) t).1 (meetE (atomF a t).1 (atomF b t).1) := by
  by_cases c : t.var < 0
  · rw [atm_1 c, atm_1 c, atm_1 c]; exact ⟨rfl, fun i _ => by show t.c i = t.c i &&& t.c i; simp⟩
  · rw [atom_2 c] at h
    have h1 := (label_fits ha h).1; have h2 := (label_fits hb h).1
    have hl := meet_len a b
    rw [atm_2 c h1, atm_2 c h2, atm_2 c (by omega), meet_label (by omega) (by omega)]
    exact ⟨rfl, eqE_refl _⟩
theorem row_is (h : rowOk s lat T = true) : (0 ≤ T.tail → kdOk s T.tail 2 lat = true) ∧ ∀ f ∈ T.fields, fieldOk s lat f = true := by
  simp only [rowOk, Bool.and_eq_true, Bool.or_eq_true, decide_eq_true_eq, List.all_eq_true] at h
  exact ⟨fun q => h.1.1.2.resolve_left (by omega), h.1.2⟩
theorem tail_in (h : rowOk s lat T = true) (ha : rightA s.sc a = true) : T.tail < a.rows.length := by
  by_cases c : 0 ≤ T.tail
  · have := (kind_is ((row_is h).1 c)).1
    have hr := (rightA_iff.1 ha).1.2
    have hl : s.sc.vars.length = s.vars.length := rfl
    omega
  · omega
theorem all_right (h : rowOk s lat T = true) (ha : rightA s.sc a = true) : allOk a T = true := by
  rw [allOk, decide_eq_true (tail_in h ha), Bool.true_and, List.all_eq_true]
  intro f hf
  have := (row_is h).2 f hf
  simp only [fieldOk, Bool.and_eq_true] at this
  exact atom_right this.2 ha
theorem row_right (h : rowOk s lat T = true) (ha : rightA s.sc a = true) : (rowM a T).2 = onceV (allV a T) ∧ ((rowM a T).2 = true → (rowM a T).1 = layF (allV a T)) := by
  have h1 := all_right h ha
  cases hc : onceV (allV a T) with
  | true => rw [rw_yes h1 hc]; exact ⟨rfl, fun _ => rfl⟩
  | false => rw [rw_no (by rw [hc, Bool.and_false])]; exact ⟨rfl, fun q => by cases q⟩
theorem tail_meet (h : rowOk s lat T = true) (ha : rightA s.sc a = true) (hb : rightA s.sc b = true) : tailV (meetA a b) T = bothF (tailV a T) (tailV b T) := by
  unfold tailV
  have h1 := tail_in h ha; have h2 := tail_in h hb
  by_cases c : 0 ≤ T.tail
  · rw [if_pos c, if_pos c, if_pos c, meet_row (by omega) (by omega)]
  · rw [if_neg c, if_neg c, if_neg c]; rfl
theorem uniq_v {l : List ValR} (h : (vnames l).Nodup) {x y : ValR} (hx : x ∈ l) (hy : y ∈ l) (e : x.name = y.name) : x = y := by
  unfold vnames at h
  rw [List.Nodup, List.pairwise_map] at h
  obtain ⟨i, hi, ei⟩ := List.getElem_of_mem hx
  obtain ⟨j, hj, ej⟩ := List.getElem_of_mem hy
  rcases Nat.lt_trichotomy i j with c | c | c
  · exact absurd (by rw [ei, ej]; exact e) (List.pairwise_iff_getElem.1 h i j hi hj c)
  · subst c; rw [← ei, ← ej]
  · exact absurd (by rw [ei, ej]; exact e.symm) (List.pairwise_iff_getElem.1 h j i hj hi c)
theorem k_1 (h : rowOk s lat T = true) (ha : rightA s.sc a = true) (hb : rightA s.sc b = true) {v : ValR} (hv : v ∈ allV (meetA a b) T) : ∃ x ∈ allV a T, ∃ y ∈ allV b T, x.name = v.name ∧ y.name = v.name ∧ eqE v.el (meetE x.el y.el) := by
  unfold allV at hv
  rw [tail_meet h ha hb, List.mem_append] at hv
  rcases hv with hv | hv
  · obtain ⟨x, hx, hg, rfl⟩ := both_mem.1 hv
    obtain ⟨y, hy, hn, he⟩ := get_is hg
    exact ⟨x, List.mem_append_left _ hx, y, List.mem_append_left _ hy, rfl, hn, by rw [he]; exact eqE_refl _⟩
  · obtain ⟨f, hf, rfl⟩ := List.mem_map.1 hv
    have := (row_is h).2 f hf
    simp only [fieldOk, Bool.and_eq_true] at this
    exact ⟨valF a f, List.mem_append_right _ (List.mem_map.2 ⟨f, hf, rfl⟩), valF b f, List.mem_append_right _ (List.mem_map.2 ⟨f, hf, rfl⟩), rfl, rfl, (atom_meet this.2 ha hb).2⟩
theorem k_2 (h : rowOk s lat T = true) (ha : rightA s.sc a = true) (hb : rightA s.sc b = true) (oa : (vnames (allV a T)).Nodup) (ob : (vnames (allV b T)).Nodup) {x y : ValR} (hx : x ∈ allV a T) (hy : y ∈ allV b T) (e : x.name = y.name) :
    ∃ v ∈ allV (meetA a b) T, v.name = x.name ∧ eqE v.el (meetE x.el y.el) := by
  have field : ∀ f ∈ T.fields, f.name = x.name → ∃ v ∈ allV (meetA a b) T, v.name = x.name ∧ eqE v.el (meetE x.el y.el) := fun f hf hn => by
    have := (row_is h).2 f hf
    simp only [fieldOk, Bool.and_eq_true] at this
    have e1 : x = valF a f := uniq_v oa hx (List.mem_append_right _ (List.mem_map.2 ⟨f, hf, rfl⟩)) hn.symm
    have e2 : y = valF b f := uniq_v ob hy (List.mem_append_right _ (List.mem_map.2 ⟨f, hf, rfl⟩)) (e.symm.trans hn.symm)
    exact ⟨valF (meetA a b) f, List.mem_append_right _ (List.mem_map.2 ⟨f, hf, rfl⟩), hn, by rw [e1, e2]; exact (atom_meet this.2 ha hb).2⟩
  have hx2 := hx; have hy2 := hy
  unfold allV at hx2 hy2
  rcases List.mem_append.1 hx2 with hx2 | hx2
  · rcases List.mem_append.1 hy2 with hy2 | hy2
    · have hg : (getF (tailV b T) x.name).2 = true := get_has_iff.2 (List.mem_map.2 ⟨y, hy2, e.symm⟩)
      obtain ⟨y', hy', hn, he⟩ := get_is hg
      have e2 : y' = y := uniq_v ob (List.mem_append_left _ hy') hy (hn.trans e)
      refine ⟨⟨x.name, meetE x.el (getF (tailV b T) x.name).1⟩, ?_, rfl, by rw [he, e2]; exact eqE_refl _⟩
      unfold allV
      rw [tail_meet h ha hb]
      exact List.mem_append_left _ (both_mem.2 ⟨x, hx2, hg, rfl⟩)
    · obtain ⟨f, hf, rfl⟩ := List.mem_map.1 hy2
      exact field f hf e.symm
  · obtain ⟨f, hf, hfe⟩ := List.mem_map.1 hx2
    exact field f hf (by rw [← hfe]; rfl)
theorem once_meet (h : rowOk s lat T = true) (ha : rightA s.sc a = true) (hb : rightA s.sc b = true) (oa : (vnames (allV a T)).Nodup) : (vnames (allV (meetA a b) T)).Nodup := by
  have hs : (vnames (allV (meetA a b) T)).Sublist (vnames (allV a T)) := by
    unfold allV vnames
    rw [tail_meet h ha hb, List.map_append, List.map_append, List.map_map, List.map_map]
    refine List.Sublist.append ?_ (List.Sublist.refl _)
    generalize tailV a T = l; generalize tailV b T = m
    induction l with
    | nil => exact List.Sublist.refl _
    | cons v l ih =>
      unfold bothF at ih ⊢
      rw [List.filterMap_cons]
      split
      · exact List.Sublist.cons _ ih
      · rename_i u hu
        split at hu
        · injection hu with hu; subst hu; exact List.Sublist.cons_cons _ ih
        · cases hu
  exact hs.nodup oa
theorem same_at {l m : List ValR} (h : sameL l m = true) {x : ValR} (hx : x ∈ l) : ∃ y ∈ m, y.name = x.name ∧ eqE y.el x.el := by
  have hh := sameL_iff.1 h
  obtain ⟨i, hi, rfl⟩ := List.getElem_of_mem hx
  have hi2 : i < m.length := by omega
  have := hh.2 i hi
  rw [List.getD_eq_getElem?_getD, List.getD_eq_getElem?_getD, List.getElem?_eq_getElem hi, List.getElem?_eq_getElem hi2] at this
  exact ⟨m[i], List.getElem_mem hi2, this.1.symm, eqE_symm this.2⟩
theorem below_meet (hT : rowOk s lat T = true) (hU : rowOk s lat U = true) (ha : rightA s.sc a = true) (hb : rightA s.sc b = true) (oaT : (vnames (allV a T)).Nodup) (oaU : (vnames (allV a U)).Nodup) (obT : (vnames (allV b T)).Nodup) (obU : (vnames (allV b U)).Nodup)
    (sa : sameL (layF (allV a T)) (layF (allV a U)) = true) (sb : sameL (layF (allV b T)) (layF (allV b U)) = true) : belowL (layF (allV (meetA a b) T)) (layF (allV (meetA a b) U)) = true := by
  have lT := lay_sorted (once_meet hT ha hb oaT); have lU := lay_sorted (once_meet hU ha hb oaU)
  refine below_iff.2 fun v hv => ?_
  obtain ⟨x, hx, y, hy, n1, n2, e⟩ := k_1 hT ha hb ((lT.2 v).1 hv)
  obtain ⟨x', hx', n3, e3⟩ := same_at sa (((lay_sorted oaT).2 x).2 hx)
  obtain ⟨y', hy', n4, e4⟩ := same_at sb (((lay_sorted obT).2 y).2 hy)
  obtain ⟨u, hu, n5, e5⟩ := k_2 hU ha hb oaU obU (((lay_sorted oaU).2 x').1 hx') (((lay_sorted obU).2 y').1 hy') (n3.trans (n1.trans (n2.symm.trans n4.symm)))
  have hun : u.name = v.name := n5.trans (n3.trans n1)
  have hg := get_mem lU.1 ((lU.2 u).2 hu)
  rw [hun] at hg
  rw [hg]
  exact ⟨rfl, leqE_eq (eqE_trans e (eqE_trans (eqE_meet (eqE_symm e3) (eqE_symm e4)) (eqE_symm e5)))⟩
theorem one_meet {x : AssR} (hx : assOk s x = true) (ha : rightA s.sc a = true) (hb : rightA s.sc b = true) (h1 : oneF s a x = true) (h2 : oneF s b x = true) : oneF s (meetA a b) x = true := by
  have hl := meet_len a b
  have hra := (rightA_iff.1 ha).1; have hrb := (rightA_iff.1 hb).1
  have hvl : s.sc.vars.length = s.vars.length := rfl
  by_cases c : x.op = 10
  · rw [ass_10 c, Bool.and_eq_true] at hx
    have hk := (kind_is hx.1).1
    rw [one_10 c (by omega)] at h1 ⊢
    rw [meet_row (by omega) (by omega)]
    cases hc : (getF (bothF (a.rows.getD x.var.toNat []) (b.rows.getD x.var.toNat [])) x.field).2 with
    | false => rfl
    | true =>
      obtain ⟨v, hv, hn⟩ := List.mem_map.1 (get_has_iff.1 hc)
      obtain ⟨q, hq, _, rfl⟩ := both_mem.1 hv
      rw [get_has_iff.2 (List.mem_map.2 ⟨q, hq, hn⟩)] at h1; cases h1
  · by_cases hlat : 0 ≤ x.lat ∧ x.lat < s.lats.length
    · by_cases c9 : x.op = 9
      · rw [ass_9 c9 hlat, Bool.and_eq_true] at hx
        rw [one_9 c9, Bool.and_eq_true, Bool.and_eq_true] at h1 h2 ⊢
        have hm := as_meet ha hb
        have r1 := row_right hx.1 ha; have r2 := row_right hx.2 ha; have r3 := row_right hx.1 hb; have r4 := row_right hx.2 hb
        have oa1 : (vnames (allV a x.a)).Nodup := of_decide_eq_true (r1.1.symm.trans h1.1.1)
        have oa2 : (vnames (allV a x.b)).Nodup := of_decide_eq_true (r2.1.symm.trans h1.1.2)
        have ob1 : (vnames (allV b x.a)).Nodup := of_decide_eq_true (r3.1.symm.trans h2.1.1)
        have ob2 : (vnames (allV b x.b)).Nodup := of_decide_eq_true (r4.1.symm.trans h2.1.2)
        have m1 := once_meet hx.1 ha hb oa1; have m2 := once_meet hx.2 ha hb oa2
        rw [rw_yes (all_right hx.1 hm) (decide_eq_true m1), rw_yes (all_right hx.2 hm) (decide_eq_true m2)]
        have sa := h1.2; have sb := h2.2
        rw [r1.2 h1.1.1, r2.2 h1.1.2] at sa
        rw [r3.2 h2.1.1, r4.2 h2.1.2] at sb
        exact ⟨⟨rfl, rfl⟩, below_anti (lay_sorted m1).1 (lay_sorted m2).1 (below_meet hx.1 hx.2 ha hb oa1 oa2 ob1 ob2 sa sb) (below_meet hx.2 hx.1 ha hb oa2 oa1 ob2 ob1 (sameL_symm sa) (sameL_symm sb))⟩
      · by_cases c8 : x.op = 8
        · rw [ass_8 c8 hlat, Bool.and_eq_true] at hx
          rw [one_8 c8 hlat, Bool.and_eq_true, Bool.and_eq_true] at h1 h2 ⊢
          have hm := as_meet ha hb
          have d := as_down ha hb
          have e1 := eval_mono hx.1 hm ha d.1; have e2 := eval_mono hx.1 hm hb d.2
          have am := atom_meet hx.2 ha hb
          refine ⟨⟨e1.1, am.1⟩, leqE_trans (e_glb (leqE_trans e1.2.2 h1.2) (leqE_trans e2.2.2 h2.2)) (leqE_eq (eqE_symm am.2))⟩
        · rw [ass_x c c9 c8] at hx; cases hx
    · rw [ass_no c hlat] at hx; cases hx
theorem all_meet {l : List AssR} (hl : ∀ x ∈ l, assOk s x = true) (h1 : allF s a l = true) (h2 : allF s b l = true) : allF s (meetA a b) l = true := by
  rw [all_iff] at h1 h2 ⊢
  exact ⟨as_meet h1.1 h2.1, fun x hx => one_meet (hl x hx) h1.1 h2.1 (h1.2 x hx) (h2.2 x hx)⟩
end
end Go.Proofs.YtkdbiooamgnfmaaDoor.E
