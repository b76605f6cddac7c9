/-
  Assignments form a lattice: least, meet, order; and their texts tell them apart.
-/
import Derived.Test.YtieckcbckgalhaaGreatDoorAsn
namespace Go.Proofs.YtieckcbckgalhaaGreatDoor.E
open Go Go.RowKit Go.Proofs.YtieckcbckgalhaaGreatDoor.M
set_option linter.unusedVariables false
set_option linter.unusedSimpArgs false
def Sorted (l : List ValR) : Prop := l.Pairwise fun a b => lessT a.name b.name = true
theorem ordered_iff {l : List ValR} : orderedF l = true ↔ (∀ x ∈ l, nameR x.name = true) ∧ Sorted l := by
  have hg : ∀ (i : Nat) (hi : i < l.length), l.getD i val0 = l[i] := fun i hi => by rw [List.getD_eq_getElem?_getD, List.getElem?_eq_getElem hi]; rfl
  constructor
  · intro h
    rw [orderedF, List.all_eq_true] at h
    have key : ∀ i : Nat, (hi : i < l.length) → nameR l[i].name = true ∧ (0 < i → lessT (l.getD (i - 1) val0).name l[i].name = true) := fun i hi => by
      have h1 := h (i : Int) (mem_upto.2 (by omega))
      rw [Bool.and_eq_true, Bool.or_eq_true, decide_eq_true_eq, Int.toNat_natCast, hg i hi] at h1
      refine ⟨h1.1, fun h0 => ?_⟩
      rcases h1.2 with h2 | h2
      · omega
      · rw [show ((i : Int) - 1).toNat = i - 1 by omega] at h2; exact h2
    refine ⟨fun x hx => ?_, ?_⟩
    · obtain ⟨i, hi, rfl⟩ := List.getElem_of_mem hx; exact (key i hi).1
    · rw [Sorted, List.pairwise_iff_getElem]
      have step : ∀ (d i : Nat) (hi : i < l.length) (hj : i + d + 1 < l.length), lessT l[i].name l[i + d + 1].name = true := fun d => by
        induction d with
        | zero =>
          intro i hi hj
          have := (key (i + 0 + 1) hj).2 (by omega)
          rw [show i + 0 + 1 - 1 = i by omega, hg i hi] at this; exact this
        | succ d ih =>
          intro i hi hj
          have h1 := ih i hi (by omega)
          have h2 := (key (i + (d + 1) + 1) hj).2 (by omega)
          rw [show i + (d + 1) + 1 - 1 = i + d + 1 by omega, hg (i + d + 1) (by omega)] at h2
          exact less_trans h1 h2
      intro i j hi hj hij
      have := step (j - i - 1) i hi (by omega)
      have e : i + (j - i - 1) + 1 = j := by omega
      simp only [e] at this; exact this
  · rintro ⟨h1, h2⟩
    rw [orderedF, List.all_eq_true]
    intro i hi
    have hi := mem_upto.1 hi
    have h3 : i.toNat < l.length := by omega
    rw [hg _ h3, h1 _ (List.getElem_mem h3), Bool.true_and, Bool.or_eq_true, decide_eq_true_eq]
    by_cases h0 : i ≤ 0
    · exact .inl h0
    · have h4 : (i - 1).toNat < l.length := by omega
      rw [hg _ h4]
      exact .inr (List.pairwise_iff_getElem.1 h2 _ _ h4 h3 (by omega))
theorem get_mem {l : List ValR} (h : Sorted l) {v : ValR} (hv : v ∈ l) : getF l v.name = (v.el, true) := by
  obtain ⟨i, hi, rfl⟩ := List.getElem_of_mem hv
  have hg : ∀ (i : Nat) (hi : i < l.length), l.getD i val0 = l[i] := fun i hi => by rw [List.getD_eq_getElem?_getD, List.getElem?_eq_getElem hi]; rfl
  have h1 : vfind l l[i].name = (i : Int) := find_yes (by omega) (by omega) (decide_eq_true (by rw [Int.toNat_natCast, hg i hi])) fun j j0 j1 => decide_eq_false (by
    rw [hg j.toNat (by omega)]
    exact less_ne (List.pairwise_iff_getElem.1 h _ _ (by omega) hi (by omega)))
  rw [getF, h1, if_neg (by omega), Int.toNat_natCast, hg i hi]
theorem get_is {l : List ValR} {f : Tx} (h : (getF l f).2 = true) : ∃ v ∈ l, v.name = f ∧ (getF l f).1 = v.el := by
  by_cases hf : vfind l f < 0
  · rw [get_no hf] at h; cases h
  · have h1 := vfind_in hf
    exact ⟨_, List.mem_of_getElem? (getD_at (d := val0) h1.1 h1.2), vfind_name hf, by rw [get_yes hf]⟩
theorem both_mem {l m : List ValR} {v : ValR} : v ∈ bothF l m ↔ ∃ x ∈ l, (getF m x.name).2 = true ∧ v = ⟨x.name, meetE x.el (getF m x.name).1⟩ := by
  rw [bothF, List.mem_filterMap]
  constructor
  · rintro ⟨x, hx, h⟩
    split at h
    · rename_i hg; exact ⟨x, hx, hg, (Option.some.inj h).symm⟩
    · cases h
  · rintro ⟨x, hx, hg, rfl⟩
    exact ⟨x, hx, by rw [if_pos hg]⟩
theorem both_sorted {l m : List ValR} (h : Sorted l) : Sorted (bothF l m) := by
  rw [Sorted, bothF, List.pairwise_filterMap]
  exact h.imp fun {a b} hab u hu v hv => by
    split at hu
    · split at hv
      · rw [← Option.some.inj hu, ← Option.some.inj hv]; exact hab
      · cases hv
    · cases hu
theorem both_get {l m : List ValR} (h : Sorted l) {f : Tx} (h1 : (getF l f).2 = true) (h2 : (getF m f).2 = true) : getF (bothF l m) f = (meetE (getF l f).1 (getF m f).1, true) := by
  obtain ⟨v, hv, rfl, e⟩ := get_is h1
  have := get_mem (both_sorted (m := m) h) (v := ⟨v.name, meetE v.el (getF m v.name).1⟩) (both_mem.2 ⟨v, hv, h2, rfl⟩)
  rw [e]; exact this
theorem below_iff {l m : List ValR} : belowL l m = true ↔ ∀ v ∈ l, (getF m v.name).2 = true ∧ leqE v.el (getF m v.name).1 = true := by
  rw [belowL, List.all_eq_true]
  exact forall_congr' fun v => forall_congr' fun _ => by rw [Bool.and_eq_true]
theorem leqE_trans {a b c : El} (h : leqE a b = true) (h' : leqE b c = true) : leqE a c = true := leq_iff.2 fun i hi => sub_trans (leq_iff.1 h i hi) (leq_iff.1 h' i hi)
theorem leqE_eq {a b : El} (h : eqE a b) : leqE a b = true := leq_iff.2 fun i hi => by rw [h i hi]; exact sub_refl _
theorem below_both1 {l m : List ValR} (h : Sorted l) : belowL (bothF l m) l = true := below_iff.2 fun v hv => by
  obtain ⟨x, hx, hg, rfl⟩ := both_mem.1 hv
  rw [show (⟨x.name, meetE x.el (getF m x.name).1⟩ : ValR).name = x.name from rfl, get_mem h hx]
  exact ⟨rfl, (e_down _ _).1⟩
theorem below_both2 {l m : List ValR} : belowL (bothF l m) m = true := below_iff.2 fun v hv => by
  obtain ⟨x, hx, hg, rfl⟩ := both_mem.1 hv
  exact ⟨hg, (e_down _ _).2⟩
theorem below_glb {l m n : List ValR} (hl : Sorted l) (h1 : belowL n l = true) (h2 : belowL n m = true) : belowL n (bothF l m) = true := below_iff.2 fun v hv => by
  have q1 := below_iff.1 h1 v hv; have q2 := below_iff.1 h2 v hv
  rw [both_get hl q1.1 q2.1]
  exact ⟨rfl, e_glb q1.2 q2.2⟩
theorem below_trans {l m n : List ValR} (h1 : belowL l m = true) (h2 : belowL m n = true) : belowL l n = true := below_iff.2 fun v hv => by
  have q1 := below_iff.1 h1 v hv
  obtain ⟨u, hu, e, e2⟩ := get_is q1.1
  have q2 := below_iff.1 h2 u hu
  rw [e] at q2
  rw [e2] at q1
  exact ⟨q2.1, leqE_trans q1.2 q2.2⟩
theorem sorted_names : ∀ {l m : List ValR}, Sorted l → Sorted m → (∀ t, (∃ v ∈ l, v.name = t) ↔ ∃ v ∈ m, v.name = t) → l.map ValR.name = m.map ValR.name
  | [], [], _, _, _ => rfl
  | [], y :: m, _, _, h => by obtain ⟨v, hv, -⟩ := (h y.name).2 ⟨y, List.mem_cons_self .., rfl⟩; simp at hv
  | x :: l, [], _, _, h => by obtain ⟨v, hv, -⟩ := (h x.name).1 ⟨x, List.mem_cons_self .., rfl⟩; simp at hv
  | x :: l, y :: m, hl, hm, h => by
    have hl' := List.pairwise_cons.1 hl; have hm' := List.pairwise_cons.1 hm
    have e : x.name = y.name := by
      obtain ⟨v, hv, ev⟩ := (h x.name).1 ⟨x, List.mem_cons_self .., rfl⟩
      obtain ⟨u, hu, eu⟩ := (h y.name).2 ⟨y, List.mem_cons_self .., rfl⟩
      rcases List.mem_cons.1 hv with rfl | hv
      · exact ev.symm
      · rcases List.mem_cons.1 hu with rfl | hu
        · exact eu
        · have h1 := hm'.1 v hv; have h2 := hl'.1 u hu
          rw [ev] at h1; rw [eu] at h2
          have := less_trans h1 h2
          rw [less_irr] at this; cases this
    rw [List.map_cons, List.map_cons, e, sorted_names hl'.2 hm'.2 fun t => ?_]
    constructor
    · rintro ⟨v, hv, rfl⟩
      obtain ⟨u, hu, eu⟩ := (h v.name).1 ⟨v, List.mem_cons_of_mem _ hv, rfl⟩
      rcases List.mem_cons.1 hu with rfl | hu
      · exact absurd (e.trans eu) (less_ne (hl'.1 v hv))
      · exact ⟨u, hu, eu⟩
    · rintro ⟨v, hv, rfl⟩
      obtain ⟨u, hu, eu⟩ := (h v.name).2 ⟨v, List.mem_cons_of_mem _ hv, rfl⟩
      rcases List.mem_cons.1 hu with rfl | hu
      · exact absurd (e.symm.trans eu) (less_ne (hm'.1 v hv))
      · exact ⟨u, hu, eu⟩
theorem sameL_iff {l m : List ValR} : sameL l m = true ↔ l.length = m.length ∧ ∀ (i : Nat), i < l.length → (l.getD i val0).name = (m.getD i val0).name ∧ eqE (l.getD i val0).el (m.getD i val0).el := by
  rw [sameL, Bool.and_eq_true, decide_eq_true_eq, List.all_eq_true]
  constructor
  · rintro ⟨h1, h2⟩
    refine ⟨h1, fun i hi => ?_⟩
    have := h2 (i : Int) (mem_upto.2 (by omega))
    rw [Int.toNat_natCast, sameV, Bool.and_eq_true, decide_eq_true_eq, decide_eq_true_eq] at this
    exact this
  · rintro ⟨h1, h2⟩
    refine ⟨h1, fun i hi => ?_⟩
    have hi := mem_upto.1 hi
    have := h2 i.toNat (by omega)
    rw [sameV, decide_eq_true this.1, decide_eq_true this.2]; rfl
theorem below_anti {l m : List ValR} (hl : Sorted l) (hm : Sorted m) (h1 : belowL l m = true) (h2 : belowL m l = true) : sameL l m = true := by
  have hn := sorted_names hl hm fun t => ⟨fun ⟨v, hv, e⟩ => by
      obtain ⟨u, hu, e2, -⟩ := get_is (below_iff.1 h1 v hv).1; exact ⟨u, hu, e2.trans e⟩, fun ⟨v, hv, e⟩ => by
      obtain ⟨u, hu, e2, -⟩ := get_is (below_iff.1 h2 v hv).1; exact ⟨u, hu, e2.trans e⟩⟩
  have hlen : l.length = m.length := by have := congrArg List.length hn; simpa using this
  refine sameL_iff.2 ⟨hlen, fun i hi => ?_⟩
  have e1 : l.getD i val0 = l[i] := by rw [List.getD_eq_getElem?_getD, List.getElem?_eq_getElem hi]; rfl
  have e2 : m.getD i val0 = m[i]'(by omega) := by rw [List.getD_eq_getElem?_getD, List.getElem?_eq_getElem (by omega)]; rfl
  have e3 : l[i].name = (m[i]'(by omega)).name := by
    have := congrArg (fun z : List Tx => z[i]?) hn
    simp only [List.getElem?_map, List.getElem?_eq_getElem hi, List.getElem?_eq_getElem (show i < m.length by omega)] at this
    exact Option.some.inj this
  rw [e1, e2]
  refine ⟨e3, ?_⟩
  have q1 := (below_iff.1 h1 _ (List.getElem_mem hi)).2
  have q2 := (below_iff.1 h2 _ (List.getElem_mem (show i < m.length by omega))).2
  rw [e3, get_mem hm (List.getElem_mem _)] at q1
  rw [← e3, get_mem hl (List.getElem_mem _)] at q2
  exact e_anti q1 q2
theorem same_below {l m : List ValR} (hm : Sorted m) (h : sameL l m = true) : belowL l m = true := by
  have h := sameL_iff.1 h
  refine below_iff.2 fun v hv => ?_
  obtain ⟨i, hi, rfl⟩ := List.getElem_of_mem hv
  have e1 : l.getD i val0 = l[i] := by rw [List.getD_eq_getElem?_getD, List.getElem?_eq_getElem hi]; rfl
  have e2 : m.getD i val0 = m[i]'(by omega) := by rw [List.getD_eq_getElem?_getD, List.getElem?_eq_getElem (by omega)]; rfl
  have h3 := h.2 i hi
  rw [e1, e2] at h3
  rw [h3.1, get_mem hm (List.getElem_mem _)]
  exact ⟨rfl, leqE_eq h3.2⟩
theorem sameL_symm {l m : List ValR} (h : sameL l m = true) : sameL m l = true := by
  have h := sameL_iff.1 h
  exact sameL_iff.2 ⟨h.1.symm, fun i hi => ⟨(h.2 i (by omega)).1.symm, fun j hj => ((h.2 i (by omega)).2 j hj).symm⟩⟩
/-! ### Whole assignments -/
def shOf (s : Sc) (v : VarR) : Sh := s.lats.getD v.lat.toNat ⟨false, []⟩
theorem okV_is {s : Sc} {v : VarR} {e : El} {l : List ValR} (h : okV s v e l = true) : (0 ≤ v.lat ∧ v.lat < s.lats.length) ∧ ((v.kind = 1 ∧ l = [] ∧ fitsS (shOf s v) e = true) ∨ (v.kind = 2 ∧ eqE e el0 ∧ orderedF l = true ∧ ∀ x ∈ l, fitsS (shOf s v) x.el = true)) := by
  rw [okV, Bool.and_eq_true, decide_eq_true_eq] at h
  refine ⟨h.1, ?_⟩
  have h2 := h.2
  split at h2
  · rename_i hk
    rw [Bool.and_eq_true, decide_eq_true_eq] at h2
    exact .inl ⟨hk, List.eq_nil_of_length_eq_zero h2.1, h2.2⟩
  · split at h2
    · rename_i hk
      rw [Bool.and_eq_true, Bool.and_eq_true, decide_eq_true_eq, fitsF, List.all_eq_true] at h2
      exact .inr ⟨hk, h2.1.1, h2.1.2, h2.2⟩
    · cases h2
theorem okV_1 {s : Sc} {v : VarR} {e : El} (hl : 0 ≤ v.lat ∧ v.lat < s.lats.length) (hk : v.kind = 1) (h : fitsS (shOf s v) e = true) : okV s v e [] = true := by
  rw [okV, decide_eq_true hl, if_pos hk]; exact h
theorem okV_2 {s : Sc} {v : VarR} {e : El} {l : List ValR} (hl : 0 ≤ v.lat ∧ v.lat < s.lats.length) (hk : v.kind = 2) (h1 : eqE e el0) (h2 : orderedF l = true) (h3 : ∀ x ∈ l, fitsS (shOf s v) x.el = true) : okV s v e l = true := by
  have h4 : (l.all fun x => fitsS (s.lats.getD v.lat.toNat ⟨false, []⟩) x.el) = true := List.all_eq_true.2 h3
  rw [okV, decide_eq_true hl, if_neg (by omega), if_pos hk, decide_eq_true h1, h2, fitsF, h4]; rfl
theorem okV_sorted {s : Sc} {v : VarR} {e : El} {l : List ValR} (h : okV s v e l = true) : Sorted l := by
  rcases (okV_is h).2 with ⟨-, rfl, -⟩ | ⟨-, -, h2, -⟩
  · exact List.Pairwise.nil
  · exact (ordered_iff.1 h2).2
theorem rightA_iff {s : Sc} {a : As} : rightA s a = true ↔ (a.labels.length = s.vars.length ∧ a.rows.length = s.vars.length) ∧ ∀ i : Nat, i < s.vars.length → okV s (s.vars.getD i var0) (a.labels.getD i el0) (a.rows.getD i []) = true := by
  rw [rightA, Bool.and_eq_true, decide_eq_true_eq, List.all_eq_true]
  refine and_congr_right fun _ => ⟨fun h i hi => ?_, fun h i hi => ?_⟩
  · have := h (i : Int) (mem_upto.2 (by omega)); rw [Int.toNat_natCast] at this; exact this
  · have := mem_upto.1 hi; exact h i.toNat (by omega)
theorem leqA_iff {a b : As} : leqA a b = true ↔ (∀ i : Nat, i < a.labels.length → leqE (a.labels.getD i el0) (b.labels.getD i el0) = true) ∧ ∀ i : Nat, i < a.rows.length → belowL (a.rows.getD i []) (b.rows.getD i []) = true := by
  rw [leqA, Bool.and_eq_true, List.all_eq_true, List.all_eq_true]
  refine and_congr ⟨fun h i hi => ?_, fun h i hi => ?_⟩ ⟨fun h i hi => ?_, fun h i hi => ?_⟩
  · have := h (i : Int) (mem_upto.2 (by omega)); rw [Int.toNat_natCast] at this; exact this
  · have := mem_upto.1 hi; exact h i.toNat (by omega)
  · have := h (i : Int) (mem_upto.2 (by omega)); rw [Int.toNat_natCast] at this; exact this
  · have := mem_upto.1 hi; exact h i.toNat (by omega)
theorem sameA_iff {a b : As} : sameA a b = true ↔ (a.labels.length = b.labels.length ∧ a.rows.length = b.rows.length) ∧ (∀ i : Nat, i < a.labels.length → eqE (a.labels.getD i el0) (b.labels.getD i el0)) ∧ ∀ i : Nat, i < a.rows.length → sameL (a.rows.getD i []) (b.rows.getD i []) = true := by
  rw [sameA, Bool.and_eq_true, Bool.and_eq_true, decide_eq_true_eq, List.all_eq_true, List.all_eq_true, and_assoc]
  refine and_congr_right fun _ => and_congr ⟨fun h i hi => ?_, fun h i hi => ?_⟩ ⟨fun h i hi => ?_, fun h i hi => ?_⟩
  · have := h (i : Int) (mem_upto.2 (by omega)); rw [Int.toNat_natCast, decide_eq_true_eq] at this; exact this
  · have := mem_upto.1 hi; exact decide_eq_true (h i.toNat (by omega))
  · have := h (i : Int) (mem_upto.2 (by omega)); rw [Int.toNat_natCast] at this; exact this
  · have := mem_upto.1 hi; exact h i.toNat (by omega)
theorem gd_some {α : Type} {l : List α} {d : α} {i : Nat} (h : i < l.length) : l[i]? = some (l.getD i d) := by rw [List.getD_eq_getElem?_getD, List.getElem?_eq_getElem h]; rfl
theorem meet_label {a b : As} {i : Nat} (h1 : i < a.labels.length) (h2 : i < b.labels.length) : (meetA a b).labels.getD i el0 = meetE (a.labels.getD i el0) (b.labels.getD i el0) := by
  have h3 : (meetA a b).labels[i]? = some (meetE (a.labels.getD i el0) (b.labels.getD i el0)) := by
    show ((a.labels.zip b.labels).map fun p => meetE p.1 p.2)[i]? = _
    rw [List.getElem?_map, (List.getElem?_zip_eq_some (z := (a.labels.getD i el0, b.labels.getD i el0))).2 ⟨gd_some h1, gd_some h2⟩]; rfl
  rw [List.getD_eq_getElem?_getD, h3]; rfl
theorem meet_row {a b : As} {i : Nat} (h1 : i < a.rows.length) (h2 : i < b.rows.length) : (meetA a b).rows.getD i [] = bothF (a.rows.getD i []) (b.rows.getD i []) := by
  have h3 : (meetA a b).rows[i]? = some (bothF (a.rows.getD i []) (b.rows.getD i [])) := by
    show ((a.rows.zip b.rows).map fun p => bothF p.1 p.2)[i]? = _
    rw [List.getElem?_map, (List.getElem?_zip_eq_some (z := (a.rows.getD i [], b.rows.getD i []))).2 ⟨gd_some h1, gd_some h2⟩]; rfl
  rw [List.getD_eq_getElem?_getD, h3]; rfl
theorem meet_len (a b : As) : (meetA a b).labels.length = min a.labels.length b.labels.length ∧ (meetA a b).rows.length = min a.rows.length b.rows.length := by simp [meetA]
section
variable {s : Sc} {a b c : As} (ha : rightA s a = true) (hb : rightA s b = true)
include ha hb
theorem as_meet : rightA s (meetA a b) = true := by
  have h1 := rightA_iff.1 ha; have h2 := rightA_iff.1 hb; have hm := meet_len a b
  refine rightA_iff.2 ⟨by omega, fun i hi => ?_⟩
  rw [meet_label (by omega) (by omega), meet_row (by omega) (by omega)]
  have q1 := okV_is (h1.2 i hi); have q2 := okV_is (h2.2 i hi)
  rcases q1.2 with ⟨k1, r1, f1⟩ | ⟨k1, e1, o1, f1⟩
  · rcases q2.2 with ⟨k2, r2, f2⟩ | ⟨k2, -⟩
    · rw [r1]; exact okV_1 q1.1 k1 (e_meet f1 f2)
    · omega
  · rcases q2.2 with ⟨k2, -⟩ | ⟨k2, e2, o2, f2⟩
    · omega
    · have hs := (ordered_iff.1 o1)
      refine okV_2 q1.1 k1 (fun j hj => by rw [meetE, e1 j hj]; simp [el0]) (ordered_iff.2 ⟨fun x hx => ?_, both_sorted hs.2⟩) fun x hx => ?_
      · obtain ⟨y, hy, -, rfl⟩ := both_mem.1 hx; exact hs.1 y hy
      · obtain ⟨y, hy, hg, rfl⟩ := both_mem.1 hx
        obtain ⟨u, hu, -, e⟩ := get_is hg
        rw [e]; exact e_meet (f1 y hy) (f2 u hu)
theorem as_down : leqA (meetA a b) a = true ∧ leqA (meetA a b) b = true := by
  have h1 := rightA_iff.1 ha; have h2 := rightA_iff.1 hb; have hm := meet_len a b
  refine ⟨leqA_iff.2 ⟨fun i hi => ?_, fun i hi => ?_⟩, leqA_iff.2 ⟨fun i hi => ?_, fun i hi => ?_⟩⟩
  · rw [meet_label (by omega) (by omega)]; exact (e_down _ _).1
  · rw [meet_row (by omega) (by omega)]; exact below_both1 (okV_sorted (h1.2 i (by omega)))
  · rw [meet_label (by omega) (by omega)]; exact (e_down _ _).2
  · rw [meet_row (by omega) (by omega)]; exact below_both2
theorem as_glb (hc : rightA s c = true) (hca : leqA c a = true) (hcb : leqA c b = true) : leqA c (meetA a b) = true := by
  have h1 := rightA_iff.1 ha; have h2 := rightA_iff.1 hb; have h3 := rightA_iff.1 hc
  have q1 := leqA_iff.1 hca; have q2 := leqA_iff.1 hcb
  refine leqA_iff.2 ⟨fun i hi => ?_, fun i hi => ?_⟩
  · rw [meet_label (by omega) (by omega)]; exact e_glb (q1.1 i hi) (q2.1 i hi)
  · rw [meet_row (by omega) (by omega)]; exact below_glb (okV_sorted (h1.2 i (by omega))) (q1.2 i hi) (q2.2 i hi)
theorem as_trans (hab : leqA a b = true) (hbc : leqA b c = true) : leqA a c = true := by
  have h1 := rightA_iff.1 ha; have h2 := rightA_iff.1 hb
  have q1 := leqA_iff.1 hab; have q2 := leqA_iff.1 hbc
  exact leqA_iff.2 ⟨fun i hi => leqE_trans (q1.1 i hi) (q2.1 i (by omega)), fun i hi => below_trans (q1.2 i hi) (q2.2 i (by omega))⟩
theorem as_anti : (leqA a b && leqA b a) = sameA a b := by
  have h1 := rightA_iff.1 ha; have h2 := rightA_iff.1 hb
  rw [Bool.eq_iff_iff, Bool.and_eq_true]
  constructor
  · rintro ⟨hab, hba⟩
    have q1 := leqA_iff.1 hab; have q2 := leqA_iff.1 hba
    exact sameA_iff.2 ⟨by omega, fun i hi => e_anti (q1.1 i hi) (q2.1 i (by omega)), fun i hi => below_anti (okV_sorted (h1.2 i (by omega))) (okV_sorted (h2.2 i (by omega))) (q1.2 i hi) (q2.2 i (by omega))⟩
  · intro h
    have h := sameA_iff.1 h
    exact ⟨leqA_iff.2 ⟨fun i hi => leqE_eq (h.2.1 i hi), fun i hi => same_below (okV_sorted (h2.2 i (by omega))) (h.2.2 i hi)⟩,
      leqA_iff.2 ⟨fun i hi => leqE_eq fun j hj => (h.2.1 i (by omega) j hj).symm, fun i hi => same_below (okV_sorted (h1.2 i (by omega))) (sameL_symm (h.2.2 i (by omega)))⟩⟩
end
theorem as_least {s : Sc} {a : As} (ha : rightA s a = true) : rightA s (leastA s) = true ∧ leqA (leastA s) a = true := by
  have h1 := rightA_iff.1 ha
  have hg1 : ∀ i : Nat, i < s.vars.length → (leastA s).labels.getD i el0 = botV s (s.vars.getD i var0) := fun i hi => by
    rw [leastA, List.getD_eq_getElem?_getD, List.getElem?_map, List.getElem?_eq_getElem hi, List.getD_eq_getElem?_getD, List.getElem?_eq_getElem hi]; rfl
  have hg2 : ∀ i : Nat, (leastA s).rows.getD i [] = [] := fun i => by
    rw [leastA, List.getD_eq_getElem?_getD, List.getElem?_map]; cases s.vars[i]? <;> rfl
  have hl1 : (leastA s).labels.length = s.vars.length := by simp [leastA]
  have hl2 : (leastA s).rows.length = s.vars.length := by simp [leastA]
  constructor
  · refine rightA_iff.2 ⟨⟨hl1, hl2⟩, fun i hi => ?_⟩
    rw [hg1 i hi, hg2 i]
    have q := okV_is (h1.2 i hi)
    rcases q.2 with ⟨k, -, f⟩ | ⟨k, -⟩
    · rw [botV, if_pos ⟨k, q.1⟩]; exact okV_1 q.1 k (e_bot (fits_spec f).1).1
    · rw [botV, if_neg (fun h => by omega)]
      exact okV_2 q.1 k (fun _ _ => rfl) (ordered_iff.2 ⟨fun x hx => by simp at hx, List.Pairwise.nil⟩) fun x hx => by simp at hx
  · refine leqA_iff.2 ⟨fun i hi => ?_, fun i hi => ?_⟩
    · rw [hg1 i (by omega)]
      have q := okV_is (h1.2 i (by omega))
      rcases q.2 with ⟨k, -, f⟩ | ⟨k, -⟩
      · rw [botV, if_pos ⟨k, q.1⟩]; exact (e_bot (fits_spec f).1).2 _ f
      · rw [botV, if_neg (fun h => by omega)]; exact leq_iff.2 fun j _ => zero_sub _
    · rw [hg2 i]; rfl
/-! ### Texts -/
def joinF (b : Tx) : List Tx → Tx
  | [] => tx0
  | x :: l => l.foldl (fun a y => a ++ b ++ y) x
def fieldT (s : Sh) (v : ValR) : Tx := v.name ++ tc 61 ++ spellF s v.el
def rowT (s : Sh) (l : List ValR) : Tx := tc 91 ++ joinF (tc 44) (l.map (fieldT s)) ++ tc 93
def varT (s : Sc) (v : VarR) (e : El) (l : List ValR) : Tx := v.name ++ tc 61 ++ (if v.kind = 1 then spellF (shOf s v) e else rowT (shOf s v) l)
def varsT (s : Sc) (a : As) (k : Int) : List Tx := (upto k).map fun i => varT s (s.vars.getD i.toNat var0) (a.labels.getD i.toNat el0) (a.rows.getD i.toNat [])
def textA (s : Sc) (a : As) : Tx := if rightA s a then joinF (tc 32) (varsT s a s.vars.length) else tx0
theorem join_44 (l : List Tx) : joinF (tc 44) l = commasF l := by cases l <;> rfl
def comS (l : List By) : By := l.flatMap fun y => 32 :: y
theorem join_bl32 (l : List Tx) : bl (joinF (tc 32) l) = match l.map bl with
    | [] => []
    | x :: l => x ++ comS l := by
  cases l with
  | nil => rfl
  | cons x l =>
    have key : ∀ (l : List Tx) (a : Tx), bl (l.foldl (fun a y => a ++ tc 32 ++ y) a) = bl a ++ comS (l.map bl) := fun l => by
      induction l with
      | nil => intro a; simp [comS]
      | cons y l ih => intro a; rw [List.foldl_cons, ih, bl_app, bl_app]; simp [comS, bl_tc]
    exact key l x
theorem field_cut {s : Sh} {u v : ValR} (hu : nameR u.name = true ∧ fitsS s u.el = true) (hv : nameR v.name = true ∧ fitsS s v.el = true) {x y : By} (hx : Ds x) (hy : Ds y) (h : bl (fieldT s u) ++ x = bl (fieldT s v) ++ y) : (u.name = v.name ∧ eqE u.el v.el) ∧ x = y := by
  simp only [fieldT, spellF, bl_app, bl_tc, List.append_assoc, List.cons_append, List.nil_append] at h
  obtain ⟨e1, h2⟩ := name_cut hu.1 hv.1 (Ds.cons (by decide) _) (Ds.cons (by decide) _) h
  rw [List.cons.injEq, List.cons.injEq] at h2
  obtain ⟨e2, h3⟩ := spell_sep hu.2 hv.2 hx hy h2.2.2
  exact ⟨⟨e1, e2⟩, h3⟩
theorem field_first {s : Sh} {u : ValR} (hu : nameR u.name = true) : ∃ b r, bl (fieldT s u) = b :: r ∧ goU b = true := by
  obtain ⟨h1, b, r, e⟩ := name_bytes hu
  refine ⟨b, r ++ 61 :: bl (spellF s u.el), ?_, h1 b (by rw [e]; exact List.mem_cons_self ..)⟩
  rw [fieldT, bl_app, bl_app, bl_tc, e]; simp
theorem fields_same {s : Sh} : ∀ {l m : List ValR}, (∀ v ∈ l, nameR v.name = true ∧ fitsS s v.el = true) → (∀ v ∈ m, nameR v.name = true ∧ fitsS s v.el = true) → (l.map fun v => bl (fieldT s v)) = (m.map fun v => bl (fieldT s v)) → sameL l m = true
  | [], [], _, _, _ => rfl
  | [], _ :: _, _, _, h => by cases h
  | _ :: _, [], _, _, h => by cases h
  | u :: l, v :: m, hl, hm, h => by
    rw [List.map_cons, List.map_cons, List.cons.injEq] at h
    have h1 := field_cut (hl u (List.mem_cons_self ..)) (hm v (List.mem_cons_self ..)) Ds.nil Ds.nil (by rw [h.1])
    have h2 := sameL_iff.1 (fields_same (fun x hx => hl x (List.mem_cons_of_mem _ hx)) (fun x hx => hm x (List.mem_cons_of_mem _ hx)) h.2)
    refine sameL_iff.2 ⟨by simp [h2.1], fun i hi => ?_⟩
    match i with
    | 0 => exact h1.1
    | i + 1 => exact h2.2 i (by simpa using hi)
theorem row_cut {s : Sh} {l m : List ValR} (hl : ∀ v ∈ l, nameR v.name = true ∧ fitsS s v.el = true) (hm : ∀ v ∈ m, nameR v.name = true ∧ fitsS s v.el = true) {x y : By} (h : bl (rowT s l) ++ x = bl (rowT s m) ++ y) : sameL l m = true ∧ x = y := by
  simp only [rowT, join_44, bl_app, bl_tc, commas_bl, List.append_assoc, List.cons_append, List.nil_append, List.cons.injEq, true_and, List.map_map] at h
  obtain ⟨h1, h2⟩ := com_cut (Q := fun u => ∃ v : ValR, (nameR v.name = true ∧ fitsS s v.el = true) ∧ u = bl (fieldT s v)) (fun u v ⟨a, ha, ea⟩ ⟨b, hb, eb⟩ x y hx hy e => by
      subst ea eb
      obtain ⟨h1, h2⟩ := field_cut ha hb hx hy e
      refine ⟨?_, h2⟩
      rw [fieldT, fieldT, h1.1, spellF, spellF, node_congr ha.2 hb.2 h1.2]) (d := 93) (by decide) (by decide) (fun u ⟨a, ha, ea⟩ => by
        obtain ⟨b, r, e, hb⟩ := field_first (s := s) ha.1
        exact ⟨b, r, ea.trans e, hb⟩) (l.map (bl ∘ fieldT s)) (m.map (bl ∘ fieldT s))
    (fun u hu => by obtain ⟨v, hv, rfl⟩ := List.mem_map.1 hu; exact ⟨v, hl v hv, rfl⟩) (fun u hu => by obtain ⟨v, hv, rfl⟩ := List.mem_map.1 hu; exact ⟨v, hm v hv, rfl⟩) x y h
  exact ⟨fields_same hl hm h1, h2⟩
theorem okV_names {s : Sc} {v : VarR} {e : El} {l : List ValR} (h : okV s v e l = true) : ∀ x ∈ l, nameR x.name = true ∧ fitsS (shOf s v) x.el = true := by
  rcases (okV_is h).2 with ⟨-, rfl, -⟩ | ⟨-, -, h2, h3⟩
  · exact fun x hx => by simp at hx
  · exact fun x hx => ⟨(ordered_iff.1 h2).1 x hx, h3 x hx⟩
theorem var_cut {s : Sc} {v : VarR} {e e' : El} {l l' : List ValR} (h1 : okV s v e l = true) (h2 : okV s v e' l' = true) {x y : By} (hx : Ds x) (hy : Ds y) (h : bl (varT s v e l) ++ x = bl (varT s v e' l') ++ y) : (eqE e e' ∧ sameL l l' = true) ∧ x = y := by
  rw [varT, varT, bl_app (v.name ++ tc 61), bl_app (v.name ++ tc 61), List.append_assoc, List.append_assoc] at h
  have h := List.append_cancel_left h
  have q1 := okV_is h1; have q2 := okV_is h2
  rcases q1.2 with ⟨k, r1, f1⟩ | ⟨k, e1, o1, f1⟩
  · rcases q2.2 with ⟨k2, r2, f2⟩ | ⟨k2, -⟩
    · rw [if_pos k, if_pos k, spellF, spellF, bl_app, bl_app, List.append_assoc, List.append_assoc] at h
      obtain ⟨e3, h3⟩ := spell_sep f1 f2 hx hy (List.append_cancel_left h)
      rw [r1, r2]; exact ⟨⟨e3, rfl⟩, h3⟩
    · omega
  · rcases q2.2 with ⟨k2, -⟩ | ⟨k2, e2, o2, f2⟩
    · omega
    · rw [if_neg (by omega), if_neg (by omega)] at h
      obtain ⟨h3, h4⟩ := row_cut (okV_names h1) (okV_names h2) h
      exact ⟨⟨fun j hj => by rw [e1 j hj, e2 j hj], h3⟩, h4⟩
def PT (s : Sc) (p : VarR × El × List ValR) : By := bl (varT s p.1 p.2.1 p.2.2)
theorem vars_cut {s : Sc} : ∀ (ps qs : List (VarR × El × List ValR)), ps.length = qs.length → (∀ (i : Nat) p q, ps[i]? = some p → qs[i]? = some q → p.1 = q.1 ∧ okV s p.1 p.2.1 p.2.2 = true ∧ okV s q.1 q.2.1 q.2.2 = true) → comS (ps.map (PT s)) = comS (qs.map (PT s)) →
    ∀ (i : Nat) p q, ps[i]? = some p → qs[i]? = some q → eqE p.2.1 q.2.1 ∧ sameL p.2.2 q.2.2 = true
  | [], _, _, _, _, i, p, q, hp, _ => by simp at hp
  | p :: ps, [], hl, _, _, _, _, _, _, _ => by simp at hl
  | p :: ps, q :: qs, hl, ho, h, i, p', q', hp, hq => by
    obtain ⟨e, o1, o2⟩ := ho 0 p q rfl rfl
    have h1 : bl (varT s p.1 p.2.1 p.2.2) ++ comS (ps.map (PT s)) = bl (varT s q.1 q.2.1 q.2.2) ++ comS (qs.map (PT s)) := by
      have : 32 :: (PT s p ++ comS (ps.map (PT s))) = 32 :: (PT s q ++ comS (qs.map (PT s))) := by simpa [comS] using h
      exact (List.cons.inj this).2
    have hds : ∀ l : List By, Ds (comS l) := fun l => by
      cases l with
      | nil => exact Ds.nil
      | cons a l => exact Ds.cons (by decide) _
    rw [← e] at h1 o2
    obtain ⟨h2, h3⟩ := var_cut o1 o2 (hds _) (hds _) h1
    match i with
    | 0 => simp at hp hq; subst hp hq; exact h2
    | i + 1 => exact vars_cut ps qs (by simpa using hl) (fun j a b ha hb => ho (j + 1) a b (by simpa using ha) (by simpa using hb)) h3 i p' q' (by simpa using hp) (by simpa using hq)
def trip (s : Sc) (a : As) : List (VarR × El × List ValR) := (upto s.vars.length).map fun i => (s.vars.getD i.toNat var0, a.labels.getD i.toNat el0, a.rows.getD i.toNat [])
theorem trip_get {s : Sc} {a : As} {i : Nat} (h : i < s.vars.length) : (trip s a)[i]? = some (s.vars.getD i var0, a.labels.getD i el0, a.rows.getD i []) := by
  rw [trip, upto, List.map_map, List.getElem?_map, List.getElem?_range (by omega)]; rfl
theorem trip_len (s : Sc) (a : As) : (trip s a).length = s.vars.length := by rw [trip, List.length_map, upto_len]; omega
theorem trip_text (s : Sc) (a : As) : (varsT s a s.vars.length).map bl = (trip s a).map (PT s) := by rw [varsT, trip, List.map_map, List.map_map]; rfl
theorem text_inj {s : Sc} {a b : As} (ha : rightA s a = true) (hb : rightA s b = true) (h : textA s a = textA s b) : sameA a b = true := by
  have h1 := rightA_iff.1 ha; have h2 := rightA_iff.1 hb
  rw [textA, textA, if_pos ha, if_pos hb] at h
  have h3 := congrArg bl h
  rw [join_bl32, join_bl32, trip_text, trip_text] at h3
  have h4 : comS ((trip s a).map (PT s)) = comS ((trip s b).map (PT s)) := by
    have l1 := trip_len s a; have l2 := trip_len s b
    cases ca : (trip s a).map (PT s) with
    | nil =>
      cases cb : (trip s b).map (PT s) with
      | nil => rfl
      | cons y l => have e1 := congrArg List.length ca; have e2 := congrArg List.length cb; simp at e1 e2; rw [e1] at l1; rw [l2, ← l1] at e2; simp at e2
    | cons x l =>
      cases cb : (trip s b).map (PT s) with
      | nil => have e1 := congrArg List.length ca; have e2 := congrArg List.length cb; simp at e1 e2; rw [e2] at l2; rw [l1, ← l2] at e1; simp at e1
      | cons y m =>
        rw [ca, cb] at h3
        show (32 :: x ++ comS l) = (32 :: y ++ comS m)
        simp only [List.cons_append]; rw [show x ++ comS l = y ++ comS m from h3]
  have key := vars_cut (trip s a) (trip s b) (by rw [trip_len, trip_len]) (fun i p q hp hq => by
    have hi : i < s.vars.length := by have := (List.getElem?_eq_some_iff.1 hp).1; rw [trip_len] at this; exact this
    rw [trip_get hi] at hp hq
    cases hp; cases hq
    exact ⟨rfl, h1.2 i hi, h2.2 i hi⟩) h4
  exact sameA_iff.2 ⟨by omega, fun i hi => (key i _ _ (trip_get (by omega)) (trip_get (by omega))).1, fun i hi => (key i _ _ (trip_get (by omega)) (trip_get (by omega))).2⟩
theorem rowT_congr {s : Sh} {l m : List ValR} (hl : ∀ v ∈ l, fitsS s v.el = true) (hm : ∀ v ∈ m, fitsS s v.el = true) (h : sameL l m = true) : rowT s l = rowT s m := by
  have h := sameL_iff.1 h
  have : l.map (fieldT s) = m.map (fieldT s) := List.ext_getElem? fun i => by
    rw [List.getElem?_map, List.getElem?_map]
    by_cases hi : i < l.length
    · have h1 := h.2 i hi
      rw [List.getD_eq_getElem?_getD, List.getD_eq_getElem?_getD, List.getElem?_eq_getElem hi, List.getElem?_eq_getElem (show i < m.length by omega)] at h1
      rw [List.getElem?_eq_getElem hi, List.getElem?_eq_getElem (show i < m.length by omega)]
      simp only [Option.map_some, Option.getD_some] at h1 ⊢
      rw [fieldT, fieldT, h1.1, spellF, spellF, node_congr (hl _ (List.getElem_mem _)) (hm _ (List.getElem_mem _)) h1.2]
    · rw [List.getElem?_eq_none (by omega), List.getElem?_eq_none (by omega)]
  rw [rowT, rowT, this]
theorem text_eq_same {s : Sc} {a b : As} (ha : rightA s a = true) (hb : rightA s b = true) : decide (textA s a = textA s b) = sameA a b := by
  rw [Bool.eq_iff_iff, decide_eq_true_eq]
  refine ⟨text_inj ha hb, fun h => ?_⟩
  have h1 := rightA_iff.1 ha; have h2 := rightA_iff.1 hb
  have h := sameA_iff.1 h
  rw [textA, textA, if_pos ha, if_pos hb]
  have : varsT s a s.vars.length = varsT s b s.vars.length := List.map_congr_left fun i hi => by
    have hi := mem_upto.1 hi
    have q1 := okV_is (h1.2 i.toNat (by omega)); have q2 := okV_is (h2.2 i.toNat (by omega))
    rw [varT, varT]
    rcases q1.2 with ⟨k, r1, f1⟩ | ⟨k, e1, o1, f1⟩
    · rcases q2.2 with ⟨k2, r2, f2⟩ | ⟨k2, -⟩
      · rw [if_pos k, if_pos k, spellF, spellF, node_congr f1 f2 (h.2.1 i.toNat (by omega))]
      · omega
    · rcases q2.2 with ⟨k2, -⟩ | ⟨k2, e2, o2, f2⟩
      · omega
      · rw [if_neg (by omega), if_neg (by omega), rowT_congr f1 f2 (h.2.2 i.toNat (by omega))]
  rw [this]
end Go.Proofs.YtieckcbckgalhaaGreatDoor.E
