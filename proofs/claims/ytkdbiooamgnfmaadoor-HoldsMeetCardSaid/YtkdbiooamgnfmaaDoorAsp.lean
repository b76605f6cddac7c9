/-
  Assignments form a lattice: least, meet, order; and their texts tell them apart.
-/
import Derived.Test.YtkdbiooamgnfmaaDoorAsn
namespace Go.Proofs.YtkdbiooamgnfmaaDoor.E
open Go Go.RowKit Go.Proofs.YtkdbiooamgnfmaaDoor.M
set_option linter.unusedVariables false
set_option linter.unusedSimpArgs false
def Sorted (l : List ValR) : Prop := l.Pairwise fun a b => lessT a.name b.name = true
theorem ordered_iff {l : List ValR} : orderedF l = true ↔ (∀ x ∈ l, nameR x.name = true) ∧ Sorted l := by
  have hg : ∀ (i : Nat) (hi : i < l.length), l.getD i val0 = l[i] := fun i hi => by rw [List.getD_eq_getElem?_getD, List.getElem?_eq_getElem hi]; rfl
  constructor
  · intro h
    rw [orderedF, List.all_eq_true] at h
    have key : ∀ i : Nat, (hi : i < l.length) → nameR l[i].name = true ∧ (0 < i → lessT (l.getD (i - 1) val0).name l[i].name = true) := fun i hi => by
      have h1 := h (i : Int) (mem_upto.2 (by omega))
      rw [Bool.and_eq_true, Bool.or_eq_true, decide_eq_true_eq, Int.toNat_natCast, hg i hi] at h1
      refine ⟨h1.1, fun h0 => ?_⟩
      rcases h1.2 with h2 | h2
      · omega
      · rw [show ((i : Int) - 1).toNat = i - 1 by omega] at h2; exact h2
    refine ⟨fun x hx => ?_, ?_⟩
    · obtain ⟨i, hi, rfl⟩ := List.getElem_of_mem hx; exact (key i hi).1
    · rw [Sorted, List.pairwise_iff_getElem]
      have step : ∀ (d i : Nat) (hi : i < l.length) (hj : i + d + 1 < l.length), lessT l[i].name l[i + d + 1].name = true := fun d => by
        induction d with
        | zero =>
          intro i hi hj
          have := (key (i + 0 + 1) hj).2 (by omega)
          rw [show i + 0 + 1 - 1 = i by omega, hg i hi] at this; exact this
        | succ d ih =>
          intro i hi hj
          have h1 := ih i hi (by omega)
          have h2 := (key (i + (d + 1) + 1) hj).2 (by omega)
          rw [show i + (d + 1) + 1 - 1 = i + d + 1 by omega, hg (i + d + 1) (by omega)] at h2
          exact less_trans h1 h2
      intro i j hi hj hij
      have := step (j - i - 1) i hi (by omega)
      have e : i + (j - i - 1) + 1 = j := by omega
      simp only [e] at this; exact this
  · rintro ⟨h1, h2⟩
    rw [orderedF, List.all_eq_true]
    intro i hi
    have hi := mem_upto.1 hi
    have h3 : i.toNat < l.length := by omega
    rw [hg _ h3, h1 _ (List.getElem_mem h3), Bool.true_and, Bool.or_eq_true, decide_eq_true_eq]
    by_cases h0 : i ≤ 0
    · exact .inl h0
    · have h4 : (i - 1).toNat < l.length := by omega
      rw [hg _ h4]
      exact .inr (List.pairwise_iff_getElem.1 h2 _ _ h4 h3 (by omega))
theorem get_mem {l : List ValR} (h : Sorted l) {v : ValR} (hv : v ∈ l) : getF l v.name = (v.el, true) := by
  obtain ⟨i, hi, rfl⟩ := List.getElem_of_mem hv
  have hg : ∀ (i : Nat) (hi : i < l.length), l.getD i val0 = l[i] := fun i hi => by rw [List.getD_eq_getElem?_getD, List.getElem?_eq_getElem hi]; rfl
  have h1 : vfind l l[i].name = (i : Int) := find_yes (by omega) (by omega) (decide_eq_true (by rw [Int.toNat_natCast, hg i hi])) fun j j0 j1 => decide_eq_false (by
    rw [hg j.toNat (by omega)]
    exact less_ne (List.pairwise_iff_getElem.1 h _ _ (by omega) hi (by omega)))
  rw [getF, h1, if_neg (by omega), Int.toNat_natCast, hg i hi]
theorem get_is {l : List ValR} {f : Tx} (h : (getF l f).2 = true) : ∃ v ∈ l, v.name = f ∧ (getF l f).1 = v.el := by
  by_cases hf : vfind l f < 0
  · rw [get_no hf] at h; cases h
  · have h1 := vfind_in hf
    exact ⟨_, List.mem_of_getElem? (getD_at (d := val0) h1.1 h1.2), vfind_name hf, by rw [get_yes hf]⟩
theorem both_mem {l m : List ValR} {v : ValR} : v ∈ bothF l m ↔ ∃ x ∈ l, (getF m x.name).2 = true ∧ v = ⟨x.name, meetE x.el (getF m x.name).1⟩ := by
  rw [bothF, List.mem_filterMap]
  constructor
  · rintro ⟨x, hx, h⟩
    split at h
    · rename_i hg; exact ⟨x, hx, hg, (Option.some.inj h).symm⟩
    · cases h
  · rintro ⟨x, hx, hg, rfl⟩
    exact ⟨x, hx, by rw [if_pos hg]⟩
theorem both_sorted {l m : List ValR} (h : Sorted l) : Sorted (bothF l m) := by
  rw [Sorted, bothF, List.pairwise_filterMap]
  exact h.imp fun {a b} hab u hu v hv => by
    split at hu
    · split at hv
      · rw [← Option.some.inj hu, ← Option.some.inj hv]; exact hab
      · cases hv
    · cases hu
theorem below_iff {l m : List ValR} : belowL l m = true ↔ ∀ v ∈ l, (getF m v.name).2 = true ∧ leqE v.el (getF m v.name).1 = true := by
  rw [belowL, List.all_eq_true]
  exact forall_congr' fun v => forall_congr' fun _ => by rw [Bool.and_eq_true]
theorem leqE_refl (e : El) : leqE e e = true := leq_iff.2 fun i _ => sub_refl _
theorem leqE_trans {a b c : El} (h : leqE a b = true) (h' : leqE b c = true) : leqE a c = true := leq_iff.2 fun i hi => sub_trans (leq_iff.1 h i hi) (leq_iff.1 h' i hi)
theorem leqE_eq {a b : El} (h : eqE a b) : leqE a b = true := leq_iff.2 fun i hi => by rw [h i hi]; exact sub_refl _
theorem below_both1 {l m : List ValR} (h : Sorted l) : belowL (bothF l m) l = true := below_iff.2 fun v hv => by
  obtain ⟨x, hx, hg, rfl⟩ := both_mem.1 hv
  rw [show (⟨x.name, meetE x.el (getF m x.name).1⟩ : ValR).name = x.name from rfl, get_mem h hx]
  exact ⟨rfl, (e_down _ _).1⟩
theorem below_both2 {l m : List ValR} : belowL (bothF l m) m = true := below_iff.2 fun v hv => by
  obtain ⟨x, hx, hg, rfl⟩ := both_mem.1 hv
  exact ⟨hg, (e_down _ _).2⟩
theorem sorted_names : ∀ {l m : List ValR}, Sorted l → Sorted m → (∀ t, (∃ v ∈ l, v.name = t) ↔ ∃ v ∈ m, v.name = t) → l.map ValR.name = m.map ValR.name
  | [], [], _, _, _ => rfl
  | [], y :: m, _, _, h => by obtain ⟨v, hv, -⟩ := (h y.name).2 ⟨y, List.mem_cons_self .., rfl⟩; simp at hv
  | x :: l, [], _, _, h => by obtain ⟨v, hv, -⟩ := (h x.name).1 ⟨x, List.mem_cons_self .., rfl⟩; simp at hv
  | x :: l, y :: m, hl, hm, h => by
    have hl' := List.pairwise_cons.1 hl; have hm' := List.pairwise_cons.1 hm
    have e : x.name = y.name := by
      obtain ⟨v, hv, ev⟩ := (h x.name).1 ⟨x, List.mem_cons_self .., rfl⟩
      obtain ⟨u, hu, eu⟩ := (h y.name).2 ⟨y, List.mem_cons_self .., rfl⟩
      rcases List.mem_cons.1 hv with rfl | hv
      · exact ev.symm
      · rcases List.mem_cons.1 hu with rfl | hu
        · exact eu
        · have h1 := hm'.1 v hv; have h2 := hl'.1 u hu
          rw [ev] at h1; rw [eu] at h2
          have := less_trans h1 h2
          rw [less_irr] at this; cases this
    rw [List.map_cons, List.map_cons, e, sorted_names hl'.2 hm'.2 fun t => ?_]
    constructor
    · rintro ⟨v, hv, rfl⟩
      obtain ⟨u, hu, eu⟩ := (h v.name).1 ⟨v, List.mem_cons_of_mem _ hv, rfl⟩
      rcases List.mem_cons.1 hu with rfl | hu
      · exact absurd (e.trans eu) (less_ne (hl'.1 v hv))
      · exact ⟨u, hu, eu⟩
    · rintro ⟨v, hv, rfl⟩
      obtain ⟨u, hu, eu⟩ := (h v.name).2 ⟨v, List.mem_cons_of_mem _ hv, rfl⟩
      rcases List.mem_cons.1 hu with rfl | hu
      · exact absurd (e.symm.trans eu) (less_ne (hm'.1 v hv))
      · exact ⟨u, hu, eu⟩
theorem sameL_iff {l m : List ValR} : sameL l m = true ↔ l.length = m.length ∧ ∀ (i : Nat), i < l.length → (l.getD i val0).name = (m.getD i val0).name ∧ eqE (l.getD i val0).el (m.getD i val0).el := by
  rw [sameL, Bool.and_eq_true, decide_eq_true_eq, List.all_eq_true]
  constructor
  · rintro ⟨h1, h2⟩
    refine ⟨h1, fun i hi => ?_⟩
    have := h2 (i : Int) (mem_upto.2 (by omega))
    rw [Int.toNat_natCast, sameV, Bool.and_eq_true, decide_eq_true_eq, decide_eq_true_eq] at this
    exact this
  · rintro ⟨h1, h2⟩
    refine ⟨h1, fun i hi => ?_⟩
    have hi := mem_upto.1 hi
    have := h2 i.toNat (by omega)
    rw [sameV, decide_eq_true this.1, decide_eq_true this.2]; rfl
theorem below_anti {l m : List ValR} (hl : Sorted l) (hm : Sorted m) (h1 : belowL l m = true) (h2 : belowL m l = true) : sameL l m = true := by
  have hn := sorted_names hl hm fun t => ⟨fun ⟨v, hv, e⟩ => by
      obtain ⟨u, hu, e2, -⟩ := get_is (below_iff.1 h1 v hv).1; exact ⟨u, hu, e2.trans e⟩, fun ⟨v, hv, e⟩ => by
      obtain ⟨u, hu, e2, -⟩ := get_is (below_iff.1 h2 v hv).1; exact ⟨u, hu, e2.trans e⟩⟩
  have hlen : l.length = m.length := by have := congrArg List.length hn; simpa using this
  refine sameL_iff.2 ⟨hlen, fun i hi => ?_⟩
  have e1 : l.getD i val0 = l[i] := by rw [List.getD_eq_getElem?_getD, List.getElem?_eq_getElem hi]; rfl
  have e2 : m.getD i val0 = m[i]'(by omega) := by rw [List.getD_eq_getElem?_getD, List.getElem?_eq_getElem (by omega)]; rfl
  have e3 : l[i].name = (m[i]'(by omega)).name := by
    have := congrArg (fun z : List Tx => z[i]?) hn
    simp only [List.getElem?_map, List.getElem?_eq_getElem hi, List.getElem?_eq_getElem (show i < m.length by omega)] at this
    exact Option.some.inj this
  rw [e1, e2]
  refine ⟨e3, ?_⟩
  have q1 := (below_iff.1 h1 _ (List.getElem_mem hi)).2
  have q2 := (below_iff.1 h2 _ (List.getElem_mem (show i < m.length by omega))).2
  rw [e3, get_mem hm (List.getElem_mem _)] at q1
  rw [← e3, get_mem hl (List.getElem_mem _)] at q2
  exact e_anti q1 q2
theorem sameL_symm {l m : List ValR} (h : sameL l m = true) : sameL m l = true := by
  have h := sameL_iff.1 h
  exact sameL_iff.2 ⟨h.1.symm, fun i hi => ⟨(h.2 i (by omega)).1.symm, fun j hj => ((h.2 i (by omega)).2 j hj).symm⟩⟩
/-! ### Whole assignments -/
def shOf (s : Sc) (v : VarR) : Sh := s.lats.getD v.lat.toNat ⟨false, []⟩
theorem okV_is {s : Sc} {v : VarR} {e : El} {l : List ValR} (h : okV s v e l = true) : (0 ≤ v.lat ∧ v.lat < s.lats.length) ∧ ((v.kind = 1 ∧ l = [] ∧ fitsS (shOf s v) e = true) ∨ (v.kind = 2 ∧ eqE e el0 ∧ orderedF l = true ∧ ∀ x ∈ l, fitsS (shOf s v) x.el = true)) := by
  rw [okV, Bool.and_eq_true, decide_eq_true_eq] at h
  refine ⟨h.1, ?_⟩
  have h2 := h.2
  split at h2
  · rename_i hk
    rw [Bool.and_eq_true, decide_eq_true_eq] at h2
    exact .inl ⟨hk, List.eq_nil_of_length_eq_zero h2.1, h2.2⟩
  · split at h2
    · rename_i hk
      rw [Bool.and_eq_true, Bool.and_eq_true, decide_eq_true_eq, fitsF, List.all_eq_true] at h2
      exact .inr ⟨hk, h2.1.1, h2.1.2, h2.2⟩
    · cases h2
theorem okV_1 {s : Sc} {v : VarR} {e : El} (hl : 0 ≤ v.lat ∧ v.lat < s.lats.length) (hk : v.kind = 1) (h : fitsS (shOf s v) e = true) : okV s v e [] = true := by
  rw [okV, decide_eq_true hl, if_pos hk]; exact h
theorem okV_2 {s : Sc} {v : VarR} {e : El} {l : List ValR} (hl : 0 ≤ v.lat ∧ v.lat < s.lats.length) (hk : v.kind = 2) (h1 : eqE e el0) (h2 : orderedF l = true) (h3 : ∀ x ∈ l, fitsS (shOf s v) x.el = true) : okV s v e l = true := by
  have h4 : (l.all fun x => fitsS (s.lats.getD v.lat.toNat ⟨false, []⟩) x.el) = true := List.all_eq_true.2 h3
  rw [okV, decide_eq_true hl, if_neg (by omega), if_pos hk, decide_eq_true h1, h2, fitsF, h4]; rfl
theorem okV_sorted {s : Sc} {v : VarR} {e : El} {l : List ValR} (h : okV s v e l = true) : Sorted l := by
  rcases (okV_is h).2 with ⟨-, rfl, -⟩ | ⟨-, -, h2, -⟩
  · exact List.Pairwise.nil
  · exact (ordered_iff.1 h2).2
theorem rightA_iff {s : Sc} {a : As} : rightA s a = true ↔ (a.labels.length = s.vars.length ∧ a.rows.length = s.vars.length) ∧ ∀ i : Nat, i < s.vars.length → okV s (s.vars.getD i var0) (a.labels.getD i el0) (a.rows.getD i []) = true := by
  rw [rightA, Bool.and_eq_true, decide_eq_true_eq, List.all_eq_true]
  refine and_congr_right fun _ => ⟨fun h i hi => ?_, fun h i hi => ?_⟩
  · have := h (i : Int) (mem_upto.2 (by omega)); rw [Int.toNat_natCast] at this; exact this
  · have := mem_upto.1 hi; exact h i.toNat (by omega)
theorem leqA_iff {a b : As} : leqA a b = true ↔ (∀ i : Nat, i < a.labels.length → leqE (a.labels.getD i el0) (b.labels.getD i el0) = true) ∧ ∀ i : Nat, i < a.rows.length → belowL (a.rows.getD i []) (b.rows.getD i []) = true := by
  rw [leqA, Bool.and_eq_true, List.all_eq_true, List.all_eq_true]
  refine and_congr ⟨fun h i hi => ?_, fun h i hi => ?_⟩ ⟨fun h i hi => ?_, fun h i hi => ?_⟩
  · have := h (i : Int) (mem_upto.2 (by omega)); rw [Int.toNat_natCast] at this; exact this
  · have := mem_upto.1 hi; exact h i.toNat (by omega)
  · have := h (i : Int) (mem_upto.2 (by omega)); rw [Int.toNat_natCast] at this; exact this
  · have := mem_upto.1 hi; exact h i.toNat (by omega)
theorem gd_some {α : Type} {l : List α} {d : α} {i : Nat} (h : i < l.length) : l[i]? = some (l.getD i d) := by rw [List.getD_eq_getElem?_getD, List.getElem?_eq_getElem h]; rfl
theorem meet_label {a b : As} {i : Nat} (h1 : i < a.labels.length) (h2 : i < b.labels.length) : (meetA a b).labels.getD i el0 = meetE (a.labels.getD i el0) (b.labels.getD i el0) := by
  have h3 : (meetA a b).labels[i]? = some (meetE (a.labels.getD i el0) (b.labels.getD i el0)) := by
    show ((a.labels.zip b.labels).map fun p => meetE p.1 p.2)[i]? = _
    rw [List.getElem?_map, (List.getElem?_zip_eq_some (z := (a.labels.getD i el0, b.labels.getD i el0))).2 ⟨gd_some h1, gd_some h2⟩]; rfl
  rw [List.getD_eq_getElem?_getD, h3]; rfl
theorem meet_row {a b : As} {i : Nat} (h1 : i < a.rows.length) (h2 : i < b.rows.length) : (meetA a b).rows.getD i [] = bothF (a.rows.getD i []) (b.rows.getD i []) := by
  have h3 : (meetA a b).rows[i]? = some (bothF (a.rows.getD i []) (b.rows.getD i [])) := by
    show ((a.rows.zip b.rows).map fun p => bothF p.1 p.2)[i]? = _
    rw [List.getElem?_map, (List.getElem?_zip_eq_some (z := (a.rows.getD i [], b.rows.getD i []))).2 ⟨gd_some h1, gd_some h2⟩]; rfl
  rw [List.getD_eq_getElem?_getD, h3]; rfl
theorem meet_len (a b : As) : (meetA a b).labels.length = min a.labels.length b.labels.length ∧ (meetA a b).rows.length = min a.rows.length b.rows.length := by simp [meetA]
section
variable {s : Sc} {a b c : As} (ha : rightA s a = true) (hb : rightA s b = true)
include ha hb
theorem as_meet : rightA s (meetA a b) = true := by
  have h1 := rightA_iff.1 ha; have h2 := rightA_iff.1 hb; have hm := meet_len a b
  refine rightA_iff.2 ⟨by omega, fun i hi => ?_⟩
  rw [meet_label (by omega) (by omega), meet_row (by omega) (by omega)]
  have q1 := okV_is (h1.2 i hi); have q2 := okV_is (h2.2 i hi)
  rcases q1.2 with ⟨k1, r1, f1⟩ | ⟨k1, e1, o1, f1⟩
  · rcases q2.2 with ⟨k2, r2, f2⟩ | ⟨k2, -⟩
    · rw [r1]; exact okV_1 q1.1 k1 (e_meet f1 f2)
    · omega
  · rcases q2.2 with ⟨k2, -⟩ | ⟨k2, e2, o2, f2⟩
    · omega
    · have hs := (ordered_iff.1 o1)
      refine okV_2 q1.1 k1 (fun j hj => by rw [meetE, e1 j hj]; simp [el0]) (ordered_iff.2 ⟨fun x hx => ?_, both_sorted hs.2⟩) fun x hx => ?_
      · obtain ⟨y, hy, -, rfl⟩ := both_mem.1 hx; exact hs.1 y hy
      · obtain ⟨y, hy, hg, rfl⟩ := both_mem.1 hx
        obtain ⟨u, hu, -, e⟩ := get_is hg
        rw [e]; exact e_meet (f1 y hy) (f2 u hu)
theorem as_down : leqA (meetA a b) a = true ∧ leqA (meetA a b) b = true := by
  have h1 := rightA_iff.1 ha; have h2 := rightA_iff.1 hb; have hm := meet_len a b
  refine ⟨leqA_iff.2 ⟨fun i hi => ?_, fun i hi => ?_⟩, leqA_iff.2 ⟨fun i hi => ?_, fun i hi => ?_⟩⟩
  · rw [meet_label (by omega) (by omega)]; exact (e_down _ _).1
  · rw [meet_row (by omega) (by omega)]; exact below_both1 (okV_sorted (h1.2 i (by omega)))
  · rw [meet_label (by omega) (by omega)]; exact (e_down _ _).2
  · rw [meet_row (by omega) (by omega)]; exact below_both2
end
/-! ### Texts -/
def joinF (b : Tx) : List Tx → Tx
  | [] => tx0
  | x :: l => l.foldl (fun a y => a ++ b ++ y) x
def fieldT (s : Sh) (v : ValR) : Tx := v.name ++ tc 61 ++ spellF s v.el
def rowT (s : Sh) (l : List ValR) : Tx := tc 91 ++ joinF (tc 44) (l.map (fieldT s)) ++ tc 93
def varT (s : Sc) (v : VarR) (e : El) (l : List ValR) : Tx := v.name ++ tc 61 ++ (if v.kind = 1 then spellF (shOf s v) e else rowT (shOf s v) l)
def varsT (s : Sc) (a : As) (k : Int) : List Tx := (upto k).map fun i => varT s (s.vars.getD i.toNat var0) (a.labels.getD i.toNat el0) (a.rows.getD i.toNat [])
def textA (s : Sc) (a : As) : Tx := if rightA s a then joinF (tc 32) (varsT s a s.vars.length) else tx0
def comS (l : List By) : By := l.flatMap fun y => 32 :: y
def PT (s : Sc) (p : VarR × El × List ValR) : By := bl (varT s p.1 p.2.1 p.2.2)
def trip (s : Sc) (a : As) : List (VarR × El × List ValR) := (upto s.vars.length).map fun i => (s.vars.getD i.toNat var0, a.labels.getD i.toNat el0, a.rows.getD i.toNat [])
end Go.Proofs.YtkdbiooamgnfmaaDoor.E
