/-
  The laws of scopes, plainly.
-/
import Derived.Test.YtiaifdnlkdcbiaaDoorAlv
namespace Go.Proofs.YtiaifdnlkdcbiaaDoor.E
open Go Go.RowKit Go.Proofs.YtiaifdnlkdcbiaaDoor.M
set_option linter.unusedVariables false
theorem sc_lats {q r : Scp} {k : Int} (h : q.lats.map LatR.pl = r.lats.map LatR.pl) (h0 : 0 ≤ k) (h1 : k < q.lats.length) : (q.lats.getD k.toNat lat0).pl = (r.lats.getD k.toNat lat0).pl := by
  have h2 : k.toNat < q.lats.length := by omega
  have hl : q.lats.length = r.lats.length := by have := congrArg List.length h; simpa using this
  have h3 := congrArg (fun l => l[k.toNat]?) h
  simp only [List.getElem?_map] at h3
  rw [List.getElem?_eq_getElem h2, List.getElem?_eq_getElem (by omega)] at h3
  rw [List.getD_eq_getElem?_getD, List.getD_eq_getElem?_getD, List.getElem?_eq_getElem h2, List.getElem?_eq_getElem (by omega)]
  simpa using h3
theorem same_sc {q r : Scp} (h : q.sc = r.sc) : sameS2 q r = true := by
  have h1 : q.lats.map LatR.pl = r.lats.map LatR.pl := congrArg Sc.lats h
  have h2 : q.vars = r.vars := congrArg Sc.vars h
  have hl : q.lats.length = r.lats.length := by have := congrArg List.length h1; simpa using this
  refine same_yes ⟨hl, by rw [h2]⟩ (k := q.lats.length) (by omega) (fun i i0 i1 => ?_) (j := q.vars.length) (by omega) fun i _ _ => by rw [h2]
  have := sc_lats h1 i0 i1
  simp only [LatR.pl, Prod.mk.injEq] at this
  exact ⟨this.1, by rw [this.2]; exact sameS_refl _⟩
theorem sm_of {s : Scp} {c : CmdR} (h : bigScp s = false) (hb : c.names.length ≤ 100 ∧ c.pairs.length ≤ 100) : Sm s c := by
  rw [bigScp, Bool.or_eq_false_iff, Bool.or_eq_false_iff, decide_eq_false_iff_not, List.any_eq_false, List.any_eq_false] at h
  have hl : ∀ a ∈ s.lats, bigS a.shp.sh = false := fun a ha => by
    have := h.1.2 a ha
    rw [Bool.not_eq_true, bigL, Bool.or_eq_false_iff] at this
    exact this.1
  exact ⟨hb.1, hb.2, by omega, by omega, fun a ha => by have := (big_shp (hl a ha)).1; omega, fun a ha f hf => by have := (big_shp (hl a ha)).2 f hf; omega⟩
/-! ### First places -/
theorem nf_le {l : List Tx} {t : Tx} {k : Int} (h0 : 0 ≤ k) (h1 : k < l.length) (h : l.getD k.toNat tx0 = t) : 0 ≤ nfind l t ∧ nfind l t ≤ k := by
  rw [nfind]
  rcases find_cases (fun i => decide (l.getD i.toNat tx0 = t)) l.length with ⟨j, j0, j1, j2, j3, e⟩ | ⟨hn, -⟩
  · rw [e]
    refine ⟨j0, ?_⟩
    rcases (by omega : k < j ∨ j ≤ k) with h2 | h2
    · have := j3 k h0 h2
      simp only [decide_eq_false_iff_not] at this
      exact absurd h this
    · exact h2
  · have := hn k h0 h1
    simp only [decide_eq_false_iff_not] at this
    exact absurd h this
theorem nf_at {l : List Tx} {t : Tx} (h : 0 ≤ nfind l t) : nfind l t < l.length ∧ l.getD (nfind l t).toNat tx0 = t := by
  rw [nfind] at *
  rcases find_cases (fun i => decide (l.getD i.toNat tx0 = t)) l.length with ⟨j, j0, j1, j2, j3, e⟩ | ⟨-, e⟩
  · rw [e]; exact ⟨j1, of_decide_eq_true j2⟩
  · omega
theorem nf_neg (l : List Tx) (t : Tx) : nfind l t = -1 ∨ 0 ≤ nfind l t := by
  rw [nfind]
  rcases find_cases (fun i => decide (l.getD i.toNat tx0 = t)) l.length with ⟨j, j0, j1, j2, j3, e⟩ | ⟨-, e⟩ <;> omega
theorem nf_mem {l : List Tx} {t : Tx} : 0 ≤ nfind l t ↔ t ∈ l := by
  constructor
  · intro h
    have := nf_at h
    rw [← this.2]
    exact List.mem_of_getElem? (getD_at (d := tx0) h this.1)
  · intro h
    obtain ⟨i, hi, rfl⟩ := List.getElem_of_mem h
    exact (nf_le (k := (i : Int)) (by omega) (by omega) (by rw [Int.toNat_natCast, List.getD_eq_getElem?_getD, List.getElem?_eq_getElem hi]; rfl)).1
theorem nf_eq {l : List Tx} {t : Tx} {k : Int} (h0 : 0 ≤ k) (h1 : k < l.length) (h : l.getD k.toNat tx0 = t) (hf : ∀ j : Int, 0 ≤ j → j < k → l.getD j.toNat tx0 ≠ t) : nfind l t = k :=
  find_yes h0 h1 (decide_eq_true h) fun j a b => decide_eq_false (hf j a b)
theorem getD_app {l m : List Tx} {k : Int} (h0 : 0 ≤ k) : (l ++ m).getD k.toNat tx0 = if k < l.length then l.getD k.toNat tx0 else m.getD (k - l.length).toNat tx0 := by
  rw [List.getD_eq_getElem?_getD, List.getD_eq_getElem?_getD, List.getD_eq_getElem?_getD]
  split
  · rw [List.getElem?_append_left (by omega)]
  · rw [List.getElem?_append_right (by omega), show k.toNat - l.length = (k - l.length).toNat by omega]
theorem nf_left {l m : List Tx} {t : Tx} (h : t ∈ l) : nfind (l ++ m) t = nfind l t := by
  have h1 := nf_mem.2 h
  have h2 := nf_at h1
  refine nf_eq h1 (by rw [List.length_append]; omega) (by rw [getD_app h1, if_pos h2.1]; exact h2.2) fun j j0 j1 e => ?_
  rw [getD_app j0, if_pos (by omega)] at e
  have := (nf_le j0 (by omega) e).2
  omega
theorem nf_right {l m : List Tx} {t : Tx} (h : t ∉ l) (hm : t ∈ m) : nfind (l ++ m) t = l.length + nfind m t := by
  have h1 := nf_mem.2 hm
  have h2 := nf_at h1
  refine nf_eq (by omega) (by rw [List.length_append]; omega) (by rw [getD_app (by omega), if_neg (by omega), show (l.length + nfind m t - l.length : Int) = nfind m t by omega]; exact h2.2) fun j j0 j1 e => ?_
  rw [getD_app j0] at e
  split at e
  · rename_i hj
    exact h (e ▸ List.mem_of_getElem? (getD_at (d := tx0) j0 hj))
  · have := (nf_le (by omega) (by omega) e).2
    omega
theorem nf_nodup {l : List Tx} (h : l.Nodup) {k : Int} (h0 : 0 ≤ k) (h1 : k < l.length) : nfind l (l.getD k.toNat tx0) = k := by
  refine nf_eq h0 h1 rfl fun j j0 j1 e => ?_
  have h2 : j.toNat < l.length := by omega
  have h3 : k.toNat < l.length := by omega
  rw [List.getD_eq_getElem?_getD, List.getD_eq_getElem?_getD, List.getElem?_eq_getElem h2, List.getElem?_eq_getElem h3] at e
  rw [List.nodup_iff_pairwise_ne, List.pairwise_iff_getElem] at h
  exact h j.toNat k.toNat h2 h3 (by omega) (by simpa using e)
theorem nodup_of {l : List Tx} (h : ∀ k : Int, 0 ≤ k → k < l.length → ¬ nfind l (l.getD k.toNat tx0) < k) : l.Nodup := by
  rw [List.nodup_iff_pairwise_ne, List.pairwise_iff_getElem]
  intro i j hi hj hij e
  have h1 := h (j : Int) (by omega) (by omega)
  have h2 := (nf_le (l := l) (t := l.getD (j : Int).toNat tx0) (k := (i : Int)) (by omega) (by omega) (by
    rw [Int.toNat_natCast, Int.toNat_natCast, List.getD_eq_getElem?_getD, List.getD_eq_getElem?_getD, List.getElem?_eq_getElem hi, List.getElem?_eq_getElem hj]; simpa using e)).2
  omega
theorem tw_nodup {l : List Tx} : twice l < 0 ↔ l.Nodup := by
  constructor
  · intro h
    refine nodup_of fun k k0 k1 h2 => ?_
    rw [twice] at h
    rcases find_cases (fun i => decide (nfind l (l.getD i.toNat tx0) < i)) l.length with ⟨j, j0, -, -, -, e⟩ | ⟨hn, -⟩
    · omega
    · have := hn k k0 k1
      simp only [decide_eq_false_iff_not] at this
      exact this h2
  · intro h
    rw [twice]
    rcases find_cases (fun i => decide (nfind l (l.getD i.toNat tx0) < i)) l.length with ⟨j, j0, j1, j2, -, e⟩ | ⟨-, e⟩
    · rw [decide_eq_true_eq, nf_nodup h j0 j1] at j2; omega
    · omega
/-! ### Scopes by their names -/
theorem lat_nf (s : Scp) (t : Tx) : findLat s t = nfind (s.lats.map LatR.name) t := by
  rw [findLat, nfind, List.length_map]
  congr 1
  funext i
  rw [List.getD_eq_getElem?_getD, List.getD_eq_getElem?_getD, List.getElem?_map]
  cases s.lats[i.toNat]? <;> rfl
theorem var_nf (s : Scp) (t : Tx) : findVar s t = nfind (s.vars.map VarR.name) t := by
  rw [findVar, nfind, List.length_map]
  congr 1
  funext i
  rw [List.getD_eq_getElem?_getD, List.getD_eq_getElem?_getD, List.getElem?_map]
  cases s.vars[i.toNat]? <;> rfl
theorem lives_mem (s : Scp) (t : Tx) : livesF s t = true ↔ t ∈ namesS s := by
  rw [livesF, decide_eq_true_eq, lat_nf, var_nf, nf_mem, nf_mem, namesS, List.mem_append]
theorem is_mem (s : Scp) (t : Tx) : isF s t = true ↔ t ∈ s.lats.map LatR.name := by
  rw [isF, decide_eq_true_eq, lat_nf, nf_mem]
def rightSc (s : Sc) : Bool := decide (s.lats.length ≤ 16 ∧ s.vars.length ≤ 64) && s.lats.all (fun p => nameR p.1 && shR p.2) && s.vars.all (varOk s.lats.length) && decide ((s.lats.map Prod.fst ++ s.vars.map VarR.name).Nodup)
theorem right_sc (s : Scp) : rightS s = rightSc s.sc := by
  have h1 : s.sc.lats.map Prod.fst = s.lats.map LatR.name := by
    show (s.lats.map LatR.pl).map Prod.fst = _
    rw [List.map_map]; rfl
  have h2 : s.sc.lats.all (fun p => nameR p.1 && shR p.2) = s.lats.all latOk := by
    show (s.lats.map LatR.pl).all _ = _
    rw [List.all_map]; rfl
  have h3 : s.sc.lats.length = s.lats.length := List.length_map ..
  have h4 : decide (twice (namesS s) < 0) = decide ((namesS s).Nodup) := by rw [Bool.eq_iff_iff, decide_eq_true_eq, decide_eq_true_eq, tw_nodup]
  rw [rightS, rightSc, h1, h2, h3, h4]; rfl
structure RightSc (s : Sc) : Prop where
  ll : s.lats.length ≤ 16
  vl : s.vars.length ≤ 64
  lats : ∀ p ∈ s.lats, nameR p.1 = true ∧ shR p.2 = true
  vars : ∀ v ∈ s.vars, nameR v.name = true ∧ (v.kind = 1 ∨ v.kind = 2) ∧ 0 ≤ v.lat ∧ v.lat < s.lats.length
  nodup : (s.lats.map Prod.fst ++ s.vars.map VarR.name).Nodup
theorem rightSc_iff {s : Sc} : rightSc s = true ↔ RightSc s := by
  rw [rightSc, Bool.and_eq_true, Bool.and_eq_true, Bool.and_eq_true, decide_eq_true_eq, decide_eq_true_eq, List.all_eq_true, List.all_eq_true]
  constructor
  · rintro ⟨⟨⟨h1, h2⟩, h3⟩, h4⟩
    refine ⟨h1.1, h1.2, fun p hp => by have := h2 p hp; rwa [Bool.and_eq_true] at this, fun v hv => ?_, h4⟩
    have := h3 v hv
    rw [varOk, Bool.and_eq_true, decide_eq_true_eq] at this
    exact this
  · rintro ⟨h1, h2, h3, h4, h5⟩
    refine ⟨⟨⟨⟨h1, h2⟩, fun p hp => by rw [Bool.and_eq_true]; exact h3 p hp⟩, fun v hv => ?_⟩, h5⟩
    rw [varOk, Bool.and_eq_true, decide_eq_true_eq]
    exact h4 v hv
/-! ### No fault -/
theorem less_ne {b f : Flt} (h : b.cls ≠ 0) : (lessF b f).cls ≠ 0 := by
  by_cases h1 : betterF f b
  · rw [less_t h1]; exact h1.1
  · rw [less_f h1]; exact h
theorem least_ne : ∀ (l : List Flt) (b : Flt), b.cls ≠ 0 → (l.foldl lessF b).cls ≠ 0
  | [], b, h => h
  | f :: l, b, h => least_ne l _ (less_ne h)
theorem least_some : ∀ (l : List Flt) (b : Flt), (∃ f ∈ l, f.cls ≠ 0) → (l.foldl lessF b).cls ≠ 0
  | [], b, h => by obtain ⟨f, hf, -⟩ := h; cases hf
  | f :: l, b, h => by
    rw [List.foldl_cons]
    by_cases h1 : ∃ f ∈ l, f.cls ≠ 0
    · exact least_some l _ h1
    · obtain ⟨g, hg, h2⟩ := h
      rcases List.mem_cons.1 hg with rfl | hg
      · refine least_ne l _ ?_
        by_cases h3 : betterF g b
        · rw [less_t h3]; exact h2
        · rw [less_f h3]
          intro h4
          exact h3 ⟨h2, .inl h4⟩
      · exact absurd ⟨g, hg, h2⟩ h1
theorem tell_ne {b : Bool} {k a : Int} (hk : k ≠ 0) : ∀ f ∈ tellF b k a, f.cls ≠ 0 := fun f hf => by
  cases b
  · cases hf
  · rw [List.mem_singleton.1 hf]; exact hk
theorem fault_ne (s : Scp) (c : CmdR) : ∀ f ∈ faultL s c, f.cls ≠ 0 := fun f hf => by
  have ht := fun (b : Bool) (k a : Int) (hk : k ≠ 0) => tell_ne (b := b) (a := a) hk
  rw [faultL, List.mem_append, List.mem_append, List.mem_append, List.mem_append] at hf
  rcases hf with ((hf | hf) | (hf | hf)) | hf
  · rw [headF] at hf
    split at hf
    · exact ht _ _ _ (by decide) f hf
    · rcases List.mem_append.1 hf with hf | hf <;> exact ht _ _ _ (by decide) f hf
  · rw [namesTo, List.mem_flatMap] at hf
    obtain ⟨k, -, hf⟩ := hf
    rw [nameAt] at hf
    split at hf
    · rcases List.mem_append.1 hf with hf | hf <;> exact ht _ _ _ (by decide) f hf
    · exact ht _ _ _ (by decide) f hf
  · rw [pairsTo, List.mem_flatMap] at hf
    obtain ⟨k, -, hf⟩ := hf
    rw [pairAt, missF, missF] at hf
    rcases List.mem_append.1 hf with hf | hf <;> exact ht _ _ _ (by decide) f hf
  · exact ht _ _ _ (by decide) f hf
  · rw [limitF] at hf
    split at hf
    · exact ht _ _ _ (by decide) f hf
    · split at hf <;> exact ht _ _ _ (by decide) f hf
theorem fault_nil {s : Scp} {c : CmdR} (ho : 1 ≤ c.op ∧ c.op ≤ 7) (h : (faultF s c).cls = 0) : faultL s c = [] := by
  rw [faultF, if_pos ho] at h
  cases hl : faultL s c with
  | nil => rfl
  | cons f l => exact absurd h (least_some _ _ ⟨f, by rw [hl]; exact List.mem_cons_self .., fault_ne s c f (by rw [hl]; exact List.mem_cons_self ..)⟩)
theorem tell_nil {b : Bool} {k a : Int} (h : tellF b k a = []) : b = false := by
  cases b with
  | false => rfl
  | true => cases h
/-- What is so of a declaration without a fault. -/
structure NoF (s : Scp) (c : CmdR) : Prop where
  new : c.op ≤ 5 → c.name.text ∉ namesS s
  old : 6 ≤ c.op → c.name.text ∈ s.lats.map LatR.name
  nodup : c.op ≠ 3 → (textsF c.names).Nodup
  apart : 6 ≤ c.op → ∀ x ∈ c.names, x.text ∉ namesS s
  live : c.op = 3 → ∀ x ∈ c.names, x.text ∈ s.lats.map LatR.name
  lats : c.op ≤ 5 → s.lats.length < 16
  few : c.op ≤ 5 → c.op ≠ 3 → c.names.length ≤ 64
  grid : c.op = 4 → c.names.length ≤ 8
  prod : c.op = 3 → (prodF (prodL s c.names)).length ≤ 8
  vars : 6 ≤ c.op → s.vars.length + c.names.length ≤ 64
  table : c.op = 5 → latB (relatedF c) = true
theorem no_fault {s : Scp} {c : CmdR} (ho : 1 ≤ c.op ∧ c.op ≤ 7) (h : (faultF s c).cls = 0) : NoF s c := by
  have hl := fault_nil ho h
  rw [faultL, List.append_eq_nil_iff, List.append_eq_nil_iff, List.append_eq_nil_iff, List.append_eq_nil_iff] at hl
  obtain ⟨⟨⟨hh, hn⟩, -, hor⟩, hlim⟩ := hl
  have hnm : ∀ k : Int, 0 ≤ k → k < c.names.length → nameAt s c k = [] := fun k k0 k1 => by
    rw [namesTo, List.flatMap_eq_nil_iff] at hn
    exact hn k (mem_upto.2 ⟨k0, k1⟩)
  have hx : ∀ x ∈ c.names, ∃ k : Int, 0 ≤ k ∧ k < c.names.length ∧ c.names.getD k.toNat wd0 = x := fun x hx => by
    obtain ⟨i, hi, rfl⟩ := List.getElem_of_mem hx
    exact ⟨i, by omega, by omega, by rw [Int.toNat_natCast, List.getD_eq_getElem?_getD, List.getElem?_eq_getElem hi]; rfl⟩
  have hnot : ∀ k : Int, 0 ≤ k → k < c.names.length → c.op ≠ 3 → aheadF (textsF c.names) k = false ∧ (6 ≤ c.op → livesF s (c.names.getD k.toNat wd0).text = false) := fun k k0 k1 h3 => by
    have := hnm k k0 k1
    rw [nameAt, if_neg h3] at this
    have := tell_nil this
    rw [Bool.or_eq_false_iff, Bool.and_eq_false_iff] at this
    refine ⟨this.1, fun h6 => ?_⟩
    rcases this.2 with h7 | h7
    · exact absurd (of_decide_eq_false h7) (by omega)
    · exact h7
  refine ⟨fun h5 => ?_, fun h6 => ?_, fun h3 => ?_, fun h6 x hxm => ?_, fun h3 x hxm => ?_, fun h5 => ?_, fun h5 h3 => ?_, fun h4 => ?_, fun h3 => ?_, fun h6 => ?_, fun h5 => ?_⟩
  · rw [headF, if_pos (by omega)] at hh
    have := tell_nil hh
    exact fun hm => by rw [(lives_mem _ _).2 hm] at this; cases this
  · rw [headF, if_neg (by omega), List.append_eq_nil_iff] at hh
    have h1 := tell_nil hh.1
    have h2 := tell_nil hh.2
    rw [Bool.not_eq_false'] at h1
    rw [h1, Bool.true_and, Bool.not_eq_false'] at h2; exact (is_mem _ _).1 h2
  · refine nodup_of fun k k0 k1 => ?_
    have := (hnot k k0 (by rw [texts_len] at k1; exact k1) h3).1
    rw [aheadF, decide_eq_false_iff_not] at this; exact this
  · obtain ⟨k, k0, k1, rfl⟩ := hx x hxm
    have := (hnot k k0 k1 (by omega)).2 h6
    exact fun hm => by rw [(lives_mem _ _).2 hm] at this; cases this
  · obtain ⟨k, k0, k1, rfl⟩ := hx x hxm
    have := hnm k k0 k1
    rw [nameAt, if_pos h3, List.append_eq_nil_iff] at this
    have h1 := tell_nil this.1
    have h2 := tell_nil this.2
    rw [Bool.not_eq_false'] at h1
    rw [h1, Bool.true_and, Bool.not_eq_false'] at h2; exact (is_mem _ _).1 h2
  · rw [limitF, if_neg (by omega)] at hlim
    split at hlim <;> (have := tell_nil hlim; rw [decide_eq_false_iff_not] at this; omega)
  · rw [limitF, if_neg (by omega), if_neg h3] at hlim
    have := tell_nil hlim; rw [decide_eq_false_iff_not] at this
    split at this <;> omega
  · rw [limitF, if_neg (by omega), if_neg (by omega)] at hlim
    have := tell_nil hlim; rw [decide_eq_false_iff_not, if_pos h4] at this; omega
  · rw [limitF, if_neg (by omega), if_pos h3] at hlim
    have := tell_nil hlim; rw [decide_eq_false_iff_not] at this; omega
  · rw [limitF, if_pos (by omega)] at hlim
    have := tell_nil hlim; rw [decide_eq_false_iff_not] at this; omega
  · have hf : c.names.length ≤ 64 := by
      rw [limitF, if_neg (by omega), if_neg (by omega)] at hlim
      have := tell_nil hlim; rw [decide_eq_false_iff_not, if_neg (by omega)] at this; omega
    rw [orderF, decide_eq_true ⟨h5, hf⟩] at hor
    have := tell_nil hor
    rw [Bool.true_and, Bool.not_eq_false'] at this; exact this
theorem texts_mem {l : List Wd} {t : Tx} (h : t ∈ textsF l) : ∃ x ∈ l, x.text = t := by
  rw [textsF, List.mem_map] at h; exact h
theorem named_ok {c : CmdR} (hok : CmdOk c) (ho : 1 ≤ c.op ∧ c.op ≤ 7) (hn : (textsF c.names).Nodup) (hf : c.names.length ≤ 64) : namedF (textsF c.names) = true := by
  have h1 := hok.some ho
  rw [namedF, texts_len, decide_eq_true ⟨h1, hf⟩, decide_eq_true (tw_nodup.2 hn), Bool.true_and, Bool.true_and, List.all_eq_true]
  intro t ht
  obtain ⟨x, hx, rfl⟩ := texts_mem ht
  exact hok.names x hx
theorem related_n {c : CmdR} (hf : c.names.length ≤ 64) : (relatedF c).n = c.names.length := by
  show pts (ofR c.names.length (wpairs c)) = _
  rw [pts_of]; unfold pts; simp only []; omega
theorem related_closed (c : CmdR) : (plainR (relatedF c)).eq (cloR (relatedF c)) := by
  rw [relatedF, plain_clo]
  generalize ofR c.names.length (wpairs c) = r
  refine ⟨(clo_pts r).symm, fun i hi => eq_of_bits fun j hj => ?_⟩
  have h1 := @clo_bit r i j
  have h2 := @clo_bit (cloR r) i j
  rw [Bool.eq_iff_iff, h1, h2]
  constructor
  · exact fun h => clo_base h
  · intro h
    have hb := hasR_bit h
    have hp : pts (cloR (cloR r)) = pts r := by rw [clo_pts, clo_pts]
    rw [hp] at hb
    exact clo_least h (fun x => hasR (cloR r) i x = true) (fun x y hx hy => clo_trans hx hy) (clo_refl ⟨hb.1.1, hb.1.2⟩)
theorem lat_right {s : Scp} (hs : RightSc s.sc) : ∀ a ∈ s.lats, nameR a.name = true ∧ shR a.shp.sh = true := fun a ha => hs.lats a.pl (List.mem_map_of_mem ha)
theorem prod_fac {s : Scp} {l : List Wd} (hs : RightSc s.sc) : ∀ f ∈ prodF (prodL s l), factorR f = true := fun f hf => by
  rw [prodF, List.mem_flatMap] at hf
  obtain ⟨p, hp, hf⟩ := hf
  obtain ⟨a, ha, rfl⟩ := prodL_of hp
  exact (sh_spec (lat_right hs a ha).2).2.2 f hf
theorem prod_some {s : Scp} {l : List Wd} (hs : RightSc s.sc) (h1 : 1 ≤ l.length) (hl : ∀ x ∈ l, x.text ∈ s.lats.map LatR.name) : 1 ≤ (prodF (prodL s l)).length := by
  match l, h1 with
  | x :: l, _ =>
    have h2 : 0 ≤ findLat s x.text := by rw [lat_nf]; exact nf_mem.2 (hl x (List.mem_cons_self ..))
    have h3 : prodL s (x :: l) = (s.lats.getD (findLat s x.text).toNat lat0).shp :: prodL s l := by
      rw [prodL, List.filterMap_cons, if_pos h2]; rfl
    have h4 := (sh_spec (lat_right hs _ (List.mem_of_getElem? (getD_at (d := lat0) h2 (findLat_lt s x.text)))).2).1.1
    rw [sh_len] at h4
    rw [h3, show prodF ((s.lats.getD (findLat s x.text).toNat lat0).shp :: prodL s l) = (s.lats.getD (findLat s x.text).toNat lat0).shp.facs.map Fac.fc ++ prodF (prodL s l) from rfl, List.length_append, List.length_map]
    omega
theorem shape_right {s : Scp} {c : CmdR} (hs : RightSc s.sc) (hok : CmdOk c) (ho : 1 ≤ c.op ∧ c.op ≤ 5) (h : NoF s c) : shR (shapeF s c) = true := by
  have ho7 : 1 ≤ c.op ∧ c.op ≤ 7 := ⟨ho.1, by omega⟩
  have one : ∀ f : Fc, factorR f = true → shR ⟨false, [f]⟩ = true := fun f hf => by simp [shR, hf]
  have hp0 : pts Rl.none = 0 := by decide
  by_cases h3 : c.op = 3
  · rw [shape_3 h3, shR, decide_eq_true ⟨prod_some hs (hok.some ho7) (h.live h3), h.prod h3⟩, Bool.true_or, Bool.true_and, Bool.true_and, List.all_eq_true]
    exact prod_fac hs
  · have hn := named_ok hok ho7 (h.nodup h3) (h.few ho.2 h3)
    have hf := h.few ho.2 h3
    rcases (by omega : c.op = 1 ∨ c.op = 2 ∨ c.op = 4 ∨ c.op = 5) with h1 | h1 | h1 | h1
    · rw [shape_1 h1]
      refine one _ ?_
      rw [fac_12 hn (.inl rfl)]; exact decide_eq_true hp0
    · rw [shape_2 h1]
      refine one _ ?_
      rw [fac_12 hn (.inr rfl)]; exact decide_eq_true hp0
    · rw [shape_4 h1]
      refine one _ ?_
      rw [fac_3y hn rfl (by show (relatedF c).n = _; rw [related_n hf, texts_len]), rightG, decide_eq_true (related_closed c), Bool.and_true, decide_eq_true_eq]
      show 1 ≤ (relatedF c).n ∧ (relatedF c).n ≤ 8
      rw [related_n hf]
      have := hok.some ho7
      have := h.grid h1
      omega
    · rw [shape_5 h1]
      refine one _ ?_
      rw [fac_4y hn rfl (by show (relatedF c).n = _; rw [related_n hf, texts_len])]
      exact h.table h1
/-- Adding keeps a scope right. -/
theorem add_right {s : Scp} {c : CmdR} (hs : RightSc s.sc) (hok : CmdOk c) : RightSc (addF s c) := by
  by_cases hf : (faultF s c).cls ≠ 0
  · rw [add_0 hf]; exact hs
  · have hf0 : (faultF s c).cls = 0 := Decidable.of_not_not hf
    have hns : s.sc.lats.map Prod.fst ++ s.sc.vars.map VarR.name = namesS s := by
      show (s.lats.map LatR.pl).map Prod.fst ++ _ = _
      rw [List.map_map]; rfl
    have hnd := hs.nodup
    rw [hns] at hnd
    have hll : s.sc.lats.length = s.lats.length := List.length_map ..
    by_cases h1 : 1 ≤ c.op ∧ c.op ≤ 5
    · have hn := no_fault ⟨h1.1, by omega⟩ hf0
      rw [add_1 hf h1]
      have hnew := hn.new h1.2
      have hlt := hn.lats h1.2
      refine ⟨?_, hs.vl, fun p hp => ?_, fun v hv => ?_, ?_⟩
      · show (s.sc.lats ++ _).length ≤ 16
        rw [List.length_append, List.length_singleton]; omega
      · rcases List.mem_append.1 hp with hp | hp
        · exact hs.lats p hp
        · rw [List.mem_singleton.1 hp]
          exact ⟨hok.own ⟨h1.1, by omega⟩, shape_right hs hok h1 hn⟩
      · have := hs.vars v hv
        refine ⟨this.1, this.2.1, this.2.2.1, ?_⟩
        show v.lat < (s.sc.lats ++ _).length
        rw [List.length_append, List.length_singleton]; have := this.2.2.2; omega
      · show ((s.sc.lats ++ _).map Prod.fst ++ s.vars.map VarR.name).Nodup
        rw [List.map_append]
        have hp : (namesS s ++ [c.name.text]).Perm (s.sc.lats.map Prod.fst ++ [(c.name.text, shapeF s c)].map Prod.fst ++ s.vars.map VarR.name) := by
          rw [← hns]
          show (s.sc.lats.map Prod.fst ++ s.vars.map VarR.name ++ [c.name.text]).Perm _
          rw [List.append_assoc, List.append_assoc]
          exact List.Perm.append_left _ List.perm_append_comm
        refine hp.nodup_iff.1 ?_
        rw [List.nodup_append]
        exact ⟨hnd, by simp, fun a ha b hb e => by rw [List.mem_singleton.1 hb] at e; exact hnew (e ▸ ha)⟩
    · by_cases h2 : c.op = 6 ∨ c.op = 7
      · have hn := no_fault ⟨by omega, by omega⟩ hf0
        rw [add_2 hf h2]
        have hvl := hn.vars (by omega)
        have hin := hn.old (by omega)
        have hnv : (varsF s c).map VarR.name = textsF c.names := by rw [varsF, List.map_map]; rfl
        refine ⟨hs.ll, ?_, hs.lats, fun v hv => ?_, ?_⟩
        · show (s.vars ++ varsF s c).length ≤ 64
          rw [List.length_append, varsF_len]; exact hvl
        · rcases List.mem_append.1 hv with hv | hv
          · exact hs.vars v hv
          · rw [varsF, List.mem_map] at hv
            obtain ⟨x, hx, rfl⟩ := hv
            have h4 : 0 ≤ findLat s c.name.text := by rw [lat_nf]; exact nf_mem.2 hin
            have h5 := findLat_lt s c.name.text
            refine ⟨hok.names x hx, ?_, h4, ?_⟩
            · show kindF c = 1 ∨ kindF c = 2
              rw [kindF]; split <;> omega
            · show findLat s c.name.text < (s.sc.lats.length : Int)
              rw [hll]; exact h5
        · show (s.sc.lats.map Prod.fst ++ (s.vars ++ varsF s c).map VarR.name).Nodup
          rw [List.map_append, ← List.append_assoc, hnv]
          show ((s.sc.lats.map Prod.fst ++ s.sc.vars.map VarR.name) ++ textsF c.names).Nodup
          rw [hns, List.nodup_append]
          refine ⟨hnd, hn.nodup (by omega), fun a ha b hb e => ?_⟩
          obtain ⟨x, hx, rfl⟩ := texts_mem hb
          exact hn.apart (by omega) x hx (e ▸ ha)
      · rw [add_3 h1 h2]; exact hs
/-- What was there stays. -/
theorem add_pre (s : Scp) (c : CmdR) : (∃ l, (addF s c).lats = s.sc.lats ++ l) ∧ ∃ l, (addF s c).vars = s.vars ++ l := by
  rw [addF]
  split
  · exact ⟨⟨[], (List.append_nil _).symm⟩, [], (List.append_nil _).symm⟩
  · split
    · exact ⟨⟨_, rfl⟩, [], (List.append_nil _).symm⟩
    · split
      · exact ⟨⟨[], (List.append_nil _).symm⟩, _, rfl⟩
      · exact ⟨⟨[], (List.append_nil _).symm⟩, [], (List.append_nil _).symm⟩
theorem SlV.cut {K : Vu} {v : Value} {sz n : Nat} {cells : List Value} (h : SlV K v sz n cells) (k : Nat) (hk : k ≤ n) : SlV K (cutV v k) sz k (cells.take (k * sz)) := by
  obtain ⟨a, cap, hv, hnc, ha⟩ := h.shape
  subst hv
  have e1 : sb (.slice a k cap) = sb (.slice a n cap) := by cases a <;> rfl
  have e2 : so (.slice a k cap) = so (.slice a n cap) := by cases a <;> rfl
  refine ⟨⟨a, cap, rfl, by omega, fun h0 => ?_⟩, ?_, fun j c hc => ?_, Nat.le_trans hk h.small⟩
  · show a = some ⟨sb (.slice a k cap), so (.slice a k cap), none⟩
    rw [e1, e2]; exact ha (by omega)
  · rw [List.length_take, h.len]
    exact Nat.min_eq_left (Nat.mul_le_mul_right _ hk)
  · rw [List.getElem?_take] at hc
    split at hc
    · show cellV K (sb (.slice a k cap)) (so (.slice a k cap) + j) c
      rw [e1, e2]; exact h.cell j c hc
    · cases hc
theorem take_flat {α : Type} {cl : α → List Value} {sz : Nat} (hsz : ∀ a, (cl a).length = sz) : ∀ (l : List α) (k : Nat), k ≤ l.length → (l.flatMap cl).take (k * sz) = (l.take k).flatMap cl
  | _, 0, _ => by simp
  | [], k + 1, h => by simp at h
  | a :: l, k + 1, h => by
    rw [List.flatMap_cons, List.take_succ_cons, List.flatMap_cons, List.take_append, hsz, show (k + 1) * sz - sz = k * sz by rw [Nat.add_mul]; omega, List.take_of_length_le (by rw [hsz, Nat.add_mul]; omega), take_flat hsz l k (by simpa using h)]
def oldS (q : Scp) (n m : Nat) : Scp := ⟨cutV q.lv n, q.lats.take n, cutV q.vv m, q.vars.take m⟩
theorem oldS_v {K : Vu} {q : Scp} {n m : Nat} (h : ScpV K q) (hn : n ≤ q.lats.length) (hm : m ≤ q.vars.length) : ScpV K (oldS q n m) := by
  have h1 := h.lats.cut n hn
  have h2 := h.vars.cut m hm
  rw [take_flat latL_len _ _ hn] at h1
  rw [take_flat varL_len _ _ hm] at h2
  have e1 : (q.lats.take n).length = n := by rw [List.length_take]; omega
  have e2 : (q.vars.take m).length = m := by rw [List.length_take]; omega
  refine ⟨?_, ?_, fun l hl => h.each l (List.mem_of_mem_take hl)⟩
  · show SlV K (cutV q.lv n) 3 (q.lats.take n).length _; rw [e1]; exact h1
  · show SlV K (cutV q.vv m) 3 (q.vars.take m).length _; rw [e2]; exact h2
theorem kind_no (c : CmdR) : (!(decide (kindF c = 2) == decide (c.op = 7))) = false := by
  rw [kindF]; split <;> simp_all
/-- What the law tells of a scope to which something was added. -/
structure Keeps (s q : Scp) (c : CmdR) : Prop where
  right : rightS q = true
  ll : s.lats.length ≤ q.lats.length
  vl : s.vars.length ≤ q.vars.length
  old : sameS2 (oldS q s.lats.length s.vars.length) s = true
  fault : faultF s c = flt0 ∨ sameS2 q s = true
theorem keeps {s q : Scp} {c : CmdR} (hq : q.sc = addF s c) (hs : rightS s = true) (hok : CmdOk c) : Keeps s q c := by
  rw [right_sc, rightSc_iff] at hs
  obtain ⟨⟨l, hl⟩, m, hm⟩ := add_pre s c
  have h1 : q.lats.map LatR.pl = s.lats.map LatR.pl ++ l := (congrArg Sc.lats hq).trans hl
  have h2 : q.vars = s.vars ++ m := (congrArg Sc.vars hq).trans hm
  have e1 : q.lats.length = s.lats.length + l.length := by have := congrArg List.length h1; simpa using this
  have e2 : q.vars.length = s.vars.length + m.length := by rw [h2, List.length_append]
  refine ⟨by rw [right_sc, hq, rightSc_iff]; exact add_right hs hok, by omega, by omega, same_sc ?_, ?_⟩
  · show (⟨(q.lats.take s.lats.length).map LatR.pl, q.vars.take s.vars.length⟩ : Sc) = s.sc
    rw [List.map_take, h1, h2]
    have e3 : (s.lats.map LatR.pl ++ l).take s.lats.length = s.lats.map LatR.pl := by
      rw [List.take_left' (List.length_map ..)]
    rw [e3, List.take_left' rfl]; rfl
  · by_cases hf : (faultF s c).cls ≠ 0
    · right
      rw [add_0 hf] at hq
      exact same_sc hq
    · left
      have hf0 := Decidable.of_not_not hf
      by_cases ho : 1 ≤ c.op ∧ c.op ≤ 7
      · rw [faultF, if_pos ho, fault_nil ho hf0]; rfl
      · rw [faultF, if_neg ho]
/-- What the law tells of what is declared. -/
theorem lives_lat {s q : Scp} {c : CmdR} (hq : q.sc = addF s c) (hs : rightS s = true) (hok : CmdOk c) (hf : faultF s c = flt0) (ho : 1 ≤ c.op ∧ c.op ≤ 5) :
    findLat q c.name.text = s.lats.length ∧ s.lats.length < q.lats.length ∧ (q.lats.getD s.lats.length lat0).shp.sh = shapeF s c ∧ shR (shapeF s c) = true ∧ q.vars.length = s.vars.length := by
  rw [right_sc, rightSc_iff] at hs
  have hf0 : (faultF s c).cls = 0 := by rw [hf]; rfl
  have hn := no_fault ⟨ho.1, by omega⟩ hf0
  rw [add_1 (by rw [hf0]; simp) ho] at hq
  have h1 : q.lats.map LatR.pl = s.lats.map LatR.pl ++ [(c.name.text, shapeF s c)] := congrArg Sc.lats hq
  have h2 : q.vars = s.vars := congrArg Sc.vars hq
  have e1 : q.lats.length = s.lats.length + 1 := by have := congrArg List.length h1; simpa using this
  have h3 : q.lats.map LatR.name = s.lats.map LatR.name ++ [c.name.text] := by
    have := congrArg (List.map Prod.fst) h1
    rw [List.map_map, List.map_append, List.map_map] at this; exact this
  refine ⟨?_, by omega, ?_, shape_right hs hok ho hn, by rw [h2]⟩
  · have h4 : c.name.text ∉ s.lats.map LatR.name := fun h => hn.new ho.2 (List.mem_append_left _ h)
    rw [lat_nf, h3, nf_right h4 (List.mem_singleton.2 rfl), List.length_map]
    have : nfind [c.name.text] c.name.text = 0 := nf_eq (by omega) (by simp) rfl fun j a b => absurd b (by omega)
    omega
  · have h5 := congrArg (fun l => l[s.lats.length]?) h1
    simp only [List.getElem?_map] at h5
    rw [List.getElem?_append_right (by rw [List.length_map]; omega), List.length_map, Nat.sub_self, List.getElem?_eq_getElem (by omega : s.lats.length < q.lats.length)] at h5
    rw [List.getD_eq_getElem?_getD, List.getElem?_eq_getElem (by omega : s.lats.length < q.lats.length)]
    simp only [Option.map_some, List.getElem?_cons_zero, Option.some.injEq] at h5
    exact congrArg Prod.snd h5
theorem lives_var {s q : Scp} {c : CmdR} (hq : q.sc = addF s c) (hf : faultF s c = flt0) (ho : c.op = 6 ∨ c.op = 7) :
    findLat q c.name.text = findLat s c.name.text ∧ q.lats.length = s.lats.length ∧ q.vars.length = s.vars.length + c.names.length ∧ ∀ i : Int, 0 ≤ i → i < c.names.length → findVar q (c.names.getD i.toNat wd0).text = s.vars.length + i ∧ q.vars.getD ((s.vars.length : Int) + i).toNat var0 = ⟨(c.names.getD i.toNat wd0).text, kindF c, findLat s c.name.text⟩ := by
  have hf0 : (faultF s c).cls = 0 := by rw [hf]; rfl
  have hn := no_fault ⟨by omega, by omega⟩ hf0
  rw [add_2 (by rw [hf0]; simp) ho] at hq
  have h1 : q.lats.map LatR.pl = s.lats.map LatR.pl := congrArg Sc.lats hq
  have h2 : q.vars = s.vars ++ varsF s c := congrArg Sc.vars hq
  have e1 : q.lats.length = s.lats.length := by have := congrArg List.length h1; simpa using this
  have h3 : q.lats.map LatR.name = s.lats.map LatR.name := by
    have := congrArg (List.map Prod.fst) h1
    rw [List.map_map, List.map_map] at this; exact this
  refine ⟨by rw [lat_nf, lat_nf, h3], e1, by rw [h2, List.length_append, varsF_len], fun i i0 i1 => ?_⟩
  have hnv : (varsF s c).map VarR.name = textsF c.names := by rw [varsF, List.map_map]; rfl
  have ht := texts_get c.names i0 i1
  have hx : c.names.getD i.toNat wd0 ∈ c.names := List.mem_of_getElem? (getD_at (d := wd0) i0 i1)
  constructor
  · have h4 : (c.names.getD i.toNat wd0).text ∉ s.vars.map VarR.name := fun h => hn.apart (by omega) _ hx (List.mem_append_right _ h)
    have h5 : (c.names.getD i.toNat wd0).text ∈ textsF c.names := List.mem_map_of_mem hx
    rw [var_nf, h2, List.map_append, hnv, nf_right h4 h5, List.length_map, ← ht, nf_nodup (hn.nodup (by omega)) i0 (by rw [texts_len]; exact i1)]
  · have h6 : i.toNat < c.names.length := by omega
    rw [h2, List.getD_eq_getElem?_getD, List.getElem?_append_right (by omega), show ((s.vars.length : Int) + i).toNat - s.vars.length = i.toNat by omega, varsF, List.getElem?_map, List.getD_eq_getElem?_getD, List.getElem?_eq_getElem h6]; rfl
end Go.Proofs.YtiaifdnlkdcbiaaDoor.E
