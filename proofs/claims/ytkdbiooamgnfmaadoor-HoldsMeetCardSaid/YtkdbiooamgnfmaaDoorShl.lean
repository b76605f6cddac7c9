/-
  The elements of a shape are a lattice, and no row of them rises by more steps than the height: plainly.
-/
import Derived.Test.YtkdbiooamgnfmaaDoorShp
namespace Go.Proofs.YtkdbiooamgnfmaaDoor.M
set_option linter.unusedVariables false
theorem sub_refl (a : BitVec 64) : subB a a = true := subB_has.2 fun _ h => h
theorem sub_trans {a b c : BitVec 64} (h : subB a b = true) (h' : subB b c = true) : subB a c = true := subB_has.2 fun j hj => subB_has.1 h' j (subB_has.1 h j hj)
theorem sub_anti {a b : BitVec 64} (h : subB a b = true) (h' : subB b a = true) : a = b := word_eq fun j => Bool.eq_iff_iff.2 ⟨subB_has.1 h j, subB_has.1 h' j⟩
theorem sub_or' (a b : BitVec 64) : subB b (a ||| b) = true := by rw [BitVec.or_comm]; exact sub_or b a
theorem and_sub' (a b : BitVec 64) : subB (a &&& b) b = true := by rw [BitVec.and_comm]; exact and_sub b a
theorem or_sub {a b c : BitVec 64} (h : subB a c = true) (h' : subB b c = true) : subB (a ||| b) c = true := subB_has.2 fun j hj => by
  rw [hasB_or, Bool.or_eq_true] at hj
  rcases hj with hj | hj
  · exact subB_has.1 h j hj
  · exact subB_has.1 h' j hj
theorem sub_and {a b c : BitVec 64} (h : subB c a = true) (h' : subB c b = true) : subB c (a &&& b) = true := subB_has.2 fun j hj => by
  rw [hasB_and, subB_has.1 h j hj, subB_has.1 h' j hj]; rfl
theorem level_is {n : Int} {w : BitVec 64} (h : (level n w).2 = true) : (1 ≤ n ∧ n ≤ 64) ∧ ∃ k : Int, (0 ≤ k ∧ k < n) ∧ w = below k := by
  by_cases hn : 1 ≤ n ∧ n ≤ 64
  · refine ⟨hn, Classical.byContradiction fun hno => ?_⟩
    rw [level_none hn fun j a b e => hno ⟨j, ⟨a, b⟩, e⟩] at h; cases h
  · rw [level_no w hn] at h; cases h
theorem level_of {n k : Int} (hn : 1 ≤ n ∧ n ≤ 64) (hk : 0 ≤ k ∧ k < n) : (level n (below k)).2 = true := by
  have := level_word (n := n) (k := k) ⟨hn.1, hn.2, hk.1, hk.2⟩
  rw [wordv_yes ⟨hn.1, hn.2, hk.1, hk.2⟩] at this
  rw [this]
theorem point_is {r : Rl} {w : BitVec 64} (h : (pointV r w).2 = true) : ∃ k : Int, (0 ≤ k ∧ k < pts r) ∧ w = belowR r k := by
  rcases first_cases (fun i => decide (belowR r i = w)) (pts r) with ⟨k, k0, k1, k2, -, -⟩ | ⟨-, e⟩
  · exact ⟨k, ⟨k0, k1⟩, (of_decide_eq_true k2).symm⟩
  · have : pointV r w = (0, false) := e
    rw [this] at h; cases h
/-! ### One factor's words -/
def joinF (f : Fc) (a b : BitVec 64) : BitVec 64 := if f.kind = 4 then raiseV f.rel a b else a ||| b
theorem word1 {f : Fc} (h : f.kind = 1) (w : BitVec 64) : wordF f w = (level f.names.length w).2 := by rw [wordF, if_pos h]
theorem word2 {f : Fc} (h : f.kind = 2) (w : BitVec 64) : wordF f w = subB w (below f.names.length) := by rw [wordF, if_neg (by omega), if_pos h]
theorem word3 {f : Fc} (h : f.kind = 3) (w : BitVec 64) : wordF f w = closedG f.rel w := by rw [wordF, if_neg (by omega), if_neg (by omega), if_pos h]
theorem word4 {f : Fc} (h : f.kind = 4) (w : BitVec 64) : wordF f w = (pointV f.rel w).2 := by rw [wordF, if_neg (by omega), if_neg (by omega), if_neg (by omega)]
theorem closed_eq {r : Rl} {w : BitVec 64} (h : closedG r w = true) : rightG r = true ∧ closeG r w = w := by
  rw [closedG, Bool.and_eq_true, decide_eq_true_eq] at h; exact h
theorem join_ne {f : Fc} (h : f.kind ≠ 4) (a b : BitVec 64) : joinF f a b = a ||| b := by rw [joinF, if_neg h]
structure Tab4 (f : Fc) : Prop where
  l : latB f.rel = true
  n : pts f.rel = f.rel.n
theorem tab4 {f : Fc} (h : factorR f = true) (h4 : f.kind = 4) : Tab4 f := by
  have hs := (fac_spec h).2
  rcases hs with hs | hs | hs | hs
  · omega
  · omega
  · omega
  · exact ⟨hs.2.2, (lat_spec hs.2.2).2.2.1⟩
theorem word4_is {f : Fc} (h : factorR f = true) (h4 : f.kind = 4) {w : BitVec 64} (hw : wordF f w = true) : ∃ k : Int, (0 ≤ k ∧ k < f.rel.n) ∧ w = belowR f.rel k := by
  rw [word4 h4] at hw
  obtain ⟨k, hk, e⟩ := point_is hw
  rw [(tab4 h h4).n] at hk
  exact ⟨k, hk, e⟩
theorem word4_of {f : Fc} (h : factorR f = true) (h4 : f.kind = 4) {k : Int} (hk : 0 ≤ k ∧ k < f.rel.n) : wordF f (belowR f.rel k) = true := by
  have ht := tab4 h h4
  rw [word4 h4, point_word (lat_spec ht.l).2.1 (by rw [ht.n]; exact hk)]
theorem join4 {f : Fc} (h : factorR f = true) (h4 : f.kind = 4) {i j : Int} (hi : 0 ≤ i ∧ i < f.rel.n) (hj : 0 ≤ j ∧ j < f.rel.n) : joinF f (belowR f.rel i) (belowR f.rel j) = belowR f.rel (joinV f.rel i j).1 := by
  rw [joinF, if_pos h4, law_raise (tab4 h h4).l hi hj]
theorem sub4 {f : Fc} (h : factorR f = true) (h4 : f.kind = 4) {i j : Int} (hi : 0 ≤ i ∧ i < f.rel.n) (hj : 0 ≤ j ∧ j < f.rel.n) : subB (belowR f.rel i) (belowR f.rel j) = hasR f.rel i j := by
  have := law_sub (tab4 h h4).l hi hj
  exact (beq_iff_eq.1 this).symm
theorem fac_kind {f : Fc} (h : factorR f = true) : f.kind = 1 ∨ f.kind = 2 ∨ (f.kind = 3 ∧ rightG f.rel = true) ∨ f.kind = 4 := by
  rcases (fac_spec h).2 with hs | hs | hs | hs
  · exact .inl hs.1
  · exact .inr (.inl hs.1)
  · exact .inr (.inr (.inl ⟨hs.1, hs.2.2⟩))
  · exact .inr (.inr (.inr hs.1))
section one
variable {f : Fc} (h : factorR f = true) {a b c : BitVec 64} (ha : wordF f a = true) (hb : wordF f b = true) (hc : wordF f c = true)
include h ha hb
theorem w_join : wordF f (joinF f a b) = true := by
  rcases fac_kind h with k | k | ⟨k, hr⟩ | k
  · rw [join_ne (by omega)]
    rw [word1 k] at *
    obtain ⟨hn, i, hi, rfl⟩ := level_is ha
    obtain ⟨-, j, hj, rfl⟩ := level_is hb
    rw [below_or]; exact level_of hn (by omega)
  · rw [join_ne (by omega)]
    rw [word2 k] at *; exact or_sub ha hb
  · rw [join_ne (by omega)]
    rw [word3 k] at *
    have := gl_or hr a b
    rwa [(closed_eq ha).2, (closed_eq hb).2] at this
  · obtain ⟨i, hi, rfl⟩ := word4_is h k ha
    obtain ⟨j, hj, rfl⟩ := word4_is h k hb
    rw [join4 h k hi hj]; exact word4_of h k (jn_in (tab4 h k).l hi hj)
theorem w_meet : wordF f (a &&& b) = true := by
  rcases fac_kind h with k | k | ⟨k, hr⟩ | k
  · rw [word1 k] at *
    obtain ⟨hn, i, hi, rfl⟩ := level_is ha
    obtain ⟨-, j, hj, rfl⟩ := level_is hb
    rw [below_and]; exact level_of hn (by omega)
  · rw [word2 k] at *; exact sub_trans (and_sub a b) ha
  · rw [word3 k] at *
    have := gl_and hr a b
    rwa [(closed_eq ha).2, (closed_eq hb).2] at this
  · obtain ⟨i, hi, rfl⟩ := word4_is h k ha
    obtain ⟨j, hj, rfl⟩ := word4_is h k hb
    rw [← law_meetw (tab4 h k).l hi hj]; exact word4_of h k (mt_in (tab4 h k).l hi hj)
theorem w_up : subB a (joinF f a b) = true ∧ subB b (joinF f a b) = true := by
  by_cases k : f.kind = 4
  · obtain ⟨i, hi, rfl⟩ := word4_is h k ha
    obtain ⟨j, hj, rfl⟩ := word4_is h k hb
    have hl := tab4 h k
    have hJ := (join_is hl.l hi hj).2
    rw [join4 h k hi hj, sub4 h k hi (jn_in hl.l hi hj), sub4 h k hj (jn_in hl.l hi hj)]
    exact ⟨hJ.a, hJ.b⟩
  · rw [join_ne k]; exact ⟨sub_or a b, sub_or' a b⟩
include hc
theorem w_lub (h1 : subB a c = true) (h2 : subB b c = true) : subB (joinF f a b) c = true := by
  by_cases k : f.kind = 4
  · obtain ⟨i, hi, rfl⟩ := word4_is h k ha
    obtain ⟨j, hj, rfl⟩ := word4_is h k hb
    obtain ⟨m, hm, rfl⟩ := word4_is h k hc
    have hl := tab4 h k
    rw [sub4 h k hi hm] at h1; rw [sub4 h k hj hm] at h2
    rw [join4 h k hi hj, sub4 h k (jn_in hl.l hi hj) hm]
    exact (join_is hl.l hi hj).2.l m h1 h2
  · rw [join_ne k]; exact or_sub h1 h2
end one
/-! ### Elements -/
theorem fits_spec {s : Sh} {e : El} (h : fitsS s e = true) : shR s = true ∧ ∀ i : Nat, i < 8 → (((i : Int) < s.facs.length → wordF (s.facs.getD i fc0) (e i) = true) ∧ (¬ (i : Int) < s.facs.length → e i = 0#64)) := by
  rw [fitsS, Bool.and_eq_true, List.all_eq_true] at h
  refine ⟨h.1, fun i hi => ?_⟩
  have := h.2 (i : Int) (mem_upto.2 (by omega))
  rw [Int.toNat_natCast] at this
  split at this
  · rename_i h3; exact ⟨fun _ => this, fun h4 => absurd h3 h4⟩
  · rename_i h3; exact ⟨fun h4 => absurd h4 h3, fun _ => of_decide_eq_true this⟩
theorem fits_of {s : Sh} {e : El} (h : shR s = true) (hf : ∀ i : Nat, i < 8 → (((i : Int) < s.facs.length → wordF (s.facs.getD i fc0) (e i) = true) ∧ (¬ (i : Int) < s.facs.length → e i = 0#64))) : fitsS s e = true :=
  fits_yes h (k := 8) (by omega) fun j j0 j1 => by
    have := hf j.toNat (by omega)
    rw [Int.toNat_of_nonneg j0] at this; exact this
theorem leq_iff {a b : El} : leqE a b = true ↔ ∀ i : Nat, i < 8 → subB (a i) (b i) = true := by
  rw [leqE, List.all_eq_true]
  constructor
  · intro h i hi
    have := h (i : Int) (mem_upto.2 (by omega))
    rwa [Int.toNat_natCast] at this
  · intro h i hi
    have := mem_upto.1 hi
    exact h i.toNat (by omega)
theorem joinW_in {s : Sh} {a b : El} {i : Nat} (h : (i : Int) < s.facs.length) : joinS s a b i = joinF (s.facs.getD i fc0) (a i) (b i) := by
  show joinW s a b i = _
  rw [joinW, joinF]
  by_cases k : (s.facs.getD i fc0).kind = 4
  · rw [if_pos ⟨h, k⟩, if_pos k]
  · rw [if_neg (fun hc => k hc.2), if_neg k]
theorem joinW_out {s : Sh} {a b : El} {i : Nat} (h : ¬ (i : Int) < s.facs.length) : joinS s a b i = a i ||| b i := by
  show joinW s a b i = _
  rw [joinW, if_neg (fun hc => h hc.1)]
theorem fac_at {s : Sh} (h : shR s = true) {i : Nat} (hi : (i : Int) < s.facs.length) : factorR (s.facs.getD i fc0) = true := by
  have := sh_at h (k := i) (by omega) hi
  rwa [Int.toNat_natCast] at this
section elems
variable {s : Sh} {a b c : El} (ha : fitsS s a = true) (hb : fitsS s b = true) (hc : fitsS s c = true)
include ha hb
theorem e_join : fitsS s (joinS s a b) = true := by
  have h1 := fits_spec ha; have h2 := fits_spec hb
  refine fits_of h1.1 fun i hi => ⟨fun h => ?_, fun h => ?_⟩
  · rw [joinW_in h]; exact w_join (fac_at h1.1 h) ((h1.2 i hi).1 h) ((h2.2 i hi).1 h)
  · rw [joinW_out h, (h1.2 i hi).2 h, (h2.2 i hi).2 h]; rfl
theorem e_meet : fitsS s (meetE a b) = true := by
  have h1 := fits_spec ha; have h2 := fits_spec hb
  refine fits_of h1.1 fun i hi => ⟨fun h => ?_, fun h => ?_⟩
  · exact w_meet (fac_at h1.1 h) ((h1.2 i hi).1 h) ((h2.2 i hi).1 h)
  · show a i &&& b i = _
    rw [(h1.2 i hi).2 h, (h2.2 i hi).2 h]; rfl
theorem e_up : leqE a (joinS s a b) = true ∧ leqE b (joinS s a b) = true := by
  have h1 := fits_spec ha; have h2 := fits_spec hb
  rw [leq_iff, leq_iff]
  refine ⟨fun i hi => ?_, fun i hi => ?_⟩ <;> by_cases h : (i : Int) < s.facs.length
  · rw [joinW_in h]; exact (w_up (fac_at h1.1 h) ((h1.2 i hi).1 h) ((h2.2 i hi).1 h)).1
  · rw [joinW_out h]; exact sub_or _ _
  · rw [joinW_in h]; exact (w_up (fac_at h1.1 h) ((h1.2 i hi).1 h) ((h2.2 i hi).1 h)).2
  · rw [joinW_out h]; exact sub_or' _ _
include hc
theorem e_lub (h1 : leqE a c = true) (h2 : leqE b c = true) : leqE (joinS s a b) c = true := by
  have f1 := fits_spec ha; have f2 := fits_spec hb; have f3 := fits_spec hc
  rw [leq_iff] at *
  intro i hi
  by_cases h : (i : Int) < s.facs.length
  · rw [joinW_in h]; exact w_lub (fac_at f1.1 h) ((f1.2 i hi).1 h) ((f2.2 i hi).1 h) ((f3.2 i hi).1 h) (h1 i hi) (h2 i hi)
  · rw [joinW_out h]; exact or_sub (h1 i hi) (h2 i hi)
end elems
theorem e_down (a b : El) : leqE (meetE a b) a = true ∧ leqE (meetE a b) b = true :=
  ⟨leq_iff.2 fun i _ => and_sub _ _, leq_iff.2 fun i _ => and_sub' _ _⟩
theorem e_glb {a b c : El} (h1 : leqE c a = true) (h2 : leqE c b = true) : leqE c (meetE a b) = true :=
  leq_iff.2 fun i hi => sub_and (leq_iff.1 h1 i hi) (leq_iff.1 h2 i hi)
theorem e_anti {a b : El} (h1 : leqE a b = true) (h2 : leqE b a = true) : eqE a b := fun i hi => sub_anti (leq_iff.1 h1 i hi) (leq_iff.1 h2 i hi)
/-! ### Steps -/
def rankT (r : Rl) (k : Int) : Nat := ((List.range 65).filter fun v => decide (1 ≤ v) && hasB (lev r v) k).length
def rankF (f : Fc) (w : BitVec 64) : Nat := if f.kind = 3 then ((upto 64).filter fun i => goodG f.rel i && hasB w i).length else if f.kind = 4 then rankT f.rel (pointV f.rel w).1 else (lst w).length
def rankTo (s : Sh) (e : El) (k : Int) : Int := ((upto k).map fun i => (rankF (s.facs.getD i.toNat fc0) (e i.toNat) : Int)).sum
def rankS (s : Sh) (e : El) : Int := rankTo s e s.facs.length
end Go.Proofs.YtkdbiooamgnfmaaDoor.M
