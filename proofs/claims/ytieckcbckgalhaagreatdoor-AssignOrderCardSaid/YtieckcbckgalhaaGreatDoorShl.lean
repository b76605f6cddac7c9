/-
  The elements of a shape are a lattice, and no row of them rises by more steps than the height: plainly.
-/
import Derived.Test.YtieckcbckgalhaaGreatDoorShp
namespace Go.Proofs.YtieckcbckgalhaaGreatDoor.M
set_option linter.unusedVariables false
theorem sub_refl (a : BitVec 64) : subB a a = true := subB_has.2 fun _ h => h
theorem sub_trans {a b c : BitVec 64} (h : subB a b = true) (h' : subB b c = true) : subB a c = true := subB_has.2 fun j hj => subB_has.1 h' j (subB_has.1 h j hj)
theorem sub_anti {a b : BitVec 64} (h : subB a b = true) (h' : subB b a = true) : a = b := word_eq fun j => Bool.eq_iff_iff.2 ⟨subB_has.1 h j, subB_has.1 h' j⟩
theorem sub_or' (a b : BitVec 64) : subB b (a ||| b) = true := by rw [BitVec.or_comm]; exact sub_or b a
theorem and_sub' (a b : BitVec 64) : subB (a &&& b) b = true := by rw [BitVec.and_comm]; exact and_sub b a
theorem or_sub {a b c : BitVec 64} (h : subB a c = true) (h' : subB b c = true) : subB (a ||| b) c = true := subB_has.2 fun j hj => by
  rw [hasB_or, Bool.or_eq_true] at hj
  rcases hj with hj | hj
  · exact subB_has.1 h j hj
  · exact subB_has.1 h' j hj
theorem sub_and {a b c : BitVec 64} (h : subB c a = true) (h' : subB c b = true) : subB c (a &&& b) = true := subB_has.2 fun j hj => by
  rw [hasB_and, subB_has.1 h j hj, subB_has.1 h' j hj]; rfl
theorem zero_sub (a : BitVec 64) : subB 0#64 a = true := subB_has.2 fun j hj => by rw [has_zero] at hj; cases hj
theorem and_eq_of_sub {a b : BitVec 64} (h : subB a b = true) : a &&& b = a := sub_anti (and_sub a b) (sub_and (sub_refl a) h)
theorem level_is {n : Int} {w : BitVec 64} (h : (level n w).2 = true) : (1 ≤ n ∧ n ≤ 64) ∧ ∃ k : Int, (0 ≤ k ∧ k < n) ∧ w = below k := by
  by_cases hn : 1 ≤ n ∧ n ≤ 64
  · refine ⟨hn, Classical.byContradiction fun hno => ?_⟩
    rw [level_none hn fun j a b e => hno ⟨j, ⟨a, b⟩, e⟩] at h; cases h
  · rw [level_no w hn] at h; cases h
theorem level_of {n k : Int} (hn : 1 ≤ n ∧ n ≤ 64) (hk : 0 ≤ k ∧ k < n) : (level n (below k)).2 = true := by
  have := level_word (n := n) (k := k) ⟨hn.1, hn.2, hk.1, hk.2⟩
  rw [wordv_yes ⟨hn.1, hn.2, hk.1, hk.2⟩] at this
  rw [this]
theorem point_is {r : Rl} {w : BitVec 64} (h : (pointV r w).2 = true) : ∃ k : Int, (0 ≤ k ∧ k < pts r) ∧ w = belowR r k := by
  rcases first_cases (fun i => decide (belowR r i = w)) (pts r) with ⟨k, k0, k1, k2, -, -⟩ | ⟨-, e⟩
  · exact ⟨k, ⟨k0, k1⟩, (of_decide_eq_true k2).symm⟩
  · have : pointV r w = (0, false) := e
    rw [this] at h; cases h
/-! ### One factor's words -/
def joinF (f : Fc) (a b : BitVec 64) : BitVec 64 := if f.kind = 4 then raiseV f.rel a b else a ||| b
theorem word1 {f : Fc} (h : f.kind = 1) (w : BitVec 64) : wordF f w = (level f.names.length w).2 := by rw [wordF, if_pos h]
theorem word2 {f : Fc} (h : f.kind = 2) (w : BitVec 64) : wordF f w = subB w (below f.names.length) := by rw [wordF, if_neg (by omega), if_pos h]
theorem word3 {f : Fc} (h : f.kind = 3) (w : BitVec 64) : wordF f w = closedG f.rel w := by rw [wordF, if_neg (by omega), if_neg (by omega), if_pos h]
theorem word4 {f : Fc} (h : f.kind = 4) (w : BitVec 64) : wordF f w = (pointV f.rel w).2 := by rw [wordF, if_neg (by omega), if_neg (by omega), if_neg (by omega)]
theorem closed_eq {r : Rl} {w : BitVec 64} (h : closedG r w = true) : rightG r = true ∧ closeG r w = w := by
  rw [closedG, Bool.and_eq_true, decide_eq_true_eq] at h; exact h
theorem join_ne {f : Fc} (h : f.kind ≠ 4) (a b : BitVec 64) : joinF f a b = a ||| b := by rw [joinF, if_neg h]
structure Tab4 (f : Fc) : Prop where
  l : latB f.rel = true
  n : pts f.rel = f.rel.n
theorem tab4 {f : Fc} (h : factorR f = true) (h4 : f.kind = 4) : Tab4 f := by
  have hs := (fac_spec h).2
  rcases hs with hs | hs | hs | hs
  · omega
  · omega
  · omega
  · exact ⟨hs.2.2, (lat_spec hs.2.2).2.2.1⟩
theorem word4_is {f : Fc} (h : factorR f = true) (h4 : f.kind = 4) {w : BitVec 64} (hw : wordF f w = true) : ∃ k : Int, (0 ≤ k ∧ k < f.rel.n) ∧ w = belowR f.rel k := by
  rw [word4 h4] at hw
  obtain ⟨k, hk, e⟩ := point_is hw
  rw [(tab4 h h4).n] at hk
  exact ⟨k, hk, e⟩
theorem word4_of {f : Fc} (h : factorR f = true) (h4 : f.kind = 4) {k : Int} (hk : 0 ≤ k ∧ k < f.rel.n) : wordF f (belowR f.rel k) = true := by
  have ht := tab4 h h4
  rw [word4 h4, point_word (lat_spec ht.l).2.1 (by rw [ht.n]; exact hk)]
theorem join4 {f : Fc} (h : factorR f = true) (h4 : f.kind = 4) {i j : Int} (hi : 0 ≤ i ∧ i < f.rel.n) (hj : 0 ≤ j ∧ j < f.rel.n) : joinF f (belowR f.rel i) (belowR f.rel j) = belowR f.rel (joinV f.rel i j).1 := by
  rw [joinF, if_pos h4, law_raise (tab4 h h4).l hi hj]
theorem sub4 {f : Fc} (h : factorR f = true) (h4 : f.kind = 4) {i j : Int} (hi : 0 ≤ i ∧ i < f.rel.n) (hj : 0 ≤ j ∧ j < f.rel.n) : subB (belowR f.rel i) (belowR f.rel j) = hasR f.rel i j := by
  have := law_sub (tab4 h h4).l hi hj
  exact (beq_iff_eq.1 this).symm
theorem fac_kind {f : Fc} (h : factorR f = true) : f.kind = 1 ∨ f.kind = 2 ∨ (f.kind = 3 ∧ rightG f.rel = true) ∨ f.kind = 4 := by
  rcases (fac_spec h).2 with hs | hs | hs | hs
  · exact .inl hs.1
  · exact .inr (.inl hs.1)
  · exact .inr (.inr (.inl ⟨hs.1, hs.2.2⟩))
  · exact .inr (.inr (.inr hs.1))
section one
variable {f : Fc} (h : factorR f = true) {a b c : BitVec 64} (ha : wordF f a = true) (hb : wordF f b = true) (hc : wordF f c = true)
include h ha hb
theorem w_join : wordF f (joinF f a b) = true := by
  rcases fac_kind h with k | k | ⟨k, hr⟩ | k
  · rw [join_ne (by omega)]
    rw [word1 k] at *
    obtain ⟨hn, i, hi, rfl⟩ := level_is ha
    obtain ⟨-, j, hj, rfl⟩ := level_is hb
    rw [below_or]; exact level_of hn (by omega)
  · rw [join_ne (by omega)]
    rw [word2 k] at *; exact or_sub ha hb
  · rw [join_ne (by omega)]
    rw [word3 k] at *
    have := gl_or hr a b
    rwa [(closed_eq ha).2, (closed_eq hb).2] at this
  · obtain ⟨i, hi, rfl⟩ := word4_is h k ha
    obtain ⟨j, hj, rfl⟩ := word4_is h k hb
    rw [join4 h k hi hj]; exact word4_of h k (jn_in (tab4 h k).l hi hj)
theorem w_meet : wordF f (a &&& b) = true := by
  rcases fac_kind h with k | k | ⟨k, hr⟩ | k
  · rw [word1 k] at *
    obtain ⟨hn, i, hi, rfl⟩ := level_is ha
    obtain ⟨-, j, hj, rfl⟩ := level_is hb
    rw [below_and]; exact level_of hn (by omega)
  · rw [word2 k] at *; exact sub_trans (and_sub a b) ha
  · rw [word3 k] at *
    have := gl_and hr a b
    rwa [(closed_eq ha).2, (closed_eq hb).2] at this
  · obtain ⟨i, hi, rfl⟩ := word4_is h k ha
    obtain ⟨j, hj, rfl⟩ := word4_is h k hb
    rw [← law_meetw (tab4 h k).l hi hj]; exact word4_of h k (mt_in (tab4 h k).l hi hj)
theorem w_up : subB a (joinF f a b) = true ∧ subB b (joinF f a b) = true := by
  by_cases k : f.kind = 4
  · obtain ⟨i, hi, rfl⟩ := word4_is h k ha
    obtain ⟨j, hj, rfl⟩ := word4_is h k hb
    have hl := tab4 h k
    have hJ := (join_is hl.l hi hj).2
    rw [join4 h k hi hj, sub4 h k hi (jn_in hl.l hi hj), sub4 h k hj (jn_in hl.l hi hj)]
    exact ⟨hJ.a, hJ.b⟩
  · rw [join_ne k]; exact ⟨sub_or a b, sub_or' a b⟩
include hc
theorem w_lub (h1 : subB a c = true) (h2 : subB b c = true) : subB (joinF f a b) c = true := by
  by_cases k : f.kind = 4
  · obtain ⟨i, hi, rfl⟩ := word4_is h k ha
    obtain ⟨j, hj, rfl⟩ := word4_is h k hb
    obtain ⟨m, hm, rfl⟩ := word4_is h k hc
    have hl := tab4 h k
    rw [sub4 h k hi hm] at h1; rw [sub4 h k hj hm] at h2
    rw [join4 h k hi hj, sub4 h k (jn_in hl.l hi hj) hm]
    exact (join_is hl.l hi hj).2.l m h1 h2
  · rw [join_ne k]; exact or_sub h1 h2
end one
theorem w_assoc {f : Fc} (h : factorR f = true) {a b c : BitVec 64} (ha : wordF f a = true) (hb : wordF f b = true) (hc : wordF f c = true) : joinF f a (joinF f b c) = joinF f (joinF f a b) c := by
  have hbc := w_join h hb hc; have hab := w_join h ha hb
  have u1 := w_up h ha hbc; have u2 := w_up h hb hc; have u3 := w_up h ha hb; have u4 := w_up h hab hc
  refine sub_anti (w_lub h ha hbc (w_join h hab hc) (sub_trans u3.1 u4.1) (w_lub h hb hc (w_join h hab hc) (sub_trans u3.2 u4.1) u4.2)) ?_
  exact w_lub h hab hc (w_join h ha hbc) (w_lub h ha hb (w_join h ha hbc) u1.1 (sub_trans u2.1 u1.2)) (sub_trans u2.2 u1.2)
theorem w_jm {f : Fc} (h : factorR f = true) {a b : BitVec 64} (ha : wordF f a = true) (hb : wordF f b = true) : joinF f a (a &&& b) = a := by
  have hm := w_meet h ha hb
  exact sub_anti (w_lub h ha hm ha (sub_refl a) (and_sub a b)) (w_up h ha hm).1
theorem w_mj {f : Fc} (h : factorR f = true) {a b : BitVec 64} (ha : wordF f a = true) (hb : wordF f b = true) : a &&& joinF f a b = a := and_eq_of_sub (w_up h ha hb).1
theorem w_least {f : Fc} (h : factorR f = true) : wordF f (leastF f) = true ∧ ∀ a, wordF f a = true → subB (leastF f) a = true := by
  have hn := (fac_spec h).1
  rcases fac_kind h with k | k | ⟨k, hr⟩ | k
  · rw [leastF, if_pos (by omega)]
    refine ⟨?_, fun a _ => zero_sub a⟩
    rw [word1 k, show (0#64) = below 0 from rfl]; exact level_of (by omega) (by omega)
  · rw [leastF, if_pos (by omega)]
    exact ⟨by rw [word2 k]; exact zero_sub _, fun a _ => zero_sub a⟩
  · rw [leastF, if_pos (by omega)]
    refine ⟨?_, fun a _ => zero_sub a⟩
    rw [word3 k]
    refine closed_is hr (word_eq fun z => ?_)
    rw [has_zero]
    cases hc : hasB (closeG f.rel 0#64) z with
    | false => rfl
    | true =>
      obtain ⟨o, x, p, y, -, -, -, h4⟩ := (close_has hr _ z).1 hc
      rw [has_zero] at h4; cases h4
  · have ht := tab4 h k
    have he := end_bot ht.l
    rw [leastF, if_neg (by omega)]
    refine ⟨word4_of h k he.2.1, fun a ha => ?_⟩
    obtain ⟨i, hi, rfl⟩ := word4_is h k ha
    rw [sub4 h k he.2.1 hi]; exact he.2.2 i hi.1 hi.2
theorem w_great {f : Fc} (h : factorR f = true) : wordF f (greatF f) = true ∧ ∀ a, wordF f a = true → subB a (greatF f) = true := by
  have hn := (fac_spec h).1
  rcases fac_kind h with k | k | ⟨k, hr⟩ | k
  · rw [greatF, if_pos k, topv, if_pos (by omega)]
    refine ⟨by rw [word1 k]; exact level_of (by omega) (by omega), fun a ha => ?_⟩
    rw [word1 k] at ha
    obtain ⟨-, i, hi, rfl⟩ := level_is ha
    rw [below_sub hi.1 (by omega) (by omega)]; exact decide_eq_true (by omega)
  · rw [greatF, if_neg (by omega), if_pos k]
    exact ⟨by rw [word2 k]; exact sub_refl _, fun a ha => by rwa [word2 k] at ha⟩
  · rw [greatF, if_neg (by omega), if_neg (by omega), if_pos k]
    refine ⟨?_, fun a ha => ?_⟩
    · rw [word3 k]
      refine closed_is hr (sub_anti (gl_top hr _) ?_)
      have := gl_sub hr (topG f.rel)
      rwa [show topG f.rel &&& topG f.rel = topG f.rel by simp] at this
    · rw [word3 k] at ha
      have := gl_top hr a
      rwa [(closed_eq ha).2] at this
  · have ht := tab4 h k
    have he := end_top ht.l
    rw [greatF, if_neg (by omega), if_neg (by omega), if_neg (by omega)]
    refine ⟨word4_of h k he.2.1, fun a ha => ?_⟩
    obtain ⟨i, hi, rfl⟩ := word4_is h k ha
    rw [sub4 h k hi he.2.1]; exact he.2.2 i hi.1 hi.2
/-! ### Elements -/
theorem fits_spec {s : Sh} {e : El} (h : fitsS s e = true) : shR s = true ∧ ∀ i : Nat, i < 8 → (((i : Int) < s.facs.length → wordF (s.facs.getD i fc0) (e i) = true) ∧ (¬ (i : Int) < s.facs.length → e i = 0#64)) := by
  rw [fitsS, Bool.and_eq_true, List.all_eq_true] at h
  refine ⟨h.1, fun i hi => ?_⟩
  have := h.2 (i : Int) (mem_upto.2 (by omega))
  rw [Int.toNat_natCast] at this
  split at this
  · rename_i h3; exact ⟨fun _ => this, fun h4 => absurd h3 h4⟩
  · rename_i h3; exact ⟨fun h4 => absurd h4 h3, fun _ => of_decide_eq_true this⟩
theorem fits_of {s : Sh} {e : El} (h : shR s = true) (hf : ∀ i : Nat, i < 8 → (((i : Int) < s.facs.length → wordF (s.facs.getD i fc0) (e i) = true) ∧ (¬ (i : Int) < s.facs.length → e i = 0#64))) : fitsS s e = true :=
  fits_yes h (k := 8) (by omega) fun j j0 j1 => by
    have := hf j.toNat (by omega)
    rw [Int.toNat_of_nonneg j0] at this; exact this
theorem leq_iff {a b : El} : leqE a b = true ↔ ∀ i : Nat, i < 8 → subB (a i) (b i) = true := by
  rw [leqE, List.all_eq_true]
  constructor
  · intro h i hi
    have := h (i : Int) (mem_upto.2 (by omega))
    rwa [Int.toNat_natCast] at this
  · intro h i hi
    have := mem_upto.1 hi
    exact h i.toNat (by omega)
theorem joinW_in {s : Sh} {a b : El} {i : Nat} (h : (i : Int) < s.facs.length) : joinS s a b i = joinF (s.facs.getD i fc0) (a i) (b i) := by
  show joinW s a b i = _
  rw [joinW, joinF]
  by_cases k : (s.facs.getD i fc0).kind = 4
  · rw [if_pos ⟨h, k⟩, if_pos k]
  · rw [if_neg (fun hc => k hc.2), if_neg k]
theorem joinW_out {s : Sh} {a b : El} {i : Nat} (h : ¬ (i : Int) < s.facs.length) : joinS s a b i = a i ||| b i := by
  show joinW s a b i = _
  rw [joinW, if_neg (fun hc => h hc.1)]
theorem fac_at {s : Sh} (h : shR s = true) {i : Nat} (hi : (i : Int) < s.facs.length) : factorR (s.facs.getD i fc0) = true := by
  have := sh_at h (k := i) (by omega) hi
  rwa [Int.toNat_natCast] at this
section elems
variable {s : Sh} {a b c : El} (ha : fitsS s a = true) (hb : fitsS s b = true) (hc : fitsS s c = true)
include ha hb
theorem e_join : fitsS s (joinS s a b) = true := by
  have h1 := fits_spec ha; have h2 := fits_spec hb
  refine fits_of h1.1 fun i hi => ⟨fun h => ?_, fun h => ?_⟩
  · rw [joinW_in h]; exact w_join (fac_at h1.1 h) ((h1.2 i hi).1 h) ((h2.2 i hi).1 h)
  · rw [joinW_out h, (h1.2 i hi).2 h, (h2.2 i hi).2 h]; rfl
theorem e_meet : fitsS s (meetE a b) = true := by
  have h1 := fits_spec ha; have h2 := fits_spec hb
  refine fits_of h1.1 fun i hi => ⟨fun h => ?_, fun h => ?_⟩
  · exact w_meet (fac_at h1.1 h) ((h1.2 i hi).1 h) ((h2.2 i hi).1 h)
  · show a i &&& b i = _
    rw [(h1.2 i hi).2 h, (h2.2 i hi).2 h]; rfl
theorem e_up : leqE a (joinS s a b) = true ∧ leqE b (joinS s a b) = true := by
  have h1 := fits_spec ha; have h2 := fits_spec hb
  rw [leq_iff, leq_iff]
  refine ⟨fun i hi => ?_, fun i hi => ?_⟩ <;> by_cases h : (i : Int) < s.facs.length
  · rw [joinW_in h]; exact (w_up (fac_at h1.1 h) ((h1.2 i hi).1 h) ((h2.2 i hi).1 h)).1
  · rw [joinW_out h]; exact sub_or _ _
  · rw [joinW_in h]; exact (w_up (fac_at h1.1 h) ((h1.2 i hi).1 h) ((h2.2 i hi).1 h)).2
  · rw [joinW_out h]; exact sub_or' _ _
theorem e_jm : eqE (joinS s a (meetE a b)) a := fun i hi => by
  have h1 := fits_spec ha; have h2 := fits_spec hb
  by_cases h : (i : Int) < s.facs.length
  · rw [joinW_in h]; exact w_jm (fac_at h1.1 h) ((h1.2 i hi).1 h) ((h2.2 i hi).1 h)
  · rw [joinW_out h]; show a i ||| (a i &&& b i) = a i
    rw [(h1.2 i hi).2 h]; simp
theorem e_mj : eqE (meetE a (joinS s a b)) a := fun i hi => and_eq_of_sub (leq_iff.1 (e_up ha hb).1 i hi)
include hc
theorem e_lub (h1 : leqE a c = true) (h2 : leqE b c = true) : leqE (joinS s a b) c = true := by
  have f1 := fits_spec ha; have f2 := fits_spec hb; have f3 := fits_spec hc
  rw [leq_iff] at *
  intro i hi
  by_cases h : (i : Int) < s.facs.length
  · rw [joinW_in h]; exact w_lub (fac_at f1.1 h) ((f1.2 i hi).1 h) ((f2.2 i hi).1 h) ((f3.2 i hi).1 h) (h1 i hi) (h2 i hi)
  · rw [joinW_out h]; exact or_sub (h1 i hi) (h2 i hi)
theorem e_assoc : eqE (joinS s a (joinS s b c)) (joinS s (joinS s a b) c) := fun i hi => by
  have f1 := fits_spec ha; have f2 := fits_spec hb; have f3 := fits_spec hc
  by_cases h : (i : Int) < s.facs.length
  · rw [joinW_in h, joinW_in h, joinW_in h, joinW_in h]
    exact w_assoc (fac_at f1.1 h) ((f1.2 i hi).1 h) ((f2.2 i hi).1 h) ((f3.2 i hi).1 h)
  · rw [joinW_out h, joinW_out h, joinW_out h, joinW_out h, BitVec.or_assoc]
end elems
theorem e_down (a b : El) : leqE (meetE a b) a = true ∧ leqE (meetE a b) b = true :=
  ⟨leq_iff.2 fun i _ => and_sub _ _, leq_iff.2 fun i _ => and_sub' _ _⟩
theorem e_glb {a b c : El} (h1 : leqE c a = true) (h2 : leqE c b = true) : leqE c (meetE a b) = true :=
  leq_iff.2 fun i hi => sub_and (leq_iff.1 h1 i hi) (leq_iff.1 h2 i hi)
theorem e_anti {a b : El} (h1 : leqE a b = true) (h2 : leqE b a = true) : eqE a b := fun i hi => sub_anti (leq_iff.1 h1 i hi) (leq_iff.1 h2 i hi)
theorem each_in {s : Sh} {f : Fc → BitVec 64} {i : Nat} (h : shR s = true) (hi : (i : Int) < s.facs.length) : eachS s f i = f (s.facs.getD i fc0) := if_pos ⟨h, hi⟩
theorem each_out {s : Sh} {f : Fc → BitVec 64} {i : Nat} (hi : ¬ (i : Int) < s.facs.length) : eachS s f i = 0#64 := if_neg fun h => hi h.2
theorem e_bot {s : Sh} (h : shR s = true) : fitsS s (eachS s leastF) = true ∧ ∀ a, fitsS s a = true → leqE (eachS s leastF) a = true := by
  refine ⟨fits_of h fun i hi => ⟨fun h2 => ?_, fun h2 => each_out h2⟩, fun a ha => leq_iff.2 fun i hi => ?_⟩
  · rw [each_in h h2]; exact (w_least (fac_at h h2)).1
  · by_cases h2 : (i : Int) < s.facs.length
    · rw [each_in h h2]; exact (w_least (fac_at h h2)).2 _ (((fits_spec ha).2 i hi).1 h2)
    · rw [each_out h2]; exact zero_sub _
theorem e_top {s : Sh} (h : shR s = true) : fitsS s (eachS s greatF) = true ∧ ∀ a, fitsS s a = true → leqE a (eachS s greatF) = true := by
  refine ⟨fits_of h fun i hi => ⟨fun h2 => ?_, fun h2 => each_out h2⟩, fun a ha => leq_iff.2 fun i hi => ?_⟩
  · rw [each_in h h2]; exact (w_great (fac_at h h2)).1
  · by_cases h2 : (i : Int) < s.facs.length
    · rw [each_in h h2]; exact (w_great (fac_at h h2)).2 _ (((fits_spec ha).2 i hi).1 h2)
    · rw [each_out h2, ((fits_spec ha).2 i hi).2 h2]; exact zero_sub _
/-! ### Steps -/
def rankT (r : Rl) (k : Int) : Nat := ((List.range 65).filter fun v => decide (1 ≤ v) && hasB (lev r v) k).length
theorem rankT_iff {r : Rl} (ho : orderB r = true) {k : Int} (hk : 0 ≤ k ∧ k < pts r) : ∀ m : Nat, hasB (lev r m) k = true → (∀ v, m < v → hasB (lev r v) k = false) → rankT r k = m := fun m hm hno => by
  have hp := pts_bd r
  have hlt := lev_lt ho hm
  have e : ((List.range 65).filter fun v => decide (1 ≤ v) && hasB (lev r v) k) = (List.range m).map (· + 1) := by
    have h1 : List.range 65 = 0 :: ((List.range m).map (· + 1) ++ (List.range (64 - m)).map (· + (m + 1))) := by
      rw [show 65 = (m + (64 - m)) + 1 by omega, List.range_succ_eq_map, List.range_add, List.map_append, List.map_map]
      simp only [List.cons.injEq, true_and]
      congr 1
      refine List.map_congr_left fun x _ => ?_
      simp only [Function.comp]; omega
    rw [h1, List.filter_cons_of_neg (by simp), List.filter_append]
    have h2 : ((List.range m).map (· + 1)).filter (fun v => decide (1 ≤ v) && hasB (lev r v) k) = (List.range m).map (· + 1) := by
      rw [List.filter_eq_self]
      intro v hv
      rw [List.mem_map] at hv
      obtain ⟨x, hx, rfl⟩ := hv
      rw [List.mem_range] at hx
      rw [lev_mono (show x + 1 ≤ m by omega) hm]; simp
    have h3 : ((List.range (64 - m)).map (· + (m + 1))).filter (fun v => decide (1 ≤ v) && hasB (lev r v) k) = [] := by
      rw [List.filter_eq_nil_iff]
      intro v hv
      rw [List.mem_map] at hv
      obtain ⟨x, -, rfl⟩ := hv
      rw [hno _ (by omega)]; simp
    rw [h2, h3, List.append_nil]
  rw [rankT, e, List.length_map, List.length_range]
theorem rank_ex {r : Rl} (ho : orderB r = true) {k : Int} (hk : 0 ≤ k ∧ k < pts r) : ∃ m : Nat, hasB (lev r m) k = true ∧ (∀ v, m < v → hasB (lev r v) k = false) ∧ rankT r k = m := by
  have hp := pts_bd r
  have h0 : hasB (lev r 0) k = true := (below_has _ _).2 (by omega)
  have key : ∀ n : Nat, (∃ m, m ≤ n ∧ hasB (lev r m) k = true ∧ ∀ v, m < v → v ≤ n → hasB (lev r v) k = false) := fun n => by
    induction n with
    | zero => exact ⟨0, Nat.le_refl _, h0, fun v h1 h2 => by omega⟩
    | succ n ih =>
      obtain ⟨m, h1, h2, h3⟩ := ih
      cases hc : hasB (lev r (n + 1)) k with
      | true => exact ⟨n + 1, Nat.le_refl _, hc, fun v h4 h5 => by omega⟩
      | false =>
        refine ⟨m, by omega, h2, fun v h4 h5 => ?_⟩
        by_cases he : v = n + 1
        · rw [he]; exact hc
        · exact h3 v h4 (by omega)
  obtain ⟨m, h1, h2, h3⟩ := key 64
  have hno : ∀ v, m < v → hasB (lev r v) k = false := fun v hv => by
    by_cases hv2 : v ≤ 64
    · exact h3 v hv hv2
    · cases hc : hasB (lev r v) k with
      | false => rfl
      | true => have := lev_lt ho hc; omega
  exact ⟨m, h2, hno, rankT_iff ho hk m h2 hno⟩
theorem rank_lt {r : Rl} (ho : orderB r = true) {i j : Int} (h : hasR r i j = true) (hne : j ≠ i) : rankT r i < rankT r j := by
  have hb := hasR_bd h
  obtain ⟨m, h1, h2, h3⟩ := rank_ex ho hb.1
  obtain ⟨m', h4, h5, h6⟩ := rank_ex ho hb.2
  rw [h3, h6]
  have h7 := lev_up m h1 h hne
  by_cases hle : m' ≤ m
  · rw [h5 (m + 1) (by omega)] at h7; cases h7
  · omega
theorem rank_long {r : Rl} (ho : orderB r = true) {k : Int} (hk : 0 ≤ k ∧ k < pts r) : (rankT r k : Int) ≤ (longV r).1 := by
  obtain ⟨m, h1, h2, h3⟩ := rank_ex ho hk
  obtain ⟨t, h4, h5, h6⟩ := longF_lev ho 65 0 rfl (.inl rfl)
  have h4' : longF r 65 (below (pts r)) 0 = (t : Int) := h4
  rw [longV, if_pos ho, h4', h3]
  by_cases hle : m ≤ t
  · show (m : Int) ≤ t; omega
  · have := lev_mono (show t + 1 ≤ m by omega) h1
    rw [h5, has_zero] at this; cases this
def rankF (f : Fc) (w : BitVec 64) : Nat := if f.kind = 3 then ((upto 64).filter fun i => goodG f.rel i && hasB w i).length else if f.kind = 4 then rankT f.rel (pointV f.rel w).1 else (lst w).length
theorem filter_lt {A B : Int → Bool} : ∀ l : List Int, (∀ x ∈ l, A x = true → B x = true) → (∃ x ∈ l, B x = true ∧ A x = false) → (l.filter A).length < (l.filter B).length
  | [], _, h => by obtain ⟨x, hx, _⟩ := h; simp at hx
  | y :: l, h1, h2 => by
    have hle : ∀ m : List Int, (∀ x ∈ m, A x = true → B x = true) → (m.filter A).length ≤ (m.filter B).length := fun m hm => by
      induction m with
      | nil => simp
      | cons z m ih =>
        have := ih fun x hx => hm x (by simp [hx])
        have hz := hm z (by simp)
        cases ha : A z with
        | true => rw [List.filter_cons_of_pos ha, List.filter_cons_of_pos (hz ha)]; simp; omega
        | false =>
          rw [List.filter_cons_of_neg (by simp [ha])]
          cases hb : B z with
          | true => rw [List.filter_cons_of_pos hb]; simp; omega
          | false => rw [List.filter_cons_of_neg (by simp [hb])]; exact this
    have hl := hle l fun x hx => h1 x (by simp [hx])
    have hy := h1 y (by simp)
    obtain ⟨x, hx, hbx, hax⟩ := h2
    rcases List.mem_cons.1 hx with rfl | hx
    · rw [List.filter_cons_of_neg (by simp [hax]), List.filter_cons_of_pos hbx]; simp; omega
    · have ih := filter_lt l (fun z hz => h1 z (by simp [hz])) ⟨x, hx, hbx, hax⟩
      cases ha : A y with
      | true => rw [List.filter_cons_of_pos ha, List.filter_cons_of_pos (hy ha)]; simp; omega
      | false =>
        rw [List.filter_cons_of_neg (by simp [ha])]
        cases hb : B y with
        | true => rw [List.filter_cons_of_pos hb]; simp; omega
        | false => rw [List.filter_cons_of_neg (by simp [hb])]; exact ih
theorem sub_ex {a b : BitVec 64} (h : subB a b = true) (hne : a ≠ b) : ∃ j : Int, hasB b j = true ∧ hasB a j = false := Classical.byContradiction fun hno => hne (sub_anti h (subB_has.2 fun j hj => by
  cases hc : hasB a j with
  | true => rfl
  | false => exact absurd ⟨j, hj, hc⟩ hno))
theorem closed_has {r : Rl} (h : rightG r = true) {w : BitVec 64} (hw : closeG r w = w) {o x p y : Int} (h1 : hasR r o p = true) (h2 : hasR r x y = true) (h3 : hasB w (8 * p + y) = true) : hasB w (8 * o + x) = true := by
  rw [← hw]; exact (close_has h w _).2 ⟨o, x, p, y, rfl, h1, h2, h3⟩
theorem rankF_lt {f : Fc} (h : factorR f = true) {a b : BitVec 64} (ha : wordF f a = true) (hb : wordF f b = true) (hs : subB a b = true) (hne : a ≠ b) : rankF f a < rankF f b := by
  obtain ⟨j, hj1, hj2⟩ := sub_ex hs hne
  by_cases k3 : f.kind = 3
  · have hr : rightG f.rel = true := by
      rcases fac_kind h with k | k | ⟨-, hr⟩ | k
      · omega
      · omega
      · exact hr
      · omega
    rw [word3 k3] at ha hb
    have ca := (closed_eq ha).2; have cb := (closed_eq hb).2
    rw [rankF, rankF, if_pos k3, if_pos k3]
    refine filter_lt _ (fun x _ hx => ?_) ?_
    · rw [Bool.and_eq_true] at hx ⊢; exact ⟨hx.1, subB_has.1 hs x hx.2⟩
    · have hsp := right_spec hr
      have hj1' := hj1
      rw [← cb] at hj1'
      obtain ⟨o, x, p, y, rfl, h1, h2, -⟩ := (close_has hr b j).1 hj1'
      have b1 := g_bd hr h1; have b2 := g_bd hr h2
      obtain ⟨q, q1, q2, q3, q4⟩ := new_ex hr o.toNat o (by omega) b1.1.1 b1.1.2
      obtain ⟨t, t1, t2, t3, t4⟩ := new_ex hr x.toNat x (by omega) b2.1.1 b2.1.2
      have nq := (newP_iff hr q).1 q2; have nt := (newP_iff hr t).1 t2
      refine ⟨8 * q + t, mem_upto.2 (by omega), ?_, ?_⟩
      · rw [goodG, show (8 * q + t) / 8 = q by omega, show (8 * q + t) % 8 = t by omega, q2, t2, closed_has hr cb q4 t4 hj1]; rfl
      · cases hc : hasB a (8 * q + t) with
        | false => simp
        | true => rw [closed_has hr ca q3 t3 hc] at hj2; cases hj2
  · by_cases k4 : f.kind = 4
    · obtain ⟨i, hi, rfl⟩ := word4_is h k4 ha
      obtain ⟨m, hm, rfl⟩ := word4_is h k4 hb
      have ht := tab4 h k4
      have ho := (lat_spec ht.l).2.1
      rw [sub4 h k4 hi hm] at hs
      rw [rankF, rankF, if_neg k3, if_neg k3, if_pos k4, if_pos k4, point_word ho (by rw [ht.n]; exact hi), point_word ho (by rw [ht.n]; exact hm)]
      exact rank_lt ho hs fun e => hne (by have e2 : m = i := e; rw [e2])
    · rw [rankF, rankF, if_neg k3, if_neg k3, if_neg k4, if_neg k4]
      exact lst_lt (subB_has.1 hs) hj1 hj2
theorem below_len {k : Int} (h0 : 0 ≤ k) (h : k ≤ 64) : (lst (below k)).length = k.toNat := by
  have e : lst (below k) = upto k := sorted_ext (lst_sorted _) (upto_sorted _) fun x => by rw [mem_lst, below_has, mem_upto]; omega
  rw [e, upto_len]
theorem rankF_le {f : Fc} (h : factorR f = true) {a : BitVec 64} (ha : wordF f a = true) : (rankF f a : Int) ≤ highF f := by
  have hn := (fac_spec h).1
  rcases fac_kind h with k | k | ⟨k, hr⟩ | k
  · rw [word1 k] at ha
    obtain ⟨-, i, hi, rfl⟩ := level_is ha
    rw [rankF, if_neg (by omega), if_neg (by omega), highF, if_pos k, below_len hi.1 (by omega)]; omega
  · rw [word2 k] at ha
    rw [rankF, if_neg (by omega), if_neg (by omega), highF, if_neg (by omega), if_pos k]
    have := nodup_sub (lst a) (lst (below f.names.length)) (lst_nodup a) fun x hx => (mem_lst _ _).2 (subB_has.1 ha x ((mem_lst _ _).1 hx))
    rw [below_len (by omega) (by omega)] at this; omega
  · rw [rankF, if_pos k, highF, if_neg (by omega), if_neg (by omega), if_pos k, ← gl_height hr rfl, metL, List.length_map]
    have : ∀ l : List Int, (l.filter fun i => goodG f.rel i && hasB a i).length ≤ (l.filter (goodG f.rel)).length := fun l => by
      induction l with
      | nil => simp
      | cons z l ih =>
        cases hg : goodG f.rel z with
        | true =>
          rw [List.filter_cons_of_pos hg]
          cases hz : hasB a z with
          | true => rw [List.filter_cons_of_pos (by simp [hg, hz])]; simp; omega
          | false => rw [List.filter_cons_of_neg (by simp [hz])]; simp; omega
        | false => rw [List.filter_cons_of_neg (by simp [hg]), List.filter_cons_of_neg (by simp [hg])]; exact ih
    have := this (upto 64)
    omega
  · obtain ⟨i, hi, rfl⟩ := word4_is h k ha
    have ht := tab4 h k
    have ho := (lat_spec ht.l).2.1
    rw [rankF, if_neg (by omega), if_pos k, highF, if_neg (by omega), if_neg (by omega), if_neg (by omega), point_word ho (by rw [ht.n]; exact hi)]
    exact rank_long ho (by rw [ht.n]; exact hi)
def rankTo (s : Sh) (e : El) (k : Int) : Int := ((upto k).map fun i => (rankF (s.facs.getD i.toNat fc0) (e i.toNat) : Int)).sum
def rankS (s : Sh) (e : El) : Int := rankTo s e s.facs.length
theorem sum_le {F G : Int → Int} : ∀ l : List Int, (∀ x ∈ l, F x ≤ G x) → (l.map F).sum ≤ (l.map G).sum
  | [], _ => by simp
  | y :: l, h => by
    have := sum_le l fun x hx => h x (by simp [hx])
    have := h y (by simp)
    simp; omega
theorem sum_lt {F G : Int → Int} : ∀ l : List Int, (∀ x ∈ l, F x ≤ G x) → (∃ x ∈ l, F x < G x) → (l.map F).sum < (l.map G).sum
  | [], _, h => by obtain ⟨x, hx, _⟩ := h; simp at hx
  | y :: l, h, h2 => by
    have hle := sum_le l fun x hx => h x (by simp [hx])
    have hy := h y (by simp)
    obtain ⟨x, hx, hxl⟩ := h2
    rcases List.mem_cons.1 hx with rfl | hx
    · simp; omega
    · have := sum_lt l (fun z hz => h z (by simp [hz])) ⟨x, hx, hxl⟩
      simp; omega
theorem rank_pos (s : Sh) (e : El) : 0 ≤ rankS s e := by
  have := sum_le (F := fun _ => 0) (G := fun i => (rankF (s.facs.getD i.toNat fc0) (e i.toNat) : Int)) (upto s.facs.length) fun x _ => by omega
  rw [rankS, rankTo]
  refine Int.le_trans ?_ this
  have hz : ∀ l : List Int, (l.map fun _ => (0 : Int)).sum = 0 := fun l => by
    induction l with
    | nil => rfl
    | cons y l ih => rw [List.map_cons, List.sum_cons, ih]; rfl
  rw [hz]; exact Int.le_refl _
theorem rankS_le {s : Sh} {e : El} (h : fitsS s e = true) : rankS s e ≤ heightS s := by
  have hf := fits_spec h
  have hs := sh_spec hf.1
  rw [heightS, if_pos hf.1, rankS, rankTo, sumTo]
  refine sum_le _ fun x hx => ?_
  have := mem_upto.1 hx
  have h2 := (hf.2 x.toNat (by omega)).1 (by omega)
  exact rankF_le (fac_at hf.1 (by omega)) h2
theorem rankS_lt {s : Sh} {a b : El} (ha : fitsS s a = true) (hb : fitsS s b = true) (hl : leqE a b = true) (hne : ¬ eqE b a) : rankS s a < rankS s b := by
  have fa := fits_spec ha; have fb := fits_spec hb
  have hs := sh_spec fa.1
  rw [leq_iff] at hl
  have hex : ∃ i : Nat, i < 8 ∧ b i ≠ a i := Classical.byContradiction fun hno => hne fun i hi => Classical.byContradiction fun h => hno ⟨i, hi, h⟩
  obtain ⟨i, hi, hd⟩ := hex
  have hin : (i : Int) < s.facs.length := Classical.byContradiction fun h => hd (by rw [(fb.2 i hi).2 h, (fa.2 i hi).2 h])
  rw [rankS, rankS, rankTo, rankTo]
  refine sum_lt _ (fun x hx => ?_) ⟨i, mem_upto.2 (by omega), ?_⟩
  · have := mem_upto.1 hx
    have hx8 : x.toNat < 8 := by omega
    have hxl : ((x.toNat : Nat) : Int) < s.facs.length := by omega
    by_cases he : a x.toNat = b x.toNat
    · rw [he]; exact Int.le_refl _
    · have := rankF_lt (fac_at fa.1 hxl) ((fa.2 _ hx8).1 hxl) ((fb.2 _ hx8).1 hxl) (hl _ hx8) he
      omega
  · rw [Int.toNat_natCast]
    have := rankF_lt (fac_at fa.1 hin) ((fa.2 i hi).1 hin) ((fb.2 i hi).1 hin) (hl i hi) (fun e => hd e.symm)
    omega
end Go.Proofs.YtieckcbckgalhaaGreatDoor.M
