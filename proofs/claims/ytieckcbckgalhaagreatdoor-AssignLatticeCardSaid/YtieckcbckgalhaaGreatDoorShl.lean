/-
  The elements of a shape are a lattice, and no row of them rises by more steps than the height: plainly.
-/
import Derived.Test.YtieckcbckgalhaaGreatDoorShp
namespace Go.Proofs.YtieckcbckgalhaaGreatDoor.M
set_option linter.unusedVariables false
theorem sub_refl (a : BitVec 64) : subB a a = true := subB_has.2 fun _ h => h
theorem sub_trans {a b c : BitVec 64} (h : subB a b = true) (h' : subB b c = true) : subB a c = true := subB_has.2 fun j hj => subB_has.1 h' j (subB_has.1 h j hj)
theorem sub_anti {a b : BitVec 64} (h : subB a b = true) (h' : subB b a = true) : a = b := word_eq fun j => Bool.eq_iff_iff.2 ⟨subB_has.1 h j, subB_has.1 h' j⟩
theorem and_sub' (a b : BitVec 64) : subB (a &&& b) b = true := by rw [BitVec.and_comm]; exact and_sub b a
theorem sub_and {a b c : BitVec 64} (h : subB c a = true) (h' : subB c b = true) : subB c (a &&& b) = true := subB_has.2 fun j hj => by
  rw [hasB_and, subB_has.1 h j hj, subB_has.1 h' j hj]; rfl
theorem zero_sub (a : BitVec 64) : subB 0#64 a = true := subB_has.2 fun j hj => by rw [has_zero] at hj; cases hj
theorem level_is {n : Int} {w : BitVec 64} (h : (level n w).2 = true) : (1 ≤ n ∧ n ≤ 64) ∧ ∃ k : Int, (0 ≤ k ∧ k < n) ∧ w = below k := by
  by_cases hn : 1 ≤ n ∧ n ≤ 64
  · refine ⟨hn, Classical.byContradiction fun hno => ?_⟩
    rw [level_none hn fun j a b e => hno ⟨j, ⟨a, b⟩, e⟩] at h; cases h
  · rw [level_no w hn] at h; cases h
theorem level_of {n k : Int} (hn : 1 ≤ n ∧ n ≤ 64) (hk : 0 ≤ k ∧ k < n) : (level n (below k)).2 = true := by
  have := level_word (n := n) (k := k) ⟨hn.1, hn.2, hk.1, hk.2⟩
  rw [wordv_yes ⟨hn.1, hn.2, hk.1, hk.2⟩] at this
  rw [this]
theorem point_is {r : Rl} {w : BitVec 64} (h : (pointV r w).2 = true) : ∃ k : Int, (0 ≤ k ∧ k < pts r) ∧ w = belowR r k := by
  rcases first_cases (fun i => decide (belowR r i = w)) (pts r) with ⟨k, k0, k1, k2, -, -⟩ | ⟨-, e⟩
  · exact ⟨k, ⟨k0, k1⟩, (of_decide_eq_true k2).symm⟩
  · have : pointV r w = (0, false) := e
    rw [this] at h; cases h
/-! ### One factor's words -/
def joinF (f : Fc) (a b : BitVec 64) : BitVec 64 := if f.kind = 4 then raiseV f.rel a b else a ||| b
theorem word1 {f : Fc} (h : f.kind = 1) (w : BitVec 64) : wordF f w = (level f.names.length w).2 := by rw [wordF, if_pos h]
theorem word2 {f : Fc} (h : f.kind = 2) (w : BitVec 64) : wordF f w = subB w (below f.names.length) := by rw [wordF, if_neg (by omega), if_pos h]
theorem word3 {f : Fc} (h : f.kind = 3) (w : BitVec 64) : wordF f w = closedG f.rel w := by rw [wordF, if_neg (by omega), if_neg (by omega), if_pos h]
theorem word4 {f : Fc} (h : f.kind = 4) (w : BitVec 64) : wordF f w = (pointV f.rel w).2 := by rw [wordF, if_neg (by omega), if_neg (by omega), if_neg (by omega)]
theorem closed_eq {r : Rl} {w : BitVec 64} (h : closedG r w = true) : rightG r = true ∧ closeG r w = w := by
  rw [closedG, Bool.and_eq_true, decide_eq_true_eq] at h; exact h
structure Tab4 (f : Fc) : Prop where
  l : latB f.rel = true
  n : pts f.rel = f.rel.n
theorem tab4 {f : Fc} (h : factorR f = true) (h4 : f.kind = 4) : Tab4 f := by
  have hs := (fac_spec h).2
  rcases hs with hs | hs | hs | hs
  · omega
  · omega
  · omega
  · exact ⟨hs.2.2, (lat_spec hs.2.2).2.2.1⟩
theorem word4_is {f : Fc} (h : factorR f = true) (h4 : f.kind = 4) {w : BitVec 64} (hw : wordF f w = true) : ∃ k : Int, (0 ≤ k ∧ k < f.rel.n) ∧ w = belowR f.rel k := by
  rw [word4 h4] at hw
  obtain ⟨k, hk, e⟩ := point_is hw
  rw [(tab4 h h4).n] at hk
  exact ⟨k, hk, e⟩
theorem word4_of {f : Fc} (h : factorR f = true) (h4 : f.kind = 4) {k : Int} (hk : 0 ≤ k ∧ k < f.rel.n) : wordF f (belowR f.rel k) = true := by
  have ht := tab4 h h4
  rw [word4 h4, point_word (lat_spec ht.l).2.1 (by rw [ht.n]; exact hk)]
theorem sub4 {f : Fc} (h : factorR f = true) (h4 : f.kind = 4) {i j : Int} (hi : 0 ≤ i ∧ i < f.rel.n) (hj : 0 ≤ j ∧ j < f.rel.n) : subB (belowR f.rel i) (belowR f.rel j) = hasR f.rel i j := by
  have := law_sub (tab4 h h4).l hi hj
  exact (beq_iff_eq.1 this).symm
theorem fac_kind {f : Fc} (h : factorR f = true) : f.kind = 1 ∨ f.kind = 2 ∨ (f.kind = 3 ∧ rightG f.rel = true) ∨ f.kind = 4 := by
  rcases (fac_spec h).2 with hs | hs | hs | hs
  · exact .inl hs.1
  · exact .inr (.inl hs.1)
  · exact .inr (.inr (.inl ⟨hs.1, hs.2.2⟩))
  · exact .inr (.inr (.inr hs.1))
section one
variable {f : Fc} (h : factorR f = true) {a b c : BitVec 64} (ha : wordF f a = true) (hb : wordF f b = true) (hc : wordF f c = true)
include h ha hb
theorem w_meet : wordF f (a &&& b) = true := by
  rcases fac_kind h with k | k | ⟨k, hr⟩ | k
  · rw [word1 k] at *
    obtain ⟨hn, i, hi, rfl⟩ := level_is ha
    obtain ⟨-, j, hj, rfl⟩ := level_is hb
    rw [below_and]; exact level_of hn (by omega)
  · rw [word2 k] at *; exact sub_trans (and_sub a b) ha
  · rw [word3 k] at *
    have := gl_and hr a b
    rwa [(closed_eq ha).2, (closed_eq hb).2] at this
  · obtain ⟨i, hi, rfl⟩ := word4_is h k ha
    obtain ⟨j, hj, rfl⟩ := word4_is h k hb
    rw [← law_meetw (tab4 h k).l hi hj]; exact word4_of h k (mt_in (tab4 h k).l hi hj)
include hc
end one
theorem w_least {f : Fc} (h : factorR f = true) : wordF f (leastF f) = true ∧ ∀ a, wordF f a = true → subB (leastF f) a = true := by
  have hn := (fac_spec h).1
  rcases fac_kind h with k | k | ⟨k, hr⟩ | k
  · rw [leastF, if_pos (by omega)]
    refine ⟨?_, fun a _ => zero_sub a⟩
    rw [word1 k, show (0#64) = below 0 from rfl]; exact level_of (by omega) (by omega)
  · rw [leastF, if_pos (by omega)]
    exact ⟨by rw [word2 k]; exact zero_sub _, fun a _ => zero_sub a⟩
  · rw [leastF, if_pos (by omega)]
    refine ⟨?_, fun a _ => zero_sub a⟩
    rw [word3 k]
    refine closed_is hr (word_eq fun z => ?_)
    rw [has_zero]
    cases hc : hasB (closeG f.rel 0#64) z with
    | false => rfl
    | true =>
      obtain ⟨o, x, p, y, -, -, -, h4⟩ := (close_has hr _ z).1 hc
      rw [has_zero] at h4; cases h4
  · have ht := tab4 h k
    have he := end_bot ht.l
    rw [leastF, if_neg (by omega)]
    refine ⟨word4_of h k he.2.1, fun a ha => ?_⟩
    obtain ⟨i, hi, rfl⟩ := word4_is h k ha
    rw [sub4 h k he.2.1 hi]; exact he.2.2 i hi.1 hi.2
/-! ### Elements -/
theorem fits_spec {s : Sh} {e : El} (h : fitsS s e = true) : shR s = true ∧ ∀ i : Nat, i < 8 → (((i : Int) < s.facs.length → wordF (s.facs.getD i fc0) (e i) = true) ∧ (¬ (i : Int) < s.facs.length → e i = 0#64)) := by
  rw [fitsS, Bool.and_eq_true, List.all_eq_true] at h
  refine ⟨h.1, fun i hi => ?_⟩
  have := h.2 (i : Int) (mem_upto.2 (by omega))
  rw [Int.toNat_natCast] at this
  split at this
  · rename_i h3; exact ⟨fun _ => this, fun h4 => absurd h3 h4⟩
  · rename_i h3; exact ⟨fun h4 => absurd h4 h3, fun _ => of_decide_eq_true this⟩
theorem fits_of {s : Sh} {e : El} (h : shR s = true) (hf : ∀ i : Nat, i < 8 → (((i : Int) < s.facs.length → wordF (s.facs.getD i fc0) (e i) = true) ∧ (¬ (i : Int) < s.facs.length → e i = 0#64))) : fitsS s e = true :=
  fits_yes h (k := 8) (by omega) fun j j0 j1 => by
    have := hf j.toNat (by omega)
    rw [Int.toNat_of_nonneg j0] at this; exact this
theorem leq_iff {a b : El} : leqE a b = true ↔ ∀ i : Nat, i < 8 → subB (a i) (b i) = true := by
  rw [leqE, List.all_eq_true]
  constructor
  · intro h i hi
    have := h (i : Int) (mem_upto.2 (by omega))
    rwa [Int.toNat_natCast] at this
  · intro h i hi
    have := mem_upto.1 hi
    exact h i.toNat (by omega)
theorem fac_at {s : Sh} (h : shR s = true) {i : Nat} (hi : (i : Int) < s.facs.length) : factorR (s.facs.getD i fc0) = true := by
  have := sh_at h (k := i) (by omega) hi
  rwa [Int.toNat_natCast] at this
section elems
variable {s : Sh} {a b c : El} (ha : fitsS s a = true) (hb : fitsS s b = true) (hc : fitsS s c = true)
include ha hb
theorem e_meet : fitsS s (meetE a b) = true := by
  have h1 := fits_spec ha; have h2 := fits_spec hb
  refine fits_of h1.1 fun i hi => ⟨fun h => ?_, fun h => ?_⟩
  · exact w_meet (fac_at h1.1 h) ((h1.2 i hi).1 h) ((h2.2 i hi).1 h)
  · show a i &&& b i = _
    rw [(h1.2 i hi).2 h, (h2.2 i hi).2 h]; rfl
include hc
end elems
theorem e_down (a b : El) : leqE (meetE a b) a = true ∧ leqE (meetE a b) b = true :=
  ⟨leq_iff.2 fun i _ => and_sub _ _, leq_iff.2 fun i _ => and_sub' _ _⟩
theorem e_glb {a b c : El} (h1 : leqE c a = true) (h2 : leqE c b = true) : leqE c (meetE a b) = true :=
  leq_iff.2 fun i hi => sub_and (leq_iff.1 h1 i hi) (leq_iff.1 h2 i hi)
theorem e_anti {a b : El} (h1 : leqE a b = true) (h2 : leqE b a = true) : eqE a b := fun i hi => sub_anti (leq_iff.1 h1 i hi) (leq_iff.1 h2 i hi)
theorem each_in {s : Sh} {f : Fc → BitVec 64} {i : Nat} (h : shR s = true) (hi : (i : Int) < s.facs.length) : eachS s f i = f (s.facs.getD i fc0) := if_pos ⟨h, hi⟩
theorem each_out {s : Sh} {f : Fc → BitVec 64} {i : Nat} (hi : ¬ (i : Int) < s.facs.length) : eachS s f i = 0#64 := if_neg fun h => hi h.2
theorem e_bot {s : Sh} (h : shR s = true) : fitsS s (eachS s leastF) = true ∧ ∀ a, fitsS s a = true → leqE (eachS s leastF) a = true := by
  refine ⟨fits_of h fun i hi => ⟨fun h2 => ?_, fun h2 => each_out h2⟩, fun a ha => leq_iff.2 fun i hi => ?_⟩
  · rw [each_in h h2]; exact (w_least (fac_at h h2)).1
  · by_cases h2 : (i : Int) < s.facs.length
    · rw [each_in h h2]; exact (w_least (fac_at h h2)).2 _ (((fits_spec ha).2 i hi).1 h2)
    · rw [each_out h2]; exact zero_sub _
/-! ### Steps -/
def rankT (r : Rl) (k : Int) : Nat := ((List.range 65).filter fun v => decide (1 ≤ v) && hasB (lev r v) k).length
def rankF (f : Fc) (w : BitVec 64) : Nat := if f.kind = 3 then ((upto 64).filter fun i => goodG f.rel i && hasB w i).length else if f.kind = 4 then rankT f.rel (pointV f.rel w).1 else (lst w).length
def rankTo (s : Sh) (e : El) (k : Int) : Int := ((upto k).map fun i => (rankF (s.facs.getD i.toNat fc0) (e i.toNat) : Int)).sum
def rankS (s : Sh) (e : El) : Int := rankTo s e s.facs.length
end Go.Proofs.YtieckcbckgalhaaGreatDoor.M
