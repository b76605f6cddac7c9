/-
  The elements of a shape are a lattice, and no row of them rises by more steps than the height: plainly.
-/
import Derived.Test.YtieckcbckgalhaaDoorShp
namespace Go.Proofs.YtieckcbckgalhaaDoor.M
set_option linter.unusedVariables false
theorem zero_sub (a : BitVec 64) : subB 0#64 a = true := subB_has.2 fun j hj => by rw [has_zero] at hj; cases hj
theorem level_is {n : Int} {w : BitVec 64} (h : (level n w).2 = true) : (1 ≤ n ∧ n ≤ 64) ∧ ∃ k : Int, (0 ≤ k ∧ k < n) ∧ w = below k := by
  by_cases hn : 1 ≤ n ∧ n ≤ 64
  · refine ⟨hn, Classical.byContradiction fun hno => ?_⟩
    rw [level_none hn fun j a b e => hno ⟨j, ⟨a, b⟩, e⟩] at h; cases h
  · rw [level_no w hn] at h; cases h
theorem point_is {r : Rl} {w : BitVec 64} (h : (pointV r w).2 = true) : ∃ k : Int, (0 ≤ k ∧ k < pts r) ∧ w = belowR r k := by
  rcases first_cases (fun i => decide (belowR r i = w)) (pts r) with ⟨k, k0, k1, k2, -, -⟩ | ⟨-, e⟩
  · exact ⟨k, ⟨k0, k1⟩, (of_decide_eq_true k2).symm⟩
  · have : pointV r w = (0, false) := e
    rw [this] at h; cases h
/-! ### One factor's words -/
def joinF (f : Fc) (a b : BitVec 64) : BitVec 64 := if f.kind = 4 then raiseV f.rel a b else a ||| b
theorem word1 {f : Fc} (h : f.kind = 1) (w : BitVec 64) : wordF f w = (level f.names.length w).2 := by rw [wordF, if_pos h]
theorem word2 {f : Fc} (h : f.kind = 2) (w : BitVec 64) : wordF f w = subB w (below f.names.length) := by rw [wordF, if_neg (by omega), if_pos h]
theorem word3 {f : Fc} (h : f.kind = 3) (w : BitVec 64) : wordF f w = closedG f.rel w := by rw [wordF, if_neg (by omega), if_neg (by omega), if_pos h]
theorem word4 {f : Fc} (h : f.kind = 4) (w : BitVec 64) : wordF f w = (pointV f.rel w).2 := by rw [wordF, if_neg (by omega), if_neg (by omega), if_neg (by omega)]
structure Tab4 (f : Fc) : Prop where
  l : latB f.rel = true
  n : pts f.rel = f.rel.n
theorem tab4 {f : Fc} (h : factorR f = true) (h4 : f.kind = 4) : Tab4 f := by
  have hs := (fac_spec h).2
  rcases hs with hs | hs | hs | hs
  · omega
  · omega
  · omega
  · exact ⟨hs.2.2, (lat_spec hs.2.2).2.2.1⟩
theorem word4_is {f : Fc} (h : factorR f = true) (h4 : f.kind = 4) {w : BitVec 64} (hw : wordF f w = true) : ∃ k : Int, (0 ≤ k ∧ k < f.rel.n) ∧ w = belowR f.rel k := by
  rw [word4 h4] at hw
  obtain ⟨k, hk, e⟩ := point_is hw
  rw [(tab4 h h4).n] at hk
  exact ⟨k, hk, e⟩
theorem fac_kind {f : Fc} (h : factorR f = true) : f.kind = 1 ∨ f.kind = 2 ∨ (f.kind = 3 ∧ rightG f.rel = true) ∨ f.kind = 4 := by
  rcases (fac_spec h).2 with hs | hs | hs | hs
  · exact .inl hs.1
  · exact .inr (.inl hs.1)
  · exact .inr (.inr (.inl ⟨hs.1, hs.2.2⟩))
  · exact .inr (.inr (.inr hs.1))
section one
variable {f : Fc} (h : factorR f = true) {a b c : BitVec 64} (ha : wordF f a = true) (hb : wordF f b = true) (hc : wordF f c = true)
include h ha hb
include hc
end one
/-! ### Elements -/
theorem fits_spec {s : Sh} {e : El} (h : fitsS s e = true) : shR s = true ∧ ∀ i : Nat, i < 8 → (((i : Int) < s.facs.length → wordF (s.facs.getD i fc0) (e i) = true) ∧ (¬ (i : Int) < s.facs.length → e i = 0#64)) := by
  rw [fitsS, Bool.and_eq_true, List.all_eq_true] at h
  refine ⟨h.1, fun i hi => ?_⟩
  have := h.2 (i : Int) (mem_upto.2 (by omega))
  rw [Int.toNat_natCast] at this
  split at this
  · rename_i h3; exact ⟨fun _ => this, fun h4 => absurd h3 h4⟩
  · rename_i h3; exact ⟨fun h4 => absurd h4 h3, fun _ => of_decide_eq_true this⟩
theorem fac_at {s : Sh} (h : shR s = true) {i : Nat} (hi : (i : Int) < s.facs.length) : factorR (s.facs.getD i fc0) = true := by
  have := sh_at h (k := i) (by omega) hi
  rwa [Int.toNat_natCast] at this
section elems
variable {s : Sh} {a b c : El} (ha : fitsS s a = true) (hb : fitsS s b = true) (hc : fitsS s c = true)
include ha hb
include hc
end elems
theorem each_in {s : Sh} {f : Fc → BitVec 64} {i : Nat} (h : shR s = true) (hi : (i : Int) < s.facs.length) : eachS s f i = f (s.facs.getD i fc0) := if_pos ⟨h, hi⟩
theorem each_out {s : Sh} {f : Fc → BitVec 64} {i : Nat} (hi : ¬ (i : Int) < s.facs.length) : eachS s f i = 0#64 := if_neg fun h => hi h.2
/-! ### Steps -/
def rankT (r : Rl) (k : Int) : Nat := ((List.range 65).filter fun v => decide (1 ≤ v) && hasB (lev r v) k).length
def rankF (f : Fc) (w : BitVec 64) : Nat := if f.kind = 3 then ((upto 64).filter fun i => goodG f.rel i && hasB w i).length else if f.kind = 4 then rankT f.rel (pointV f.rel w).1 else (lst w).length
def rankTo (s : Sh) (e : El) (k : Int) : Int := ((upto k).map fun i => (rankF (s.facs.getD i.toNat fc0) (e i.toNat) : Int)).sum
def rankS (s : Sh) (e : El) : Int := rankTo s e s.facs.length
end Go.Proofs.YtieckcbckgalhaaDoor.M
