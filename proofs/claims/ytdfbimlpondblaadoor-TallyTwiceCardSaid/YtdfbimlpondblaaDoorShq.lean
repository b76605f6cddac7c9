/-
  What the walks over shapes lean on, plainly.
-/
import Derived.Test.YtdfbimlpondblaaDoorShp
namespace Go.Proofs.YtdfbimlpondblaaDoor.M
set_option linter.unusedVariables false
/-! ### One factor's words -/
def joinF (f : Fc) (a b : BitVec 64) : BitVec 64 := if f.kind = 4 then raiseV f.rel a b else a ||| b
structure Tab4 (f : Fc) : Prop where
  l : latB f.rel = true
  n : pts f.rel = f.rel.n
section one
variable {f : Fc} (h : factorR f = true) {a b c : BitVec 64} (ha : wordF f a = true) (hb : wordF f b = true) (hc : wordF f c = true)
include h ha hb
include hc
end one
/-! ### Elements -/
section elems
variable {s : Sh} {a b c : El} (ha : fitsS s a = true) (hb : fitsS s b = true) (hc : fitsS s c = true)
include ha hb
include hc
end elems
/-! ### Steps -/
def rankT (r : Rl) (k : Int) : Nat := ((List.range 65).filter fun v => decide (1 ≤ v) && hasB (lev r v) k).length
def rankF (f : Fc) (w : BitVec 64) : Nat := if f.kind = 3 then ((upto 64).filter fun i => goodG f.rel i && hasB w i).length else if f.kind = 4 then rankT f.rel (pointV f.rel w).1 else (lst w).length
def rankTo (s : Sh) (e : El) (k : Int) : Int := ((upto k).map fun i => (rankF (s.facs.getD i.toNat fc0) (e i.toNat) : Int)).sum
def rankS (s : Sh) (e : El) : Int := rankTo s e s.facs.length
end Go.Proofs.YtdfbimlpondblaaDoor.M
namespace Go.Proofs.YtdfbimlpondblaaDoor.M
set_option linter.unusedVariables false
theorem meet_put {a b e : El} {k : Int} (he : e = mixE (meetE a b) a k) (k0 : 0 ≤ k) : putE e k.toNat (e k.toNat &&& b k.toNat) = mixE (meetE a b) a (k + 1) := by
  subst he
  exact mix_put k0 (by rw [mix_at k0]; rfl)
theorem joinW_4 {s : Sh} {a b : El} {k : Int} (k0 : 0 ≤ k) (k1 : k < s.facs.length) (h4 : (s.facs.getD k.toNat fc0).kind = 4) : joinS s a b k.toNat = raiseV (s.facs.getD k.toNat fc0).rel (a k.toNat) (b k.toNat) := if_pos ⟨by omega, h4⟩
theorem joinW_o {s : Sh} {a b : El} {k : Int} (k0 : 0 ≤ k) (h : ¬ (k < s.facs.length ∧ (s.facs.getD k.toNat fc0).kind = 4)) : joinS s a b k.toNat = a k.toNat ||| b k.toNat := if_neg fun hc => h ⟨by omega, hc.2⟩
def endF (t : Bool) : Fc → BitVec 64 := if t = true then greatF else leastF
def bigN (l : List Tx) : Bool := decide (70 < l.length) || l.any fun t => decide (40 < t.size)
def bigS (s : Sh) : Bool := decide (12 < s.facs.length) || s.facs.any fun f => bigN f.names
theorem big_1 {s : Sh} (h : 12 < s.facs.length) : bigS s = true := by rw [bigS, decide_eq_true h]; rfl
theorem big_2 {s : Sh} {k : Int} (k0 : 0 ≤ k) (k1 : k < s.facs.length) (h : bigN (s.facs.getD k.toNat fc0).names = true) : bigS s = true := by
  rw [bigS, Bool.or_eq_true, List.any_eq_true]
  exact .inr ⟨_, List.mem_of_getElem? (getD_at (d := fc0) k0 k1), h⟩
theorem bigN_1 {l : List Tx} (h : 70 < l.length) : bigN l = true := by rw [bigN, decide_eq_true h]; rfl
theorem bigN_2 {l : List Tx} {k : Int} (k0 : 0 ≤ k) (k1 : k < l.length) (h : 40 < (l.getD k.toNat tx0).size) : bigN l = true := by
  rw [bigN, Bool.or_eq_true, List.any_eq_true]
  exact .inr ⟨_, List.mem_of_getElem? (getD_at (d := tx0) k0 k1), decide_eq_true h⟩
theorem bigN_no {l : List Tx} {k : Int} (h : ¬ 70 < l.length) (hk : ¬ k < l.length) (hf : ∀ j : Int, 0 ≤ j → j < k → ¬ 40 < (l.getD j.toNat tx0).size) : bigN l = false := by
  rw [bigN, decide_eq_false h, Bool.false_or, List.any_eq_false]
  intro x hx
  obtain ⟨i, hi, rfl⟩ := List.getElem_of_mem hx
  have := hf i (by omega) (by omega)
  rw [Int.toNat_natCast, List.getD_eq_getElem?_getD, List.getElem?_eq_getElem hi] at this
  simpa using this
theorem big_no {s : Sh} {k : Int} (h : ¬ 12 < s.facs.length) (hk : ¬ k < s.facs.length) (hf : ∀ j : Int, 0 ≤ j → j < k → bigN (s.facs.getD j.toNat fc0).names = false) : bigS s = false := by
  rw [bigS, decide_eq_false h, Bool.false_or, List.any_eq_false]
  intro x hx
  obtain ⟨i, hi, rfl⟩ := List.getElem_of_mem hx
  have := hf i (by omega) (by omega)
  rw [Int.toNat_natCast, List.getD_eq_getElem?_getD, List.getElem?_eq_getElem hi] at this
  simpa using this
theorem big_spec {s : Sh} (h : bigS s = false) : s.facs.length ≤ 12 ∧ ∀ f ∈ s.facs, f.names.length ≤ 70 := by
  rw [bigS, Bool.or_eq_false_iff, decide_eq_false_iff_not, List.any_eq_false] at h
  refine ⟨by omega, fun f hf => ?_⟩
  have := h.2 f hf
  rw [Bool.not_eq_true, bigN, Bool.or_eq_false_iff, decide_eq_false_iff_not] at this
  omega
end Go.Proofs.YtdfbimlpondblaaDoor.M
namespace Go.Proofs.YtdfbimlpondblaaDoor.E
open Go Go.RowKit Go.Proofs.YtdfbimlpondblaaDoor.M
set_option linter.unusedVariables false
theorem join_put4 {s : Shp} {a b e : El} {k : Int} (he : e = mixE (joinS s.sh a b) a k) (k0 : 0 ≤ k) (k1 : k < s.facs.length) (h4 : (s.facs.getD k.toNat fac0).kind = 4) : putE e k.toNat (raiseV (s.facs.getD k.toNat fac0).rel (e k.toNat) (b k.toNat)) = mixE (joinS s.sh a b) a (k + 1) := by
  subst he
  exact mix_put k0 (by rw [mix_at k0, joinW_4 k0 (by rw [sh_len]; exact k1) (by rw [sh_get]; exact h4), sh_get]; rfl)
theorem join_putO {s : Shp} {a b e : El} {k : Int} (he : e = mixE (joinS s.sh a b) a k) (k0 : 0 ≤ k) (h : ¬ (k < s.facs.length ∧ (s.facs.getD k.toNat fac0).kind = 4)) : putE e k.toNat (e k.toNat ||| b k.toNat) = mixE (joinS s.sh a b) a (k + 1) := by
  subst he
  exact mix_put k0 (by rw [mix_at k0, joinW_o k0 (by rw [sh_len, sh_get]; exact h)])
end Go.Proofs.YtdfbimlpondblaaDoor.E
