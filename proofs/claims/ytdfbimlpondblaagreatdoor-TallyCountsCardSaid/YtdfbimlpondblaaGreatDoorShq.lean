/-
  What the walks over shapes lean on, plainly.
-/
import Derived.Test.YtdfbimlpondblaaGreatDoorShl
namespace Go.Proofs.YtdfbimlpondblaaGreatDoor.M
set_option linter.unusedVariables false
theorem meet_put {a b e : El} {k : Int} (he : e = mixE (meetE a b) a k) (k0 : 0 ≤ k) : putE e k.toNat (e k.toNat &&& b k.toNat) = mixE (meetE a b) a (k + 1) := by
  subst he
  exact mix_put k0 (by rw [mix_at k0]; rfl)
theorem meet_putR {a b e : El} {k : Int} (he : e = mixE (meetE a b) el0 k) (k0 : 0 ≤ k) : putE e k.toNat (a k.toNat &&& b k.toNat) = mixE (meetE a b) el0 (k + 1) := by
  subst he
  exact mix_put k0 rfl
theorem put_put (e : El) (i : Nat) (x y : BitVec 64) : putE (putE e i x) i y = putE e i y := funext fun j => by
  unfold putE; split <;> rfl
theorem joinW_4 {s : Sh} {a b : El} {k : Int} (k0 : 0 ≤ k) (k1 : k < s.facs.length) (h4 : (s.facs.getD k.toNat fc0).kind = 4) : joinS s a b k.toNat = raiseV (s.facs.getD k.toNat fc0).rel (a k.toNat) (b k.toNat) := if_pos ⟨by omega, h4⟩
theorem joinW_o {s : Sh} {a b : El} {k : Int} (k0 : 0 ≤ k) (h : ¬ (k < s.facs.length ∧ (s.facs.getD k.toNat fc0).kind = 4)) : joinS s a b k.toNat = a k.toNat ||| b k.toNat := if_neg fun hc => h ⟨by omega, hc.2⟩
def endF (t : Bool) : Fc → BitVec 64 := if t = true then greatF else leastF
def bigN (l : List Tx) : Bool := decide (70 < l.length) || l.any fun t => decide (40 < t.size)
def bigS (s : Sh) : Bool := decide (12 < s.facs.length) || s.facs.any fun f => bigN f.names
theorem big_1 {s : Sh} (h : 12 < s.facs.length) : bigS s = true := by rw [bigS, decide_eq_true h]; rfl
theorem big_2 {s : Sh} {k : Int} (k0 : 0 ≤ k) (k1 : k < s.facs.length) (h : bigN (s.facs.getD k.toNat fc0).names = true) : bigS s = true := by
  rw [bigS, Bool.or_eq_true, List.any_eq_true]
  exact .inr ⟨_, List.mem_of_getElem? (getD_at (d := fc0) k0 k1), h⟩
theorem bigN_1 {l : List Tx} (h : 70 < l.length) : bigN l = true := by rw [bigN, decide_eq_true h]; rfl
theorem bigN_2 {l : List Tx} {k : Int} (k0 : 0 ≤ k) (k1 : k < l.length) (h : 40 < (l.getD k.toNat tx0).size) : bigN l = true := by
  rw [bigN, Bool.or_eq_true, List.any_eq_true]
  exact .inr ⟨_, List.mem_of_getElem? (getD_at (d := tx0) k0 k1), decide_eq_true h⟩
theorem bigN_no {l : List Tx} {k : Int} (h : ¬ 70 < l.length) (hk : ¬ k < l.length) (hf : ∀ j : Int, 0 ≤ j → j < k → ¬ 40 < (l.getD j.toNat tx0).size) : bigN l = false := by
  rw [bigN, decide_eq_false h, Bool.false_or, List.any_eq_false]
  intro x hx
  obtain ⟨i, hi, rfl⟩ := List.getElem_of_mem hx
  have := hf i (by omega) (by omega)
  rw [Int.toNat_natCast, List.getD_eq_getElem?_getD, List.getElem?_eq_getElem hi] at this
  simpa using this
theorem big_no {s : Sh} {k : Int} (h : ¬ 12 < s.facs.length) (hk : ¬ k < s.facs.length) (hf : ∀ j : Int, 0 ≤ j → j < k → bigN (s.facs.getD j.toNat fc0).names = false) : bigS s = false := by
  rw [bigS, decide_eq_false h, Bool.false_or, List.any_eq_false]
  intro x hx
  obtain ⟨i, hi, rfl⟩ := List.getElem_of_mem hx
  have := hf i (by omega) (by omega)
  rw [Int.toNat_natCast, List.getD_eq_getElem?_getD, List.getElem?_eq_getElem hi] at this
  simpa using this
theorem big_spec {s : Sh} (h : bigS s = false) : s.facs.length ≤ 12 ∧ ∀ f ∈ s.facs, f.names.length ≤ 70 := by
  rw [bigS, Bool.or_eq_false_iff, decide_eq_false_iff_not, List.any_eq_false] at h
  refine ⟨by omega, fun f hf => ?_⟩
  have := h.2 f hf
  rw [Bool.not_eq_true, bigN, Bool.or_eq_false_iff, decide_eq_false_iff_not] at this
  omega
end Go.Proofs.YtdfbimlpondblaaGreatDoor.M
namespace Go.Proofs.YtdfbimlpondblaaGreatDoor.E
open Go Go.RowKit Go.Proofs.YtdfbimlpondblaaGreatDoor.M
set_option linter.unusedVariables false
theorem join_put4 {s : Shp} {a b e : El} {k : Int} (he : e = mixE (joinS s.sh a b) a k) (k0 : 0 ≤ k) (k1 : k < s.facs.length) (h4 : (s.facs.getD k.toNat fac0).kind = 4) : putE e k.toNat (raiseV (s.facs.getD k.toNat fac0).rel (e k.toNat) (b k.toNat)) = mixE (joinS s.sh a b) a (k + 1) := by
  subst he
  exact mix_put k0 (by rw [mix_at k0, joinW_4 k0 (by rw [sh_len]; exact k1) (by rw [sh_get]; exact h4), sh_get]; rfl)
theorem join_putO {s : Shp} {a b e : El} {k : Int} (he : e = mixE (joinS s.sh a b) a k) (k0 : 0 ≤ k) (h : ¬ (k < s.facs.length ∧ (s.facs.getD k.toNat fac0).kind = 4)) : putE e k.toNat (e k.toNat ||| b k.toNat) = mixE (joinS s.sh a b) a (k + 1) := by
  subst he
  exact mix_put k0 (by rw [mix_at k0, joinW_o k0 (by rw [sh_len, sh_get]; exact h)])
theorem join_putR4 {s : Shp} {a b e : El} {k : Int} {x : BitVec 64} (he : e = mixE (joinS s.sh a b) el0 k) (k0 : 0 ≤ k) (k1 : k < s.facs.length) (h4 : (s.facs.getD k.toNat fac0).kind = 4) : putE (putE e k.toNat x) k.toNat (raiseV (s.facs.getD k.toNat fac0).rel (a k.toNat) (b k.toNat)) = mixE (joinS s.sh a b) el0 (k + 1) := by
  subst he
  rw [put_put]
  exact mix_put k0 (by rw [joinW_4 k0 (by rw [sh_len]; exact k1) (by rw [sh_get]; exact h4), sh_get]; rfl)
theorem join_putRO {s : Shp} {a b e : El} {k : Int} (he : e = mixE (joinS s.sh a b) el0 k) (k0 : 0 ≤ k) (h : ¬ (k < s.facs.length ∧ (s.facs.getD k.toNat fac0).kind = 4)) : putE e k.toNat (a k.toNat ||| b k.toNat) = mixE (joinS s.sh a b) el0 (k + 1) := by
  subst he
  exact mix_put k0 (by rw [joinW_o k0 (by rw [sh_len, sh_get]; exact h)])
end Go.Proofs.YtdfbimlpondblaaGreatDoor.E
