/-
  What the walks over shapes lean on, plainly.
-/
import Derived.Test.YtkdbiooamgnfmaaGreatDoorShl
namespace Go.Proofs.YtkdbiooamgnfmaaGreatDoor.M
set_option linter.unusedVariables false
theorem fac_no {f : Fc} (h : namedF f.names = false) : factorR f = false := by rw [factorR, h]; rfl
theorem fac_12 {f : Fc} (h : namedF f.names = true) (hk : f.kind = 1 ∨ f.kind = 2) : factorR f = decide (pts f.rel = 0) := by rw [factorR, h, if_pos hk]; rfl
theorem fac_12s {f : Fc} (h : namedF f.names = true) (hk : f.kind = 1 ∨ f.kind = 2) : factorR f = decide ((plainR f.rel).eq (plainR Rl.none)) := by
  rw [fac_12 h hk, Bool.eq_iff_iff, decide_eq_true_eq, decide_eq_true_eq, same_none]
theorem fac_3 {f : Fc} (h : namedF f.names = true) (hk : f.kind = 3) : factorR f = (decide (f.rel.n = f.names.length) && rightG f.rel) := by rw [factorR, h, if_neg (by omega), if_pos hk]; rfl
theorem fac_4 {f : Fc} (h : namedF f.names = true) (hk : f.kind = 4) : factorR f = (decide (f.rel.n = f.names.length) && latB f.rel) := by rw [factorR, h, if_neg (by omega), if_neg (by omega), if_pos hk]; rfl
theorem fac_x {f : Fc} (h1 : ¬ f.kind = 1) (h2 : ¬ f.kind = 2) (h3 : ¬ f.kind = 3) (h4 : ¬ f.kind = 4) : factorR f = false := by
  rw [factorR, if_neg (by omega), if_neg h3, if_neg h4]; simp
theorem fac_3n {f : Fc} (hk : f.kind = 3) (h : ¬ f.rel.n = f.names.length) : factorR f = false := by rw [factorR, if_neg (by omega), if_pos hk, decide_eq_false h]; simp
theorem fac_4n {f : Fc} (hk : f.kind = 4) (h : ¬ f.rel.n = f.names.length) : factorR f = false := by rw [factorR, if_neg (by omega), if_neg (by omega), if_pos hk, decide_eq_false h]; simp
theorem fac_3y {f : Fc} (h : namedF f.names = true) (hk : f.kind = 3) (hn : f.rel.n = f.names.length) : factorR f = rightG f.rel := by rw [fac_3 h hk, decide_eq_true hn]; rfl
theorem fac_4y {f : Fc} (h : namedF f.names = true) (hk : f.kind = 4) (hn : f.rel.n = f.names.length) : factorR f = latB f.rel := by rw [fac_4 h hk, decide_eq_true hn]; rfl
theorem wordx {f : Fc} (h1 : ¬ f.kind = 1) (h2 : ¬ f.kind = 2) (h3 : ¬ f.kind = 3) (w : BitVec 64) : wordF f w = (pointV f.rel w).2 := by rw [wordF, if_neg h1, if_neg h2, if_neg h3]
theorem high_bd {f : Fc} (h : factorR f = true) : 0 ≤ highF f ∧ highF f ≤ 64 := by
  have hn := (fac_spec h).1
  rcases (fac_spec h).2 with k | k | ⟨k, k2, k3⟩ | ⟨k, k2, k3⟩
  · rw [highF, if_pos k.1]; omega
  · rw [highF, if_neg (by omega), if_pos k.1]; omega
  · rw [highF, if_neg (by omega), if_neg (by omega), if_pos k, ← height_yes k3]
    have hs := right_spec k3
    have hb := @cls_bd f.rel (pts f.rel) (by omega)
    have h1 : 0 ≤ clsTo f.rel (pts f.rel) * clsTo f.rel (pts f.rel) := Int.mul_nonneg hb.1 hb.1
    have h2 : clsTo f.rel (pts f.rel) * clsTo f.rel (pts f.rel) ≤ 8 * 8 := Int.mul_le_mul (by omega) (by omega) hb.1 (by omega)
    omega
  · rw [highF, if_neg (by omega), if_neg (by omega), if_neg (by omega)]
    obtain ⟨m, h1, -, h3⟩ := longF_lev (lat_spec k3).2.1 65 0 rfl (.inl rfl)
    have h1' : longF f.rel 65 (below (pts f.rel)) 0 = (m : Int) := h1
    rw [longV, if_pos (lat_spec k3).2.1, h1']
    have hp := pts_bd f.rel
    rcases h3 with h3 | h3
    · subst h3; exact ⟨Int.le_refl _, by omega⟩
    · have := lev_len (lat_spec k3).2.1 m h3
      have := lst_pos h3
      show 0 ≤ (m : Int) ∧ (m : Int) ≤ 64
      omega
theorem sum_bd {s : Sh} (h : shR s = true) : ∀ k : Nat, (k : Int) ≤ s.facs.length → 0 ≤ sumTo s k ∧ sumTo s k ≤ 64 * k
  | 0, _ => ⟨Int.le_refl _, Int.le_refl _⟩
  | k + 1, hk => by
    have ih := sum_bd h k (by omega)
    have h1 := sum_next (s := s) (k := (k : Int)) (by omega)
    have h2 := high_bd (sh_at h (k := (k : Int)) (by omega) (by omega))
    have h3 : sumTo s ((k + 1 : Nat) : Int) = sumTo s ((k : Int) + 1) := rfl
    rw [h3, ← h1]; omega
theorem meet_put {a b e : El} {k : Int} (he : e = mixE (meetE a b) a k) (k0 : 0 ≤ k) : putE e k.toNat (e k.toNat &&& b k.toNat) = mixE (meetE a b) a (k + 1) := by
  subst he
  exact mix_put k0 (by rw [mix_at k0]; rfl)
theorem joinW_4 {s : Sh} {a b : El} {k : Int} (k0 : 0 ≤ k) (k1 : k < s.facs.length) (h4 : (s.facs.getD k.toNat fc0).kind = 4) : joinS s a b k.toNat = raiseV (s.facs.getD k.toNat fc0).rel (a k.toNat) (b k.toNat) := if_pos ⟨by omega, h4⟩
theorem joinW_o {s : Sh} {a b : El} {k : Int} (k0 : 0 ≤ k) (h : ¬ (k < s.facs.length ∧ (s.facs.getD k.toNat fc0).kind = 4)) : joinS s a b k.toNat = a k.toNat ||| b k.toNat := if_neg fun hc => h ⟨by omega, hc.2⟩
def endF (t : Bool) : Fc → BitVec 64 := if t = true then greatF else leastF
def bigN (l : List Tx) : Bool := decide (70 < l.length) || l.any fun t => decide (40 < t.size)
def bigS (s : Sh) : Bool := decide (12 < s.facs.length) || s.facs.any fun f => bigN f.names
theorem big_1 {s : Sh} (h : 12 < s.facs.length) : bigS s = true := by rw [bigS, decide_eq_true h]; rfl
theorem big_2 {s : Sh} {k : Int} (k0 : 0 ≤ k) (k1 : k < s.facs.length) (h : bigN (s.facs.getD k.toNat fc0).names = true) : bigS s = true := by
  rw [bigS, Bool.or_eq_true, List.any_eq_true]
  exact .inr ⟨_, List.mem_of_getElem? (getD_at (d := fc0) k0 k1), h⟩
theorem bigN_1 {l : List Tx} (h : 70 < l.length) : bigN l = true := by rw [bigN, decide_eq_true h]; rfl
theorem bigN_2 {l : List Tx} {k : Int} (k0 : 0 ≤ k) (k1 : k < l.length) (h : 40 < (l.getD k.toNat tx0).size) : bigN l = true := by
  rw [bigN, Bool.or_eq_true, List.any_eq_true]
  exact .inr ⟨_, List.mem_of_getElem? (getD_at (d := tx0) k0 k1), decide_eq_true h⟩
theorem bigN_no {l : List Tx} {k : Int} (h : ¬ 70 < l.length) (hk : ¬ k < l.length) (hf : ∀ j : Int, 0 ≤ j → j < k → ¬ 40 < (l.getD j.toNat tx0).size) : bigN l = false := by
  rw [bigN, decide_eq_false h, Bool.false_or, List.any_eq_false]
  intro x hx
  obtain ⟨i, hi, rfl⟩ := List.getElem_of_mem hx
  have := hf i (by omega) (by omega)
  rw [Int.toNat_natCast, List.getD_eq_getElem?_getD, List.getElem?_eq_getElem hi] at this
  simpa using this
theorem big_no {s : Sh} {k : Int} (h : ¬ 12 < s.facs.length) (hk : ¬ k < s.facs.length) (hf : ∀ j : Int, 0 ≤ j → j < k → bigN (s.facs.getD j.toNat fc0).names = false) : bigS s = false := by
  rw [bigS, decide_eq_false h, Bool.false_or, List.any_eq_false]
  intro x hx
  obtain ⟨i, hi, rfl⟩ := List.getElem_of_mem hx
  have := hf i (by omega) (by omega)
  rw [Int.toNat_natCast, List.getD_eq_getElem?_getD, List.getElem?_eq_getElem hi] at this
  simpa using this
end Go.Proofs.YtkdbiooamgnfmaaGreatDoor.M
namespace Go.Proofs.YtkdbiooamgnfmaaGreatDoor.E
open Go Go.RowKit Go.Proofs.YtkdbiooamgnfmaaGreatDoor.M
set_option linter.unusedVariables false
theorem join_put4 {s : Shp} {a b e : El} {k : Int} (he : e = mixE (joinS s.sh a b) a k) (k0 : 0 ≤ k) (k1 : k < s.facs.length) (h4 : (s.facs.getD k.toNat fac0).kind = 4) : putE e k.toNat (raiseV (s.facs.getD k.toNat fac0).rel (e k.toNat) (b k.toNat)) = mixE (joinS s.sh a b) a (k + 1) := by
  subst he
  exact mix_put k0 (by rw [mix_at k0, joinW_4 k0 (by rw [sh_len]; exact k1) (by rw [sh_get]; exact h4), sh_get]; rfl)
theorem join_putO {s : Shp} {a b e : El} {k : Int} (he : e = mixE (joinS s.sh a b) a k) (k0 : 0 ≤ k) (h : ¬ (k < s.facs.length ∧ (s.facs.getD k.toNat fac0).kind = 4)) : putE e k.toNat (e k.toNat ||| b k.toNat) = mixE (joinS s.sh a b) a (k + 1) := by
  subst he
  exact mix_put k0 (by rw [mix_at k0, joinW_o k0 (by rw [sh_len, sh_get]; exact h)])
end Go.Proofs.YtkdbiooamgnfmaaGreatDoor.E
