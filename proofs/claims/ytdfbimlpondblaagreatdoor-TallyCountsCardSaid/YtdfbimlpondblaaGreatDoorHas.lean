/-
  Joins and meets in a relation of points, plainly: no program in sight.
-/
import Derived.Test.YtdfbimlpondblaaGreatDoorCov
namespace Go.Proofs.YtdfbimlpondblaaGreatDoor.M
set_option linter.unusedVariables false
def firstV (P : Int → Bool) (n : Int) : Int × Bool := match (upto n).find? P with
  | some u => (u, true)
  | none => (0, false)
theorem upto_cons {n : Int} : ∀ (k : Nat), (k : Int) ≤ n → upto n = upto k ++ ((List.range (n.toNat - k)).map fun (i : Nat) => ((k + i : Nat) : Int)) := fun k h => by
  rw [upto, upto, show n.toNat = k + (n.toNat - k) by omega, List.range_add, List.map_append]
  simp
theorem first_yes {P : Int → Bool} {n k : Int} (h0 : 0 ≤ k) (hk : k < n) (hp : P k = true) (hf : ∀ j : Int, 0 ≤ j → j < k → P j = false) : firstV P n = (k, true) := by
  have h : (upto n).find? P = some k := by
    rw [upto_cons k.toNat (by omega), List.find?_append]
    have h1 : (upto (k.toNat : Int)).find? P = none := by
      rw [List.find?_eq_none]
      intro x hx
      have := mem_upto.1 hx
      rw [hf x this.1 (by omega)]; simp
    rw [h1, show n.toNat - k.toNat = (n.toNat - k.toNat - 1) + 1 by omega, List.range_succ_eq_map]
    simp only [Option.none_or, List.map_cons, Nat.add_zero, Int.toNat_of_nonneg h0, List.find?_cons, hp]
  rw [firstV, h]
theorem first_no {P : Int → Bool} {n : Int} (hf : ∀ j : Int, 0 ≤ j → j < n → P j = false) : firstV P n = (0, false) := by
  have h : (upto n).find? P = none := by
    rw [List.find?_eq_none]
    intro x hx
    have := mem_upto.1 hx
    rw [hf x this.1 this.2]; simp
  rw [firstV, h]
theorem first_cases (P : Int → Bool) (n : Int) : (∃ k : Int, 0 ≤ k ∧ k < n ∧ P k = true ∧ (∀ j : Int, 0 ≤ j → j < k → P j = false) ∧ firstV P n = (k, true)) ∨ ((∀ j : Int, 0 ≤ j → j < n → P j = false) ∧ firstV P n = (0, false)) := by
  have key : ∀ m : Nat, (∃ k : Int, 0 ≤ k ∧ k < m ∧ P k = true ∧ ∀ j : Int, 0 ≤ j → j < k → P j = false) ∨ ∀ j : Int, 0 ≤ j → j < m → P j = false := fun m => by
    induction m with
    | zero => exact .inr fun j h1 h2 => by omega
    | succ m ih =>
      rcases ih with ⟨k, h1, h2, h3, h4⟩ | h
      · exact .inl ⟨k, h1, by omega, h3, h4⟩
      · cases hm : P m with
        | true => exact .inl ⟨m, by omega, by omega, hm, h⟩
        | false =>
          refine .inr fun j h1 h2 => ?_
          by_cases e : j = m
          · rw [e]; exact hm
          · exact h j h1 (by omega)
  rcases key n.toNat with ⟨k, h1, h2, h3, h4⟩ | h
  · exact .inl ⟨k, h1, by omega, h3, h4, first_yes h1 (by omega) h3 h4⟩
  · exact .inr ⟨fun j h1 h2 => h j h1 (by omega), first_no fun j h1 h2 => h j h1 (by omega)⟩
def aboveR (r : Rl) (i : Int) : BitVec 64 := upR r (ofl [i])
def belowR (r : Rl) (i : Int) : BitVec 64 := if isP r i then downR r (ofl [i]) else 0#64
theorem of_one (i j : Int) : hasB (ofl [i]) j = true ↔ j = i ∧ 0 ≤ i ∧ i < 64 := by
  constructor
  · intro h
    have hb := hasB_bd h
    rw [hasB, getLsbD_ofl] at h
    simp [List.contains_eq_mem] at h; omega
  · rintro ⟨h1, h2⟩; exact (hasB_one h2).2 h1
theorem above_has (r : Rl) (i j : Int) : hasB (aboveR r i) j = hasR r i j := by
  have hp := pts_bd r
  rw [Bool.eq_iff_iff, hasB_iff, aboveR, up_bit]
  constructor
  · rintro ⟨h1, x, h2, h3⟩
    rw [Int.toNat_of_nonneg h1.1] at h3
    rw [← ((of_one i x).1 h2).1]; exact h3
  · intro h
    have hb := hasR_bd h
    refine ⟨by omega, i, (of_one i i).2 ⟨rfl, by omega⟩, ?_⟩
    rw [Int.toNat_of_nonneg hb.2.1]; exact h
theorem down_has (r : Rl) (i j : Int) : hasB (downR r (ofl [i])) j = hasR r j i := by
  have hp := pts_bd r
  rw [Bool.eq_iff_iff, hasB_iff, down_bit]
  constructor
  · rintro ⟨h1, x, h2, h3⟩
    rw [Int.toNat_of_nonneg h1.1] at h3
    rw [← ((of_one i x).1 h2).1]; exact h3
  · intro h
    have hb := hasR_bd h
    refine ⟨by omega, i, (of_one i i).2 ⟨rfl, by omega⟩, ?_⟩
    rw [Int.toNat_of_nonneg hb.1.1]; exact h
theorem below_rel (r : Rl) (i j : Int) : hasB (belowR r i) j = hasR r j i := by
  rw [belowR]
  cases h : isP r i with
  | true => rw [if_pos rfl, down_has]
  | false => rw [if_neg (by simp), has_zero, has_noJ h]
theorem word_eq {a b : BitVec 64} (h : ∀ j : Int, hasB a j = hasB b j) : a = b := eq_of_bits fun j hj => by
  have := h j
  rw [hasB, hasB, inB, decide_eq_true (by omega)] at this
  simpa using this
theorem subB_has {a b : BitVec 64} : subB a b = true ↔ ∀ j : Int, hasB a j = true → hasB b j = true := by
  rw [subB_iff]
  constructor
  · intro h j hj
    have := hasB_iff.1 hj
    exact hasB_iff.2 ⟨this.1, h _ (by omega) this.2⟩
  · intro h i hi hb
    have := hasB_iff.1 (h i (hasB_of hb))
    simpa using this.2
def nearP (g : Int → BitVec 64) (i j u : Int) : Bool := hasB (g i &&& g j) u && subB (g i &&& g j) (g u)
def nearV (g : Int → BitVec 64) (n i j : Int) : Int × Bool := firstV (nearP g i j) n
theorem at_lt {s : BitVec 64} {a b : Int} (h0 : 0 ≤ a) (hb : b < (lst s).length) (h : a < b) : (lst s).getD a.toNat 0 < (lst s).getD b.toNat 0 := by
  have := List.pairwise_iff_getElem.1 (lst_sorted s) a.toNat b.toNat (by omega) (by omega) (by omega)
  rw [List.getD_eq_getElem?_getD, List.getD_eq_getElem?_getD, List.getElem?_eq_getElem (by omega), List.getElem?_eq_getElem (by omega)]
  exact this
theorem lst_idx {s : BitVec 64} {j : Int} (h : hasB s j = true) : ∃ a : Int, 0 ≤ a ∧ a < (lst s).length ∧ (lst s).getD a.toNat 0 = j := by
  obtain ⟨k, hk, he⟩ := List.getElem_of_mem ((mem_lst _ _).2 h)
  refine ⟨k, by omega, by omega, ?_⟩
  rw [List.getD_eq_getElem?_getD, Int.toNat_natCast, List.getElem?_eq_getElem hk, he]; rfl
theorem near_yes {g : Int → BitVec 64} {n i j a : Int} (hn : ∀ u, hasB (g i &&& g j) u = true → u < n) (a0 : 0 ≤ a) (a1 : a < (lst (g i &&& g j)).length) (h : subB (g i &&& g j) (g ((lst (g i &&& g j)).getD a.toNat 0)) = true)
    (hf : ∀ b : Int, 0 ≤ b → b < a → subB (g i &&& g j) (g ((lst (g i &&& g j)).getD b.toNat 0)) = false) : nearV g n i j = ((lst (g i &&& g j)).getD a.toNat 0, true) := by
  have h1 := lst_at a0 a1
  have h2 := lst_at_bd a0 a1
  refine first_yes h2.1 (hn _ h1) (by rw [nearP, h1, h]; rfl) fun x x0 x1 => ?_
  rw [nearP]
  cases hc : hasB (g i &&& g j) x with
  | false => rfl
  | true =>
    obtain ⟨b, b0, b1, hb⟩ := lst_idx hc
    have hba : b < a := by
      rcases Int.lt_trichotomy b a with h3 | h3 | h3
      · exact h3
      · subst h3; omega
      · have := at_lt a0 b1 h3; omega
    rw [← hb, hf b b0 hba]; rfl
theorem near_no {g : Int → BitVec 64} {n i j a : Int} (a1 : ¬ a < (lst (g i &&& g j)).length) (hf : ∀ b : Int, 0 ≤ b → b < a → subB (g i &&& g j) (g ((lst (g i &&& g j)).getD b.toNat 0)) = false) : nearV g n i j = (0, false) := by
  refine first_no fun x x0 x1 => ?_
  rw [nearP]
  cases hc : hasB (g i &&& g j) x with
  | false => rfl
  | true =>
    obtain ⟨b, b0, b1, hb⟩ := lst_idx hc
    rw [← hb, hf b b0 (by omega)]; rfl
def joinV (r : Rl) (i j : Int) : Int × Bool := nearV (aboveR r) (pts r) i j
def meetV (r : Rl) (i j : Int) : Int × Bool := nearV (belowR r) (pts r) i j
theorem above_in {r : Rl} {i j u : Int} (h : hasB (aboveR r i &&& aboveR r j) u = true) : u < pts r := by
  rw [hasB_and, Bool.and_eq_true, above_has] at h; exact (hasR_bd h.1).2.2
def goodJ (r : Rl) (i j u v : Int) : Bool := hasR r i u && hasR r j u && (upto v).all fun x => !(hasR r i x && hasR r j x && !hasR r u x)
def goodM (r : Rl) (i j u v : Int) : Bool := hasR r u i && hasR r u j && (upto v).all fun x => !(hasR r x i && hasR r x j && !hasR r x u)
theorem goodJ_next {r : Rl} {i j u v : Int} (h0 : 0 ≤ v) : goodJ r i j u (v + 1) = (goodJ r i j u v && !(hasR r i v && hasR r j v && !hasR r u v)) := by
  rw [goodJ, goodJ, ← upto_succ h0, List.all_append]; simp [Bool.and_assoc]
theorem near_join (r : Rl) (i j u : Int) {v : Int} (hv : v = pts r) : nearP (aboveR r) i j u = goodJ r i j u v := by
  subst hv
  rw [nearP, goodJ, hasB_and, above_has, above_has, Bool.eq_iff_iff, Bool.and_eq_true, Bool.and_eq_true (_ && _)]
  refine and_congr_right fun _ => ?_
  rw [subB_has, List.all_eq_true]
  constructor
  · intro h x hx
    have := h x
    rw [hasB_and, above_has, above_has, above_has, Bool.and_eq_true] at this
    cases h1 : hasR r i x with
    | false => rfl
    | true => cases h2 : hasR r j x with
      | false => rfl
      | true => rw [this ⟨h1, h2⟩]; rfl
  · intro h x hx
    rw [hasB_and, above_has, above_has, Bool.and_eq_true] at hx
    have h3 := h x (mem_upto.2 (hasR_bd hx.1).2)
    rw [hx.1, hx.2] at h3
    rw [above_has]; simpa using h3
theorem join_yes {r : Rl} {i j u v : Int} (u0 : 0 ≤ u) (u1 : u < pts r) (hv : v = pts r) (h : goodJ r i j u v = true) (hf : ∀ x : Int, 0 ≤ x → x < u → nearP (aboveR r) i j x = false) : joinV r i j = (u, true) :=
  first_yes u0 u1 (by rw [near_join r i j u hv]; exact h) hf
theorem join_no {r : Rl} {i j u : Int} (u1 : ¬ u < pts r) (hf : ∀ x : Int, 0 ≤ x → x < u → nearP (aboveR r) i j x = false) : joinV r i j = (0, false) := first_no fun x h1 h2 => hf x h1 (by omega)
/-! ### Lattices -/
def bothB (r : Rl) (i j : Int) : Bool := (joinV r i j).2 && (meetV r i j).2
def latB (r : Rl) : Bool := decide (1 ≤ r.n ∧ r.n ≤ 64) && orderB r && (upto r.n).all fun i => (upto i).all fun j => bothB r i j
/-! ### Words -/
def pointV (r : Rl) (w : BitVec 64) : Int × Bool := firstV (fun i => decide (belowR r i = w)) (pts r)
theorem point_yes {r : Rl} {w : BitVec 64} {k : Int} (h0 : 0 ≤ k) (hk : k < pts r) (h : belowR r k = w) (hf : ∀ j : Int, 0 ≤ j → j < k → belowR r j ≠ w) : pointV r w = (k, true) :=
  first_yes h0 hk (decide_eq_true h) fun j a b => decide_eq_false (hf j a b)
theorem point_no {r : Rl} {w : BitVec 64} {k : Int} (hk : ¬ k < pts r) (hf : ∀ j : Int, 0 ≤ j → j < k → belowR r j ≠ w) : pointV r w = (0, false) :=
  first_no fun j a b => decide_eq_false (hf j a (by omega))
def raiseV (r : Rl) (a b : BitVec 64) : BitVec 64 := if ((pointV r a).2 && (pointV r b).2 && (joinV r (pointV r a).1 (pointV r b).1).2) = true then belowR r (joinV r (pointV r a).1 (pointV r b).1).1 else a ||| b
theorem raise_yes {r : Rl} {a b : BitVec 64} (h1 : (pointV r a).2 = true) (h2 : (pointV r b).2 = true) (h3 : (joinV r (pointV r a).1 (pointV r b).1).2 = true) : raiseV r a b = belowR r (joinV r (pointV r a).1 (pointV r b).1).1 := by
  rw [raiseV, h1, h2, h3]; rfl
theorem raise_no1 {r : Rl} {a b : BitVec 64} (h1 : (pointV r a).2 = false) : raiseV r a b = a ||| b := by rw [raiseV, h1]; rfl
theorem raise_no2 {r : Rl} {a b : BitVec 64} (h1 : (pointV r b).2 = false) : raiseV r a b = a ||| b := by rw [raiseV, h1]; simp
theorem raise_no3 {r : Rl} {a b : BitVec 64} (h1 : (joinV r (pointV r a).1 (pointV r b).1).2 = false) : raiseV r a b = a ||| b := by rw [raiseV, h1]; simp
def endV (r : Rl) (g : Int → BitVec 64) : Int × Bool := firstV (fun i => decide (g i = below (pts r))) (pts r)
def downTo' (r : Rl) (i k : Int) : List Int := (upto k).filter (hasR r · i)
theorem downs_yes {r : Rl} {i k : Int} (h0 : 0 ≤ k) (h : hasR r k i = true) : downTo' r i k ++ [k] = downTo' r i (k + 1) := by
  rw [downTo', downTo', ← upto_succ h0, List.filter_append]; simp [h]
theorem downs_no {r : Rl} {i k : Int} (h0 : 0 ≤ k) (h : hasR r k i = false) : downTo' r i k = downTo' r i (k + 1) := by
  rw [downTo', downTo', ← upto_succ h0, List.filter_append]; simp [h]
theorem downs_len {r : Rl} {i k : Int} : (downTo' r i k).length ≤ k.toNat := by
  rw [downTo']
  exact Nat.le_trans (List.length_filter_le _ _) (by rw [upto_len]; exact Nat.le_refl _)
theorem hasB_ofl (l : List Int) (j : Int) : hasB (ofl l) j = true ↔ (0 ≤ j ∧ j < 64) ∧ j ∈ l := by
  rw [hasB_iff, getLsbD_ofl, Bool.and_eq_true, decide_eq_true_eq, List.contains_iff_mem]
  constructor
  · rintro ⟨h1, h2, h3⟩; rw [Int.toNat_of_nonneg h1.1] at h3; exact ⟨h1, h3⟩
  · rintro ⟨h1, h2⟩; rw [Int.toNat_of_nonneg h1.1]; exact ⟨h1, by omega, h2⟩
theorem downs_all {r : Rl} {i k : Int} (hk : k = pts r) : ofl (downTo' r i k) = belowR r i := word_eq fun j => by
  subst hk
  have hp := pts_bd r
  rw [Bool.eq_iff_iff, hasB_ofl, below_rel, downTo', List.mem_filter, mem_upto]
  constructor
  · exact fun h => h.2.2
  · intro h
    have := (hasR_bd h).1
    exact ⟨by omega, this, h⟩
def endP (r : Rl) (t : Bool) (i k : Int) : Bool := (upto k).all fun x => if t then hasR r x i else hasR r i x
def diaR : Rl := ⟨5, fun i => [31#64, 18#64, 20#64, 24#64, 16#64].getD i 0#64⟩
/-! ### The laws of a lattice -/
structure IsJ (r : Rl) (i j k : Int) : Prop where
  a : hasR r i k = true
  b : hasR r j k = true
  l : ∀ v : Int, hasR r i v = true → hasR r j v = true → hasR r k v = true
structure IsM (r : Rl) (i j k : Int) : Prop where
  a : hasR r k i = true
  b : hasR r k j = true
  g : ∀ v : Int, hasR r v i = true → hasR r v j = true → hasR r v k = true
section laws
variable {r : Rl} (h : latB r = true) {a b c : Int} (ha : 0 ≤ a ∧ a < r.n) (hb : 0 ≤ b ∧ b < r.n) (hc : 0 ≤ c ∧ c < r.n)
include h ha hb
include hc
end laws
end Go.Proofs.YtdfbimlpondblaaGreatDoor.M
