/-
  Joins and meets in a relation of points, plainly: no program in sight.
-/
import Derived.Test.YtdfbimlpondblaaDoorCov
namespace Go.Proofs.YtdfbimlpondblaaDoor.M
set_option linter.unusedVariables false
def firstV (P : Int → Bool) (n : Int) : Int × Bool := match (upto n).find? P with
  | some u => (u, true)
  | none => (0, false)
theorem upto_cons {n : Int} : ∀ (k : Nat), (k : Int) ≤ n → upto n = upto k ++ ((List.range (n.toNat - k)).map fun (i : Nat) => ((k + i : Nat) : Int)) := fun k h => by
  rw [upto, upto, show n.toNat = k + (n.toNat - k) by omega, List.range_add, List.map_append]
  simp
theorem first_yes {P : Int → Bool} {n k : Int} (h0 : 0 ≤ k) (hk : k < n) (hp : P k = true) (hf : ∀ j : Int, 0 ≤ j → j < k → P j = false) : firstV P n = (k, true) := by
  have h : (upto n).find? P = some k := by
    rw [upto_cons k.toNat (by omega), List.find?_append]
    have h1 : (upto (k.toNat : Int)).find? P = none := by
      rw [List.find?_eq_none]
      intro x hx
      have := mem_upto.1 hx
      rw [hf x this.1 (by omega)]; simp
    rw [h1, show n.toNat - k.toNat = (n.toNat - k.toNat - 1) + 1 by omega, List.range_succ_eq_map]
    simp only [Option.none_or, List.map_cons, Nat.add_zero, Int.toNat_of_nonneg h0, List.find?_cons, hp]
  rw [firstV, h]
theorem first_no {P : Int → Bool} {n : Int} (hf : ∀ j : Int, 0 ≤ j → j < n → P j = false) : firstV P n = (0, false) := by
  have h : (upto n).find? P = none := by
    rw [List.find?_eq_none]
    intro x hx
    have := mem_upto.1 hx
    rw [hf x this.1 this.2]; simp
  rw [firstV, h]
theorem first_cases (P : Int → Bool) (n : Int) : (∃ k : Int, 0 ≤ k ∧ k < n ∧ P k = true ∧ (∀ j : Int, 0 ≤ j → j < k → P j = false) ∧ firstV P n = (k, true)) ∨ ((∀ j : Int, 0 ≤ j → j < n → P j = false) ∧ firstV P n = (0, false)) := by
  have key : ∀ m : Nat, (∃ k : Int, 0 ≤ k ∧ k < m ∧ P k = true ∧ ∀ j : Int, 0 ≤ j → j < k → P j = false) ∨ ∀ j : Int, 0 ≤ j → j < m → P j = false := fun m => by
    induction m with
    | zero => exact .inr fun j h1 h2 => by omega
    | succ m ih =>
      rcases ih with ⟨k, h1, h2, h3, h4⟩ | h
      · exact .inl ⟨k, h1, by omega, h3, h4⟩
      · cases hm : P m with
        | true => exact .inl ⟨m, by omega, by omega, hm, h⟩
        | false =>
          refine .inr fun j h1 h2 => ?_
          by_cases e : j = m
          · rw [e]; exact hm
          · exact h j h1 (by omega)
  rcases key n.toNat with ⟨k, h1, h2, h3, h4⟩ | h
  · exact .inl ⟨k, h1, by omega, h3, h4, first_yes h1 (by omega) h3 h4⟩
  · exact .inr ⟨fun j h1 h2 => h j h1 (by omega), first_no fun j h1 h2 => h j h1 (by omega)⟩
def aboveR (r : Rl) (i : Int) : BitVec 64 := upR r (ofl [i])
def belowR (r : Rl) (i : Int) : BitVec 64 := if isP r i then downR r (ofl [i]) else 0#64
theorem of_one (i j : Int) : hasB (ofl [i]) j = true ↔ j = i ∧ 0 ≤ i ∧ i < 64 := by
  constructor
  · intro h
    have hb := hasB_bd h
    rw [hasB, getLsbD_ofl] at h
    simp [List.contains_eq_mem] at h; omega
  · rintro ⟨h1, h2⟩; exact (hasB_one h2).2 h1
theorem above_has (r : Rl) (i j : Int) : hasB (aboveR r i) j = hasR r i j := by
  have hp := pts_bd r
  rw [Bool.eq_iff_iff, hasB_iff, aboveR, up_bit]
  constructor
  · rintro ⟨h1, x, h2, h3⟩
    rw [Int.toNat_of_nonneg h1.1] at h3
    rw [← ((of_one i x).1 h2).1]; exact h3
  · intro h
    have hb := hasR_bd h
    refine ⟨by omega, i, (of_one i i).2 ⟨rfl, by omega⟩, ?_⟩
    rw [Int.toNat_of_nonneg hb.2.1]; exact h
def nearP (g : Int → BitVec 64) (i j u : Int) : Bool := hasB (g i &&& g j) u && subB (g i &&& g j) (g u)
def nearV (g : Int → BitVec 64) (n i j : Int) : Int × Bool := firstV (nearP g i j) n
theorem at_lt {s : BitVec 64} {a b : Int} (h0 : 0 ≤ a) (hb : b < (lst s).length) (h : a < b) : (lst s).getD a.toNat 0 < (lst s).getD b.toNat 0 := by
  have := List.pairwise_iff_getElem.1 (lst_sorted s) a.toNat b.toNat (by omega) (by omega) (by omega)
  rw [List.getD_eq_getElem?_getD, List.getD_eq_getElem?_getD, List.getElem?_eq_getElem (by omega), List.getElem?_eq_getElem (by omega)]
  exact this
theorem lst_idx {s : BitVec 64} {j : Int} (h : hasB s j = true) : ∃ a : Int, 0 ≤ a ∧ a < (lst s).length ∧ (lst s).getD a.toNat 0 = j := by
  obtain ⟨k, hk, he⟩ := List.getElem_of_mem ((mem_lst _ _).2 h)
  refine ⟨k, by omega, by omega, ?_⟩
  rw [List.getD_eq_getElem?_getD, Int.toNat_natCast, List.getElem?_eq_getElem hk, he]; rfl
theorem near_yes {g : Int → BitVec 64} {n i j a : Int} (hn : ∀ u, hasB (g i &&& g j) u = true → u < n) (a0 : 0 ≤ a) (a1 : a < (lst (g i &&& g j)).length) (h : subB (g i &&& g j) (g ((lst (g i &&& g j)).getD a.toNat 0)) = true)
    (hf : ∀ b : Int, 0 ≤ b → b < a → subB (g i &&& g j) (g ((lst (g i &&& g j)).getD b.toNat 0)) = false) : nearV g n i j = ((lst (g i &&& g j)).getD a.toNat 0, true) := by
  have h1 := lst_at a0 a1
  have h2 := lst_at_bd a0 a1
  refine first_yes h2.1 (hn _ h1) (by rw [nearP, h1, h]; rfl) fun x x0 x1 => ?_
  rw [nearP]
  cases hc : hasB (g i &&& g j) x with
  | false => rfl
  | true =>
    obtain ⟨b, b0, b1, hb⟩ := lst_idx hc
    have hba : b < a := by
      rcases Int.lt_trichotomy b a with h3 | h3 | h3
      · exact h3
      · subst h3; omega
      · have := at_lt a0 b1 h3; omega
    rw [← hb, hf b b0 hba]; rfl
theorem near_no {g : Int → BitVec 64} {n i j a : Int} (a1 : ¬ a < (lst (g i &&& g j)).length) (hf : ∀ b : Int, 0 ≤ b → b < a → subB (g i &&& g j) (g ((lst (g i &&& g j)).getD b.toNat 0)) = false) : nearV g n i j = (0, false) := by
  refine first_no fun x x0 x1 => ?_
  rw [nearP]
  cases hc : hasB (g i &&& g j) x with
  | false => rfl
  | true =>
    obtain ⟨b, b0, b1, hb⟩ := lst_idx hc
    rw [← hb, hf b b0 (by omega)]; rfl
def joinV (r : Rl) (i j : Int) : Int × Bool := nearV (aboveR r) (pts r) i j
def meetV (r : Rl) (i j : Int) : Int × Bool := nearV (belowR r) (pts r) i j
theorem above_in {r : Rl} {i j u : Int} (h : hasB (aboveR r i &&& aboveR r j) u = true) : u < pts r := by
  rw [hasB_and, Bool.and_eq_true, above_has] at h; exact (hasR_bd h.1).2.2
def goodJ (r : Rl) (i j u v : Int) : Bool := hasR r i u && hasR r j u && (upto v).all fun x => !(hasR r i x && hasR r j x && !hasR r u x)
def goodM (r : Rl) (i j u v : Int) : Bool := hasR r u i && hasR r u j && (upto v).all fun x => !(hasR r x i && hasR r x j && !hasR r x u)
/-! ### Lattices -/
def bothB (r : Rl) (i j : Int) : Bool := (joinV r i j).2 && (meetV r i j).2
def latB (r : Rl) : Bool := decide (1 ≤ r.n ∧ r.n ≤ 64) && orderB r && (upto r.n).all fun i => (upto i).all fun j => bothB r i j
/-! ### Words -/
def pointV (r : Rl) (w : BitVec 64) : Int × Bool := firstV (fun i => decide (belowR r i = w)) (pts r)
theorem point_yes {r : Rl} {w : BitVec 64} {k : Int} (h0 : 0 ≤ k) (hk : k < pts r) (h : belowR r k = w) (hf : ∀ j : Int, 0 ≤ j → j < k → belowR r j ≠ w) : pointV r w = (k, true) :=
  first_yes h0 hk (decide_eq_true h) fun j a b => decide_eq_false (hf j a b)
theorem point_no {r : Rl} {w : BitVec 64} {k : Int} (hk : ¬ k < pts r) (hf : ∀ j : Int, 0 ≤ j → j < k → belowR r j ≠ w) : pointV r w = (0, false) :=
  first_no fun j a b => decide_eq_false (hf j a (by omega))
def raiseV (r : Rl) (a b : BitVec 64) : BitVec 64 := if ((pointV r a).2 && (pointV r b).2 && (joinV r (pointV r a).1 (pointV r b).1).2) = true then belowR r (joinV r (pointV r a).1 (pointV r b).1).1 else a ||| b
theorem raise_yes {r : Rl} {a b : BitVec 64} (h1 : (pointV r a).2 = true) (h2 : (pointV r b).2 = true) (h3 : (joinV r (pointV r a).1 (pointV r b).1).2 = true) : raiseV r a b = belowR r (joinV r (pointV r a).1 (pointV r b).1).1 := by
  rw [raiseV, h1, h2, h3]; rfl
theorem raise_no1 {r : Rl} {a b : BitVec 64} (h1 : (pointV r a).2 = false) : raiseV r a b = a ||| b := by rw [raiseV, h1]; rfl
theorem raise_no2 {r : Rl} {a b : BitVec 64} (h1 : (pointV r b).2 = false) : raiseV r a b = a ||| b := by rw [raiseV, h1]; simp
theorem raise_no3 {r : Rl} {a b : BitVec 64} (h1 : (joinV r (pointV r a).1 (pointV r b).1).2 = false) : raiseV r a b = a ||| b := by rw [raiseV, h1]; simp
def endV (r : Rl) (g : Int → BitVec 64) : Int × Bool := firstV (fun i => decide (g i = below (pts r))) (pts r)
def downTo' (r : Rl) (i k : Int) : List Int := (upto k).filter (hasR r · i)
def endP (r : Rl) (t : Bool) (i k : Int) : Bool := (upto k).all fun x => if t then hasR r x i else hasR r i x
def diaR : Rl := ⟨5, fun i => [31#64, 18#64, 20#64, 24#64, 16#64].getD i 0#64⟩
/-! ### The laws of a lattice -/
structure IsJ (r : Rl) (i j k : Int) : Prop where
  a : hasR r i k = true
  b : hasR r j k = true
  l : ∀ v : Int, hasR r i v = true → hasR r j v = true → hasR r k v = true
structure IsM (r : Rl) (i j k : Int) : Prop where
  a : hasR r k i = true
  b : hasR r k j = true
  g : ∀ v : Int, hasR r v i = true → hasR r v j = true → hasR r v k = true
section laws
variable {r : Rl} (h : latB r = true) {a b c : Int} (ha : 0 ≤ a ∧ a < r.n) (hb : 0 ≤ b ∧ b < r.n) (hc : 0 ≤ c ∧ c < r.n)
include h ha hb
include hc
end laws
end Go.Proofs.YtdfbimlpondblaaDoor.M
