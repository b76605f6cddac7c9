/-
  The closure of a relation, as the program makes it and as a search finds it.
-/
import Derived.Test.YtdfbimlpondblaaDoorOrd
namespace Go.Proofs.YtdfbimlpondblaaDoor.M
set_option linter.unusedVariables false
/-! ### The closure's bits -/
theorem pass_bit (m : Nat) (n : Int) (u : Nat → BitVec 64) (i j : Nat) : (passTo m n u i).getLsbD j = ((u i).getLsbD j || (decide ((i : Int) < n) && (u i).getLsbD m && (u m).getLsbD j)) := by
  unfold passTo
  by_cases h : (i : Int) < n ∧ (u i).getLsbD m = true
  · rw [if_pos h, BitVec.getLsbD_or, decide_eq_true h.1, h.2]; simp
  · rw [if_neg h]
    by_cases h1 : (i : Int) < n
    · have h2 : (u i).getLsbD m = false := by
        cases hc : (u i).getLsbD m with
        | false => rfl
        | true => exact absurd ⟨h1, hc⟩ h
      rw [h2]; simp
    · rw [decide_eq_false h1]; simp
structure Thr (n : Int) (u0 u : Nat → BitVec 64) (m : Nat) : Prop where
  inn : ∀ i j : Nat, (u i).getLsbD j = true → (i : Int) < n ∧ (j : Int) < n
  base : ∀ i j : Nat, (u0 i).getLsbD j = true → (u i).getLsbD j = true
  thr : ∀ k : Nat, k < m → ∀ i j : Nat, (u i).getLsbD k = true → (u k).getLsbD j = true → (u i).getLsbD j = true
  sound : ∀ S : Nat → Prop, (∀ x y : Nat, S x → (u0 x).getLsbD y = true → S y) → ∀ x y : Nat, S x → (u x).getLsbD y = true → S y
theorem Thr.pass {n : Int} {u0 u : Nat → BitVec 64} {m : Nat} (h : Thr n u0 u m) : Thr n u0 (passTo m n u) (m + 1) := by
  have bit : ∀ i j : Nat, (passTo m n u i).getLsbD j = true ↔ ((u i).getLsbD j = true ∨ ((u i).getLsbD m = true ∧ (u m).getLsbD j = true)) := fun i j => by
    rw [pass_bit]
    simp only [Bool.or_eq_true, Bool.and_eq_true, decide_eq_true_eq]
    constructor
    · rintro (h1 | ⟨⟨h1, h2⟩, h3⟩)
      · exact .inl h1
      · exact .inr ⟨h2, h3⟩
    · rintro (h1 | ⟨h1, h2⟩)
      · exact .inl h1
      · exact .inr ⟨⟨(h.inn _ _ h1).1, h1⟩, h2⟩
  refine ⟨fun i j hb => ?_, fun i j hb => (bit i j).2 (.inl (h.base i j hb)), fun k hk i j h1 h2 => ?_, fun S hS x y hx hb => ?_⟩
  · rcases (bit i j).1 hb with h1 | ⟨h1, h2⟩
    · exact h.inn i j h1
    · exact ⟨(h.inn i m h1).1, (h.inn m j h2).2⟩
  · rw [bit] at *
    by_cases e : k = m
    · subst e
      have a1 : (u i).getLsbD k = true := by rcases h1 with h1 | h1; exact h1; exact h1.1
      have a2 : (u k).getLsbD j = true := by rcases h2 with h2 | h2; exact h2; exact h2.2
      exact .inr ⟨a1, a2⟩
    · have hk' : k < m := by omega
      rcases h1 with h1 | ⟨h1, h1'⟩ <;> rcases h2 with h2 | ⟨h2, h2'⟩
      · exact .inl (h.thr k hk' i j h1 h2)
      · exact .inr ⟨h.thr k hk' i m h1 h2, h2'⟩
      · exact .inr ⟨h1, h.thr k hk' m j h1' h2⟩
      · exact .inr ⟨h1, h2'⟩
  · rcases (bit x y).1 hb with h1 | ⟨h1, h2⟩
    · exact h.sound S hS x y hx h1
    · exact h.sound S hS m y (h.sound S hS x m hx h1) h2
theorem Thr.wall {n : Int} {u0 : Nat → BitVec 64} (hi : ∀ i j : Nat, (u0 i).getLsbD j = true → (i : Int) < n ∧ (j : Int) < n) : ∀ m, Thr n u0 (wall n u0 m) m
  | 0 => ⟨hi, fun _ _ h => h, fun k hk => by omega, fun S hS x y hx hb => hS x y hx hb⟩
  | m + 1 => (Thr.wall hi m).pass
theorem hasR_bit {r : Rl} {i j : Int} (h : hasR r i j = true) : (0 ≤ i ∧ i < pts r) ∧ (0 ≤ j ∧ j < pts r) ∧ (r.up i.toNat).getLsbD j.toNat = true := by
  simp only [hasR, Bool.and_eq_true] at h
  exact ⟨isP_iff.1 h.1.1, isP_iff.1 h.1.2, h.2⟩
/-! ### The search -/
def scan (r : Rl) (x : Int) (l : List Int) : Nat → List Int
  | 0 => l
  | b + 1 => if (hasR r x b && !(scan r x l b).contains (b : Int)) = true then scan r x l b ++ [(b : Int)] else scan r x l b
def bfs (r : Rl) : Nat → Nat → List Int → List Int
  | 0, _, l => l
  | f + 1, a, l => if a < l.length then bfs r f (a + 1) (scan r (l.getD a 0) l (pts r).toNat) else l
def reachL (r : Rl) (i : Int) : List Int := if isP r i then bfs r 65 0 [i] else []
def Okl (r : Rl) (l : List Int) : Prop := l.Nodup ∧ ∀ x ∈ l, 0 ≤ x ∧ x < pts r
theorem nodup_len : ∀ (n : Nat) (l : List Int), l.Nodup → (∀ x ∈ l, 0 ≤ x ∧ x < (n : Int)) → l.length ≤ n
  | 0, l, _, h => by
    cases l with
    | nil => simp
    | cons x l => have := h x (by simp); omega
  | n + 1, l, hn, h => by
    by_cases hm : (n : Int) ∈ l
    · have h1 := List.length_erase_of_mem hm
      have h2 := nodup_len n (l.erase (n : Int)) (hn.erase _) fun x hx => by
        have h3 := (hn.mem_erase_iff).1 hx
        have := h x h3.2; omega
      have : 0 < l.length := List.length_pos_of_mem hm
      omega
    · have := nodup_len n l hn fun x hx => by
        have := h x hx
        have : x ≠ n := fun e => hm (e ▸ hx)
        omega
      omega
theorem Okl.len {r : Rl} {l : List Int} (h : Okl r l) : l.length ≤ 64 := by
  have hp := pts_bd r
  have := nodup_len (pts r).toNat l h.1 fun x hx => by have := h.2 x hx; omega
  omega
theorem Okl.one {r : Rl} {i : Int} (h : 0 ≤ i ∧ i < pts r) : Okl r [i] := ⟨by simp, fun x hx => by simp at hx; subst hx; exact h⟩
theorem Okl.add {r : Rl} {l : List Int} {b : Int} (h : Okl r l) (hb : 0 ≤ b ∧ b < pts r) (hc : l.contains b = false) : Okl r (l ++ [b]) := by
  rw [List.contains_eq_mem, decide_eq_false_iff_not] at hc
  refine ⟨?_, fun x hx => ?_⟩
  · rw [List.nodup_append]
    refine ⟨h.1, by simp, fun x hx y hy e => ?_⟩
    simp at hy; subst hy; subst e; exact hc hx
  · rcases List.mem_append.1 hx with hx | hx
    · exact h.2 x hx
    · simp at hx; subst hx; exact hb
/-! ### Made from pairs; orders -/
def newR (n : Int) : Rl := ⟨pts ⟨n, fun _ => 0#64⟩, fun _ => 0#64⟩
def addP (r : Rl) (p : Int × Int) : Rl := if isP r p.1 && isP r p.2 then r.put p.1.toNat (withB (r.up p.1.toNat) p.2) else r
def ofR (n : Int) (l : List (Int × Int)) : Rl := l.foldl addP (newR n)
def withR (r : Rl) (i j : Int) : Rl := if isP r i && isP r j then (plainR r).put i.toNat (withB ((plainR r).up i.toNat) j) else plainR r
def mutualR (r : Rl) (i : Int) : BitVec 64 := upR r (ofl [i]) &&& downR r (ofl [i])
def orderB (r : Rl) : Bool := decide ((plainR r).eq (cloR r)) && decide (∀ i : Nat, i < (pts r).toNat → ∀ j : Nat, j < i → (hasR r i j && hasR r j i) = false)
theorem up_bit (r : Rl) (s : BitVec 64) (j : Nat) : (upR r s).getLsbD j = true ↔ ∃ i : Int, hasB s i = true ∧ hasR r i j = true := by
  rw [upR, orAll_bit, List.any_eq_true]
  constructor
  · rintro ⟨i, h1, h2⟩
    rw [mem_lst, hasB, BitVec.getLsbD_and, getLsbD_below, Bool.and_eq_true, Bool.and_eq_true, decide_eq_true_eq, inB, decide_eq_true_eq] at h1
    have hi : 0 ≤ i ∧ i < pts r := by omega
    refine ⟨i, by rw [hasB, h1.2.1, inB, decide_eq_true (by omega)]; rfl, ?_⟩
    rwa [row_has r hi] at h2
  · rintro ⟨i, h1, h2⟩
    have hi := (hasR_bit h2).1
    have hb := hasB_bd h1
    refine ⟨i, ?_, by rw [row_has r hi]; exact h2⟩
    rw [mem_lst, hasB, BitVec.getLsbD_and, getLsbD_below]
    rw [hasB, Bool.and_eq_true] at h1
    rw [h1.1, h1.2, decide_eq_true (by omega)]; rfl
theorem hasB_one {i j : Int} (h : 0 ≤ i ∧ i < 64) : hasB (ofl [i]) j = true ↔ j = i := by
  rw [← mem_lst] 
  constructor
  · intro hj
    have := hasB_bd ((mem_lst _ _).1 hj)
    have h2 := (mem_lst _ _).1 hj
    rw [hasB, getLsbD_ofl] at h2
    simp [List.contains_eq_mem] at h2; omega
  · intro e
    subst e
    rw [mem_lst, hasB, getLsbD_ofl, inB, decide_eq_true h]
    simp [List.contains_eq_mem]; omega
/-! ### The longest chain; the covers -/
def stepL (r : Rl) (s : BitVec 64) : BitVec 64 := orAll (strictR r) (lst s) &&& s
def longF (r : Rl) : Nat → BitVec 64 → Int → Int
  | 0, _, n => n
  | f + 1, s, n => if stepL r s = 0#64 then n else longF r f (stepL r s) (n + 1)
def longV (r : Rl) : Int × Bool := if orderB r then (longF r 65 (below (pts r)) 0, true) else (0, false)
theorem hasB_and (a b : BitVec 64) (i : Int) : hasB (a &&& b) i = (hasB a i && hasB b i) := by
  rw [hasB, hasB, hasB, BitVec.getLsbD_and]
  cases inB i <;> simp
def covS (r : Rl) (i : Int) : BitVec 64 := strictR r i &&& ~~~ orAll (strictR r) (lst (strictR r i))
def coversTo (r : Rl) (k : Int) : List (Int × Int) := (upto k).flatMap fun i => (lst (covS r i)).map fun y => (i, y)
def coversL (r : Rl) : List (Int × Int) := if orderB r then coversTo r (pts r) else []
def chain3 : Rl := ⟨3, fun i => [7#64, 6#64, 4#64].getD i 0#64⟩
/-! ### Images -/
def anyTo (p : Int → Bool) (l : List Int) (a : Int) : Bool := (l.take a.toNat).any p
/-! ### The least closed relation -/
/-! ### Classes -/
def newTo (r : Rl) (k j : Int) : Bool := (upto j).all fun x => !(hasR r k x && hasR r x k)
def clsTo (r : Rl) (k : Int) : Int := (((upto k).filter fun i => newTo (cloR r) i i).length : Nat)
end Go.Proofs.YtdfbimlpondblaaDoor.M
