/-
  The closure of a relation, as the program makes it and as a search finds it.
-/
import Derived.Test.YtphknfjaellkjaaOrd
namespace Go.Proofs.Ytphknfjaellkjaa.M
set_option linter.unusedVariables false
/-! ### The closure's bits -/
theorem pass_bit (m : Nat) (n : Int) (u : Nat → BitVec 64) (i j : Nat) : (passTo m n u i).getLsbD j = ((u i).getLsbD j || (decide ((i : Int) < n) && (u i).getLsbD m && (u m).getLsbD j)) := by
  unfold passTo
  by_cases h : (i : Int) < n ∧ (u i).getLsbD m = true
  · rw [if_pos h, BitVec.getLsbD_or, decide_eq_true h.1, h.2]; simp
  · rw [if_neg h]
    by_cases h1 : (i : Int) < n
    · have h2 : (u i).getLsbD m = false := by
        cases hc : (u i).getLsbD m with
        | false => rfl
        | true => exact absurd ⟨h1, hc⟩ h
      rw [h2]; simp
    · rw [decide_eq_false h1]; simp
structure Thr (n : Int) (u0 u : Nat → BitVec 64) (m : Nat) : Prop where
  inn : ∀ i j : Nat, (u i).getLsbD j = true → (i : Int) < n ∧ (j : Int) < n
  base : ∀ i j : Nat, (u0 i).getLsbD j = true → (u i).getLsbD j = true
  thr : ∀ k : Nat, k < m → ∀ i j : Nat, (u i).getLsbD k = true → (u k).getLsbD j = true → (u i).getLsbD j = true
  sound : ∀ S : Nat → Prop, (∀ x y : Nat, S x → (u0 x).getLsbD y = true → S y) → ∀ x y : Nat, S x → (u x).getLsbD y = true → S y
theorem Thr.pass {n : Int} {u0 u : Nat → BitVec 64} {m : Nat} (h : Thr n u0 u m) : Thr n u0 (passTo m n u) (m + 1) := by
  have bit : ∀ i j : Nat, (passTo m n u i).getLsbD j = true ↔ ((u i).getLsbD j = true ∨ ((u i).getLsbD m = true ∧ (u m).getLsbD j = true)) := fun i j => by
    rw [pass_bit]
    simp only [Bool.or_eq_true, Bool.and_eq_true, decide_eq_true_eq]
    constructor
    · rintro (h1 | ⟨⟨h1, h2⟩, h3⟩)
      · exact .inl h1
      · exact .inr ⟨h2, h3⟩
    · rintro (h1 | ⟨h1, h2⟩)
      · exact .inl h1
      · exact .inr ⟨⟨(h.inn _ _ h1).1, h1⟩, h2⟩
  refine ⟨fun i j hb => ?_, fun i j hb => (bit i j).2 (.inl (h.base i j hb)), fun k hk i j h1 h2 => ?_, fun S hS x y hx hb => ?_⟩
  · rcases (bit i j).1 hb with h1 | ⟨h1, h2⟩
    · exact h.inn i j h1
    · exact ⟨(h.inn i m h1).1, (h.inn m j h2).2⟩
  · rw [bit] at *
    by_cases e : k = m
    · subst e
      have a1 : (u i).getLsbD k = true := by rcases h1 with h1 | h1; exact h1; exact h1.1
      have a2 : (u k).getLsbD j = true := by rcases h2 with h2 | h2; exact h2; exact h2.2
      exact .inr ⟨a1, a2⟩
    · have hk' : k < m := by omega
      rcases h1 with h1 | ⟨h1, h1'⟩ <;> rcases h2 with h2 | ⟨h2, h2'⟩
      · exact .inl (h.thr k hk' i j h1 h2)
      · exact .inr ⟨h.thr k hk' i m h1 h2, h2'⟩
      · exact .inr ⟨h1, h.thr k hk' m j h1' h2⟩
      · exact .inr ⟨h1, h2'⟩
  · rcases (bit x y).1 hb with h1 | ⟨h1, h2⟩
    · exact h.sound S hS x y hx h1
    · exact h.sound S hS m y (h.sound S hS x m hx h1) h2
theorem Thr.wall {n : Int} {u0 : Nat → BitVec 64} (hi : ∀ i j : Nat, (u0 i).getLsbD j = true → (i : Int) < n ∧ (j : Int) < n) : ∀ m, Thr n u0 (wall n u0 m) m
  | 0 => ⟨hi, fun _ _ h => h, fun k hk => by omega, fun S hS x y hx hb => hS x y hx hb⟩
  | m + 1 => (Thr.wall hi m).pass
theorem self_bit (r : Rl) (i j : Nat) : (selfTo (plainR r).up (pts r) i).getLsbD j = true ↔ ((i : Int) < pts r ∧ (j : Int) < pts r ∧ (hasR r i j = true ∨ i = j)) := by
  have hp := pts_bd r
  show (selfTo (fillR (pts r) (fun i => rowR r i) (pts r)).up (pts r) i).getLsbD j = true ↔ _
  unfold selfTo fillR
  by_cases h : (i : Int) < pts r
  · simp only [h, if_true]
    rw [getLsbD_withB, row_has r ⟨by omega, h⟩]
    simp only [Bool.or_eq_true, Bool.and_eq_true, decide_eq_true_eq]
    constructor
    · rintro (h1 | ⟨h1, h2⟩)
      · refine ⟨trivial, ?_, .inl h1⟩
        simp only [hasR, Bool.and_eq_true] at h1
        exact (isP_iff.1 h1.1.2).2
      · exact ⟨trivial, by omega, .inr (by omega)⟩
    · rintro ⟨-, h2, h3 | h3⟩
      · exact .inl h3
      · exact .inr ⟨by omega, by omega⟩
  · simp only [h, if_false]
    simp
theorem clo_thr (r : Rl) : Thr (pts r) (selfTo (plainR r).up (pts r)) (cloR r).up (pts r).toNat := Thr.wall (fun i j h => by have := (self_bit r i j).1 h; exact ⟨this.1, this.2.1⟩) _
theorem pts_pts {r : Rl} {u : Nat → BitVec 64} : pts ⟨pts r, u⟩ = pts r := by unfold pts; simp; omega
theorem clo_pts (r : Rl) : pts (cloR r) = pts r := pts_pts
theorem hasR_bit {r : Rl} {i j : Int} (h : hasR r i j = true) : (0 ≤ i ∧ i < pts r) ∧ (0 ≤ j ∧ j < pts r) ∧ (r.up i.toNat).getLsbD j.toNat = true := by
  simp only [hasR, Bool.and_eq_true] at h
  exact ⟨isP_iff.1 h.1.1, isP_iff.1 h.1.2, h.2⟩
theorem hasR_of {r : Rl} {i j : Int} (hi : 0 ≤ i ∧ i < pts r) (hj : 0 ≤ j ∧ j < pts r) (h : (r.up i.toNat).getLsbD j.toNat = true) : hasR r i j = true := by
  rw [hasR, isP_iff.2 hi, isP_iff.2 hj, h]; rfl
theorem clo_refl {r : Rl} {i : Int} (h : 0 ≤ i ∧ i < pts r) : hasR (cloR r) i i = true :=
  hasR_of (by rw [clo_pts]; omega) (by rw [clo_pts]; omega) ((clo_thr r).base _ _ ((self_bit r _ _).2 ⟨by omega, by omega, .inr rfl⟩))
theorem clo_base {r : Rl} {i j : Int} (h : hasR r i j = true) : hasR (cloR r) i j = true := by
  obtain ⟨h1, h2, -⟩ := hasR_bit h
  refine hasR_of (by rw [clo_pts]; omega) (by rw [clo_pts]; omega) ((clo_thr r).base _ _ ((self_bit r _ _).2 ⟨by omega, by omega, .inl ?_⟩))
  rw [Int.toNat_of_nonneg h1.1, Int.toNat_of_nonneg h2.1]; exact h
theorem clo_trans {r : Rl} {i j k : Int} (h1 : hasR (cloR r) i j = true) (h2 : hasR (cloR r) j k = true) : hasR (cloR r) i k = true := by
  obtain ⟨a1, a2, a3⟩ := hasR_bit h1
  obtain ⟨b1, b2, b3⟩ := hasR_bit h2
  exact hasR_of a1 b2 ((clo_thr r).thr _ (by rw [clo_pts] at a2; omega) _ _ a3 b3)
theorem clo_least {r : Rl} {i j : Int} (h : hasR (cloR r) i j = true) (S : Int → Prop) (hS : ∀ x y, S x → hasR r x y = true → S y) (hi : S i) : S j := by
  obtain ⟨a1, a2, a3⟩ := hasR_bit h
  have := (clo_thr r).sound (fun x => S (x : Int)) (fun x y hx hb => by
    obtain ⟨-, -, h1 | h1⟩ := (self_bit r x y).1 hb
    · exact hS _ _ hx h1
    · subst h1; exact hx) i.toNat j.toNat (by rw [Int.toNat_of_nonneg a1.1]; exact hi) a3
  rwa [Int.toNat_of_nonneg a2.1] at this
/-! ### The search -/
def scan (r : Rl) (x : Int) (l : List Int) : Nat → List Int
  | 0 => l
  | b + 1 => if (hasR r x b && !(scan r x l b).contains (b : Int)) = true then scan r x l b ++ [(b : Int)] else scan r x l b
def bfs (r : Rl) : Nat → Nat → List Int → List Int
  | 0, _, l => l
  | f + 1, a, l => if a < l.length then bfs r f (a + 1) (scan r (l.getD a 0) l (pts r).toNat) else l
def reachL (r : Rl) (i : Int) : List Int := if isP r i then bfs r 65 0 [i] else []
theorem reach_nil {r : Rl} {i : Int} (h : ¬ (0 ≤ i ∧ i < pts r)) : reachL r i = [] := if_neg fun h' => h (isP_iff.1 h')
def Okl (r : Rl) (l : List Int) : Prop := l.Nodup ∧ ∀ x ∈ l, 0 ≤ x ∧ x < pts r
theorem nodup_len : ∀ (n : Nat) (l : List Int), l.Nodup → (∀ x ∈ l, 0 ≤ x ∧ x < (n : Int)) → l.length ≤ n
  | 0, l, _, h => by
    cases l with
    | nil => simp
    | cons x l => have := h x (by simp); omega
  | n + 1, l, hn, h => by
    by_cases hm : (n : Int) ∈ l
    · have h1 := List.length_erase_of_mem hm
      have h2 := nodup_len n (l.erase (n : Int)) (hn.erase _) fun x hx => by
        have h3 := (hn.mem_erase_iff).1 hx
        have := h x h3.2; omega
      have : 0 < l.length := List.length_pos_of_mem hm
      omega
    · have := nodup_len n l hn fun x hx => by
        have := h x hx
        have : x ≠ n := fun e => hm (e ▸ hx)
        omega
      omega
theorem Okl.len {r : Rl} {l : List Int} (h : Okl r l) : l.length ≤ 64 := by
  have hp := pts_bd r
  have := nodup_len (pts r).toNat l h.1 fun x hx => by have := h.2 x hx; omega
  omega
theorem Okl.one {r : Rl} {i : Int} (h : 0 ≤ i ∧ i < pts r) : Okl r [i] := ⟨by simp, fun x hx => by simp at hx; subst hx; exact h⟩
theorem Okl.add {r : Rl} {l : List Int} {b : Int} (h : Okl r l) (hb : 0 ≤ b ∧ b < pts r) (hc : l.contains b = false) : Okl r (l ++ [b]) := by
  rw [List.contains_eq_mem, decide_eq_false_iff_not] at hc
  refine ⟨?_, fun x hx => ?_⟩
  · rw [List.nodup_append]
    refine ⟨h.1, by simp, fun x hx y hy e => ?_⟩
    simp at hy; subst hy; subst e; exact hc hx
  · rcases List.mem_append.1 hx with hx | hx
    · exact h.2 x hx
    · simp at hx; subst hx; exact hb
theorem scan_ok {r : Rl} {x : Int} {l : List Int} (h : Okl r l) : ∀ k : Nat, (k : Int) ≤ pts r → Okl r (scan r x l k)
  | 0, _ => h
  | k + 1, hk => by
    have ih := scan_ok (x := x) h k (by omega)
    unfold scan
    split
    · rename_i hc
      simp only [Bool.and_eq_true, Bool.not_eq_true'] at hc
      exact ih.add ⟨by omega, by omega⟩ hc.2
    · exact ih
theorem scan_app {r : Rl} {x : Int} {l : List Int} : ∀ k : Nat, ∃ t, scan r x l k = l ++ t ∧ ∀ y ∈ t, hasR r x y = true
  | 0 => ⟨[], by simp [scan], by simp⟩
  | k + 1 => by
    obtain ⟨t, h1, h2⟩ := scan_app (r := r) (x := x) (l := l) k
    unfold scan
    split
    · rename_i hc
      simp only [Bool.and_eq_true] at hc
      refine ⟨t ++ [(k : Int)], by rw [h1, List.append_assoc], fun y hy => ?_⟩
      rcases List.mem_append.1 hy with hy | hy
      · exact h2 y hy
      · simp at hy; subst hy; exact hc.1
    · exact ⟨t, h1, h2⟩
theorem scan_all {r : Rl} {x : Int} {l : List Int} : ∀ (k : Nat) (b : Nat), b < k → hasR r x b = true → (b : Int) ∈ scan r x l k
  | 0, b, hb, _ => by omega
  | k + 1, b, hb, h => by
    have ih := scan_all (r := r) (x := x) (l := l) k b
    unfold scan
    split
    · rename_i hc
      by_cases e : b = k
      · subst e; simp
      · exact List.mem_append_left _ (ih (by omega) h)
    · rename_i hc
      by_cases e : b = k
      · subst e
        rw [h] at hc; simp at hc; exact hc
      · exact ih (by omega) h
theorem bfs_all {r : Rl} (Q : Int → Prop) (hQ : ∀ x y, Q x → hasR r x y = true → Q y) : ∀ (f a : Nat) (l : List Int), (∀ x ∈ l, Q x) → ∀ x ∈ bfs r f a l, Q x
  | 0, a, l, h => h
  | f + 1, a, l, h => by
    unfold bfs
    split
    · rename_i ha
      refine bfs_all Q hQ f (a + 1) _ ?_
      obtain ⟨t, h1, h2⟩ := scan_app (r := r) (x := l.getD a 0) (l := l) (pts r).toNat
      rw [h1]
      intro y hy
      rcases List.mem_append.1 hy with hy | hy
      · exact h y hy
      · refine hQ _ _ (h (l.getD a 0) ?_) (h2 y hy)
        rw [List.getD_eq_getElem?_getD, List.getElem?_eq_getElem ha]; exact List.getElem_mem _
    · exact h
theorem bfs_closed {r : Rl} : ∀ (f a : Nat) (l : List Int), f + a = 65 → Okl r l → a ≤ l.length → (∀ k, k < a → ∀ b, hasR r (l.getD k 0) b = true → b ∈ l) →
    Okl r (bfs r f a l) ∧ (∀ x ∈ l, x ∈ bfs r f a l) ∧ ∀ x ∈ bfs r f a l, ∀ b, hasR r x b = true → b ∈ bfs r f a l
  | 0, a, l, hf, hok, ha, h => by have := hok.len; omega
  | f + 1, a, l, hf, hok, ha, h => by
    have hp := pts_bd r
    unfold bfs
    split
    · rename_i hlt
      obtain ⟨t, h1, h2⟩ := scan_app (r := r) (x := l.getD a 0) (l := l) (pts r).toNat
      have hget : ∀ k, k < l.length → (l ++ t).getD k 0 = l.getD k 0 := fun k hk => by
        rw [List.getD_eq_getElem?_getD, List.getD_eq_getElem?_getD, List.getElem?_append_left hk]
      have ih := bfs_closed f (a + 1) (scan r (l.getD a 0) l (pts r).toNat) (by omega) (scan_ok hok _ (by omega)) (by rw [h1, List.length_append]; omega) (fun k hk b hb => by
        rw [h1, hget k (by omega)] at hb
        by_cases e : k = a
        · subst e
          obtain ⟨-, b2, -⟩ := hasR_bit hb
          have := scan_all (r := r) (x := l.getD k 0) (l := l) (pts r).toNat b.toNat (by omega) (by rw [Int.toNat_of_nonneg b2.1]; exact hb)
          rwa [Int.toNat_of_nonneg b2.1] at this
        · rw [h1]; exact List.mem_append_left _ (h k (by omega) b hb))
      refine ⟨ih.1, fun x hx => ih.2.1 x (by rw [h1]; exact List.mem_append_left _ hx), ih.2.2⟩
    · rename_i hge
      refine ⟨hok, fun x hx => hx, fun x hx b hb => ?_⟩
      obtain ⟨k, hk, rfl⟩ := List.getElem_of_mem hx
      refine h k (by omega) b ?_
      rw [List.getD_eq_getElem?_getD, List.getElem?_eq_getElem hk]; exact hb
theorem mem_reach (r : Rl) (i j : Int) : j ∈ reachL r i ↔ hasR (cloR r) i j = true := by
  by_cases h : 0 ≤ i ∧ i < pts r
  · rw [reachL, if_pos (isP_iff.2 h)]
    have hc := bfs_closed 65 0 [i] rfl (Okl.one h) (by simp) (fun k hk => by omega)
    constructor
    · intro hj
      exact bfs_all (fun x => hasR (cloR r) i x = true) (fun x y hx hy => clo_trans hx (clo_base hy)) 65 0 [i] (fun x hx => by simp at hx; subst hx; exact clo_refl h) j hj
    · intro hj
      exact clo_least hj (fun x => x ∈ bfs r 65 0 [i]) (fun x y hx hy => hc.2.2 x hx y hy) (hc.2.1 i (by simp))
  · rw [reach_nil h]
    constructor
    · intro hj; cases hj
    · intro hj
      have := (hasR_bit hj).1
      rw [clo_pts] at this; exact absurd this h
theorem bfs_step {r : Rl} {a : Int} {l : List Int} (h0 : 0 ≤ a) (h : a < l.length) (hl : l.length ≤ 64) : bfs r (65 - a.toNat) a.toNat l = bfs r (65 - (a + 1).toNat) (a + 1).toNat (scan r (l.getD a.toNat 0) l (pts r).toNat) := by
  rw [show 65 - a.toNat = (65 - (a + 1).toNat) + 1 by omega, show (a + 1).toNat = a.toNat + 1 by omega]
  rw [bfs, if_pos (by omega)]
theorem bfs_end {r : Rl} {a : Int} {l : List Int} (h0 : 0 ≤ a) (h : ¬ a < l.length) : bfs r (65 - a.toNat) a.toNat l = l := by
  cases 65 - a.toNat with
  | zero => rfl
  | succ f => rw [bfs, if_neg (by omega)]
theorem scan_yes {r : Rl} {x b : Int} {l : List Int} (h0 : 0 ≤ b) (h : hasR r x b = true) (hc : (scan r x l b.toNat).contains b = false) : scan r x l b.toNat ++ [b] = scan r x l (b + 1).toNat := by
  rw [show (b + 1).toNat = b.toNat + 1 by omega]
  rw [scan, Int.toNat_of_nonneg h0, h, hc]; rfl
theorem scan_no1 {r : Rl} {x b : Int} {l : List Int} (h0 : 0 ≤ b) (h : hasR r x b = false) : scan r x l b.toNat = scan r x l (b + 1).toNat := by
  rw [show (b + 1).toNat = b.toNat + 1 by omega]
  rw [scan, Int.toNat_of_nonneg h0, h]; rfl
theorem scan_no2 {r : Rl} {x b : Int} {l : List Int} (h0 : 0 ≤ b) (hc : (scan r x l b.toNat).contains b = true) : scan r x l b.toNat = scan r x l (b + 1).toNat := by
  rw [show (b + 1).toNat = b.toNat + 1 by omega]
  rw [scan, Int.toNat_of_nonneg h0, hc]; simp
/-! ### Made from pairs; orders -/
def newR (n : Int) : Rl := ⟨pts ⟨n, fun _ => 0#64⟩, fun _ => 0#64⟩
def addP (r : Rl) (p : Int × Int) : Rl := if isP r p.1 && isP r p.2 then r.put p.1.toNat (withB (r.up p.1.toNat) p.2) else r
def ofR (n : Int) (l : List (Int × Int)) : Rl := l.foldl addP (newR n)
def withR (r : Rl) (i j : Int) : Rl := if isP r i && isP r j then (plainR r).put i.toNat (withB ((plainR r).up i.toNat) j) else plainR r
def mutualR (r : Rl) (i : Int) : BitVec 64 := upR r (ofl [i]) &&& downR r (ofl [i])
def orderB (r : Rl) : Bool := decide ((plainR r).eq (cloR r)) && decide (∀ i : Nat, i < (pts r).toNat → ∀ j : Nat, j < i → (hasR r i j && hasR r j i) = false)
/-! ### The longest chain; the covers -/
def stepL (r : Rl) (s : BitVec 64) : BitVec 64 := orAll (strictR r) (lst s) &&& s
def longF (r : Rl) : Nat → BitVec 64 → Int → Int
  | 0, _, n => n
  | f + 1, s, n => if stepL r s = 0#64 then n else longF r f (stepL r s) (n + 1)
def longV (r : Rl) : Int × Bool := if orderB r then (longF r 65 (below (pts r)) 0, true) else (0, false)
def covS (r : Rl) (i : Int) : BitVec 64 := strictR r i &&& ~~~ orAll (strictR r) (lst (strictR r i))
def coversTo (r : Rl) (k : Int) : List (Int × Int) := (upto k).flatMap fun i => (lst (covS r i)).map fun y => (i, y)
def coversL (r : Rl) : List (Int × Int) := if orderB r then coversTo r (pts r) else []
def chain3 : Rl := ⟨3, fun i => [7#64, 6#64, 4#64].getD i 0#64⟩
/-! ### Images -/
def anyTo (p : Int → Bool) (l : List Int) (a : Int) : Bool := (l.take a.toNat).any p
/-! ### The least closed relation -/
/-! ### Classes -/
def newTo (r : Rl) (k j : Int) : Bool := (upto j).all fun x => !(hasR r k x && hasR r x k)
def clsTo (r : Rl) (k : Int) : Int := (((upto k).filter fun i => newTo (cloR r) i i).length : Nat)
end Go.Proofs.Ytphknfjaellkjaa.M
