/-
  The closure of a relation, as the program makes it and as a search finds it.
-/
import Derived.Test.YtkdbiooamgnfmaaGreatDoorOrd
namespace Go.Proofs.YtkdbiooamgnfmaaGreatDoor.M
set_option linter.unusedVariables false
/-! ### The closure's bits -/
theorem pass_bit (m : Nat) (n : Int) (u : Nat → BitVec 64) (i j : Nat) : (passTo m n u i).getLsbD j = ((u i).getLsbD j || (decide ((i : Int) < n) && (u i).getLsbD m && (u m).getLsbD j)) := by
  unfold passTo
  by_cases h : (i : Int) < n ∧ (u i).getLsbD m = true
  · rw [if_pos h, BitVec.getLsbD_or, decide_eq_true h.1, h.2]; simp
  · rw [if_neg h]
    by_cases h1 : (i : Int) < n
    · have h2 : (u i).getLsbD m = false := by
        cases hc : (u i).getLsbD m with
        | false => rfl
        | true => exact absurd ⟨h1, hc⟩ h
      rw [h2]; simp
    · rw [decide_eq_false h1]; simp
structure Thr (n : Int) (u0 u : Nat → BitVec 64) (m : Nat) : Prop where
  inn : ∀ i j : Nat, (u i).getLsbD j = true → (i : Int) < n ∧ (j : Int) < n
  base : ∀ i j : Nat, (u0 i).getLsbD j = true → (u i).getLsbD j = true
  thr : ∀ k : Nat, k < m → ∀ i j : Nat, (u i).getLsbD k = true → (u k).getLsbD j = true → (u i).getLsbD j = true
  sound : ∀ S : Nat → Prop, (∀ x y : Nat, S x → (u0 x).getLsbD y = true → S y) → ∀ x y : Nat, S x → (u x).getLsbD y = true → S y
theorem Thr.pass {n : Int} {u0 u : Nat → BitVec 64} {m : Nat} (h : Thr n u0 u m) : Thr n u0 (passTo m n u) (m + 1) := by
  have bit : ∀ i j : Nat, (passTo m n u i).getLsbD j = true ↔ ((u i).getLsbD j = true ∨ ((u i).getLsbD m = true ∧ (u m).getLsbD j = true)) := fun i j => by
    rw [pass_bit]
    simp only [Bool.or_eq_true, Bool.and_eq_true, decide_eq_true_eq]
    constructor
    · rintro (h1 | ⟨⟨h1, h2⟩, h3⟩)
      · exact .inl h1
      · exact .inr ⟨h2, h3⟩
    · rintro (h1 | ⟨h1, h2⟩)
      · exact .inl h1
      · exact .inr ⟨⟨(h.inn _ _ h1).1, h1⟩, h2⟩
  refine ⟨fun i j hb => ?_, fun i j hb => (bit i j).2 (.inl (h.base i j hb)), fun k hk i j h1 h2 => ?_, fun S hS x y hx hb => ?_⟩
  · rcases (bit i j).1 hb with h1 | ⟨h1, h2⟩
    · exact h.inn i j h1
    · exact ⟨(h.inn i m h1).1, (h.inn m j h2).2⟩
  · rw [bit] at *
    by_cases e : k = m
    · subst e
      have a1 : (u i).getLsbD k = true := by rcases h1 with h1 | h1; exact h1; exact h1.1
      have a2 : (u k).getLsbD j = true := by rcases h2 with h2 | h2; exact h2; exact h2.2
      exact .inr ⟨a1, a2⟩
    · have hk' : k < m := by omega
      rcases h1 with h1 | ⟨h1, h1'⟩ <;> rcases h2 with h2 | ⟨h2, h2'⟩
      · exact .inl (h.thr k hk' i j h1 h2)
      · exact .inr ⟨h.thr k hk' i m h1 h2, h2'⟩
      · exact .inr ⟨h1, h.thr k hk' m j h1' h2⟩
      · exact .inr ⟨h1, h2'⟩
  · rcases (bit x y).1 hb with h1 | ⟨h1, h2⟩
    · exact h.sound S hS x y hx h1
    · exact h.sound S hS m y (h.sound S hS x m hx h1) h2
theorem Thr.wall {n : Int} {u0 : Nat → BitVec 64} (hi : ∀ i j : Nat, (u0 i).getLsbD j = true → (i : Int) < n ∧ (j : Int) < n) : ∀ m, Thr n u0 (wall n u0 m) m
  | 0 => ⟨hi, fun _ _ h => h, fun k hk => by omega, fun S hS x y hx hb => hS x y hx hb⟩
  | m + 1 => (Thr.wall hi m).pass
theorem self_bit (r : Rl) (i j : Nat) : (selfTo (plainR r).up (pts r) i).getLsbD j = true ↔ ((i : Int) < pts r ∧ (j : Int) < pts r ∧ (hasR r i j = true ∨ i = j)) := by
  have hp := pts_bd r
  show (selfTo (fillR (pts r) (fun i => rowR r i) (pts r)).up (pts r) i).getLsbD j = true ↔ _
  unfold selfTo fillR
  by_cases h : (i : Int) < pts r
  · simp only [h, if_true]
    rw [getLsbD_withB, row_has r ⟨by omega, h⟩]
    simp only [Bool.or_eq_true, Bool.and_eq_true, decide_eq_true_eq]
    constructor
    · rintro (h1 | ⟨h1, h2⟩)
      · refine ⟨trivial, ?_, .inl h1⟩
        simp only [hasR, Bool.and_eq_true] at h1
        exact (isP_iff.1 h1.1.2).2
      · exact ⟨trivial, by omega, .inr (by omega)⟩
    · rintro ⟨-, h2, h3 | h3⟩
      · exact .inl h3
      · exact .inr ⟨by omega, by omega⟩
  · simp only [h, if_false]
    simp
theorem clo_thr (r : Rl) : Thr (pts r) (selfTo (plainR r).up (pts r)) (cloR r).up (pts r).toNat := Thr.wall (fun i j h => by have := (self_bit r i j).1 h; exact ⟨this.1, this.2.1⟩) _
theorem pts_pts {r : Rl} {u : Nat → BitVec 64} : pts ⟨pts r, u⟩ = pts r := by unfold pts; simp; omega
theorem clo_pts (r : Rl) : pts (cloR r) = pts r := pts_pts
theorem plain_pts (r : Rl) : pts (plainR r) = pts r := pts_pts
theorem hasR_bit {r : Rl} {i j : Int} (h : hasR r i j = true) : (0 ≤ i ∧ i < pts r) ∧ (0 ≤ j ∧ j < pts r) ∧ (r.up i.toNat).getLsbD j.toNat = true := by
  simp only [hasR, Bool.and_eq_true] at h
  exact ⟨isP_iff.1 h.1.1, isP_iff.1 h.1.2, h.2⟩
theorem hasR_of {r : Rl} {i j : Int} (hi : 0 ≤ i ∧ i < pts r) (hj : 0 ≤ j ∧ j < pts r) (h : (r.up i.toNat).getLsbD j.toNat = true) : hasR r i j = true := by
  rw [hasR, isP_iff.2 hi, isP_iff.2 hj, h]; rfl
theorem clo_bit {r : Rl} {i j : Nat} : ((cloR r).up i).getLsbD j = true ↔ hasR (cloR r) i j = true := by
  constructor
  · intro h
    have := (clo_thr r).inn i j h
    exact hasR_of (by rw [clo_pts]; omega) (by rw [clo_pts]; omega) (by simpa using h)
  · intro h
    have := (hasR_bit h).2.2; simpa using this
theorem clo_refl {r : Rl} {i : Int} (h : 0 ≤ i ∧ i < pts r) : hasR (cloR r) i i = true :=
  hasR_of (by rw [clo_pts]; omega) (by rw [clo_pts]; omega) ((clo_thr r).base _ _ ((self_bit r _ _).2 ⟨by omega, by omega, .inr rfl⟩))
theorem clo_base {r : Rl} {i j : Int} (h : hasR r i j = true) : hasR (cloR r) i j = true := by
  obtain ⟨h1, h2, -⟩ := hasR_bit h
  refine hasR_of (by rw [clo_pts]; omega) (by rw [clo_pts]; omega) ((clo_thr r).base _ _ ((self_bit r _ _).2 ⟨by omega, by omega, .inl ?_⟩))
  rw [Int.toNat_of_nonneg h1.1, Int.toNat_of_nonneg h2.1]; exact h
theorem clo_trans {r : Rl} {i j k : Int} (h1 : hasR (cloR r) i j = true) (h2 : hasR (cloR r) j k = true) : hasR (cloR r) i k = true := by
  obtain ⟨a1, a2, a3⟩ := hasR_bit h1
  obtain ⟨b1, b2, b3⟩ := hasR_bit h2
  exact hasR_of a1 b2 ((clo_thr r).thr _ (by rw [clo_pts] at a2; omega) _ _ a3 b3)
theorem clo_least {r : Rl} {i j : Int} (h : hasR (cloR r) i j = true) (S : Int → Prop) (hS : ∀ x y, S x → hasR r x y = true → S y) (hi : S i) : S j := by
  obtain ⟨a1, a2, a3⟩ := hasR_bit h
  have := (clo_thr r).sound (fun x => S (x : Int)) (fun x y hx hb => by
    obtain ⟨-, -, h1 | h1⟩ := (self_bit r x y).1 hb
    · exact hS _ _ hx h1
    · subst h1; exact hx) i.toNat j.toNat (by rw [Int.toNat_of_nonneg a1.1]; exact hi) a3
  rwa [Int.toNat_of_nonneg a2.1] at this
/-! ### The search -/
def scan (r : Rl) (x : Int) (l : List Int) : Nat → List Int
  | 0 => l
  | b + 1 => if (hasR r x b && !(scan r x l b).contains (b : Int)) = true then scan r x l b ++ [(b : Int)] else scan r x l b
def bfs (r : Rl) : Nat → Nat → List Int → List Int
  | 0, _, l => l
  | f + 1, a, l => if a < l.length then bfs r f (a + 1) (scan r (l.getD a 0) l (pts r).toNat) else l
def reachL (r : Rl) (i : Int) : List Int := if isP r i then bfs r 65 0 [i] else []
theorem reach_nil {r : Rl} {i : Int} (h : ¬ (0 ≤ i ∧ i < pts r)) : reachL r i = [] := if_neg fun h' => h (isP_iff.1 h')
def Okl (r : Rl) (l : List Int) : Prop := l.Nodup ∧ ∀ x ∈ l, 0 ≤ x ∧ x < pts r
theorem nodup_len : ∀ (n : Nat) (l : List Int), l.Nodup → (∀ x ∈ l, 0 ≤ x ∧ x < (n : Int)) → l.length ≤ n
  | 0, l, _, h => by
    cases l with
    | nil => simp
    | cons x l => have := h x (by simp); omega
  | n + 1, l, hn, h => by
    by_cases hm : (n : Int) ∈ l
    · have h1 := List.length_erase_of_mem hm
      have h2 := nodup_len n (l.erase (n : Int)) (hn.erase _) fun x hx => by
        have h3 := (hn.mem_erase_iff).1 hx
        have := h x h3.2; omega
      have : 0 < l.length := List.length_pos_of_mem hm
      omega
    · have := nodup_len n l hn fun x hx => by
        have := h x hx
        have : x ≠ n := fun e => hm (e ▸ hx)
        omega
      omega
theorem Okl.len {r : Rl} {l : List Int} (h : Okl r l) : l.length ≤ 64 := by
  have hp := pts_bd r
  have := nodup_len (pts r).toNat l h.1 fun x hx => by have := h.2 x hx; omega
  omega
theorem Okl.one {r : Rl} {i : Int} (h : 0 ≤ i ∧ i < pts r) : Okl r [i] := ⟨by simp, fun x hx => by simp at hx; subst hx; exact h⟩
theorem Okl.add {r : Rl} {l : List Int} {b : Int} (h : Okl r l) (hb : 0 ≤ b ∧ b < pts r) (hc : l.contains b = false) : Okl r (l ++ [b]) := by
  rw [List.contains_eq_mem, decide_eq_false_iff_not] at hc
  refine ⟨?_, fun x hx => ?_⟩
  · rw [List.nodup_append]
    refine ⟨h.1, by simp, fun x hx y hy e => ?_⟩
    simp at hy; subst hy; subst e; exact hc hx
  · rcases List.mem_append.1 hx with hx | hx
    · exact h.2 x hx
    · simp at hx; subst hx; exact hb
theorem scan_ok {r : Rl} {x : Int} {l : List Int} (h : Okl r l) : ∀ k : Nat, (k : Int) ≤ pts r → Okl r (scan r x l k)
  | 0, _ => h
  | k + 1, hk => by
    have ih := scan_ok (x := x) h k (by omega)
    unfold scan
    split
    · rename_i hc
      simp only [Bool.and_eq_true, Bool.not_eq_true'] at hc
      exact ih.add ⟨by omega, by omega⟩ hc.2
    · exact ih
theorem scan_app {r : Rl} {x : Int} {l : List Int} : ∀ k : Nat, ∃ t, scan r x l k = l ++ t ∧ ∀ y ∈ t, hasR r x y = true
  | 0 => ⟨[], by simp [scan], by simp⟩
  | k + 1 => by
    obtain ⟨t, h1, h2⟩ := scan_app (r := r) (x := x) (l := l) k
    unfold scan
    split
    · rename_i hc
      simp only [Bool.and_eq_true] at hc
      refine ⟨t ++ [(k : Int)], by rw [h1, List.append_assoc], fun y hy => ?_⟩
      rcases List.mem_append.1 hy with hy | hy
      · exact h2 y hy
      · simp at hy; subst hy; exact hc.1
    · exact ⟨t, h1, h2⟩
theorem scan_all {r : Rl} {x : Int} {l : List Int} : ∀ (k : Nat) (b : Nat), b < k → hasR r x b = true → (b : Int) ∈ scan r x l k
  | 0, b, hb, _ => by omega
  | k + 1, b, hb, h => by
    have ih := scan_all (r := r) (x := x) (l := l) k b
    unfold scan
    split
    · rename_i hc
      by_cases e : b = k
      · subst e; simp
      · exact List.mem_append_left _ (ih (by omega) h)
    · rename_i hc
      by_cases e : b = k
      · subst e
        rw [h] at hc; simp at hc; exact hc
      · exact ih (by omega) h
theorem bfs_all {r : Rl} (Q : Int → Prop) (hQ : ∀ x y, Q x → hasR r x y = true → Q y) : ∀ (f a : Nat) (l : List Int), (∀ x ∈ l, Q x) → ∀ x ∈ bfs r f a l, Q x
  | 0, a, l, h => h
  | f + 1, a, l, h => by
    unfold bfs
    split
    · rename_i ha
      refine bfs_all Q hQ f (a + 1) _ ?_
      obtain ⟨t, h1, h2⟩ := scan_app (r := r) (x := l.getD a 0) (l := l) (pts r).toNat
      rw [h1]
      intro y hy
      rcases List.mem_append.1 hy with hy | hy
      · exact h y hy
      · refine hQ _ _ (h (l.getD a 0) ?_) (h2 y hy)
        rw [List.getD_eq_getElem?_getD, List.getElem?_eq_getElem ha]; exact List.getElem_mem _
    · exact h
theorem bfs_closed {r : Rl} : ∀ (f a : Nat) (l : List Int), f + a = 65 → Okl r l → a ≤ l.length → (∀ k, k < a → ∀ b, hasR r (l.getD k 0) b = true → b ∈ l) →
    Okl r (bfs r f a l) ∧ (∀ x ∈ l, x ∈ bfs r f a l) ∧ ∀ x ∈ bfs r f a l, ∀ b, hasR r x b = true → b ∈ bfs r f a l
  | 0, a, l, hf, hok, ha, h => by have := hok.len; omega
  | f + 1, a, l, hf, hok, ha, h => by
    have hp := pts_bd r
    unfold bfs
    split
    · rename_i hlt
      obtain ⟨t, h1, h2⟩ := scan_app (r := r) (x := l.getD a 0) (l := l) (pts r).toNat
      have hget : ∀ k, k < l.length → (l ++ t).getD k 0 = l.getD k 0 := fun k hk => by
        rw [List.getD_eq_getElem?_getD, List.getD_eq_getElem?_getD, List.getElem?_append_left hk]
      have ih := bfs_closed f (a + 1) (scan r (l.getD a 0) l (pts r).toNat) (by omega) (scan_ok hok _ (by omega)) (by rw [h1, List.length_append]; omega) (fun k hk b hb => by
        rw [h1, hget k (by omega)] at hb
        by_cases e : k = a
        · subst e
          obtain ⟨-, b2, -⟩ := hasR_bit hb
          have := scan_all (r := r) (x := l.getD k 0) (l := l) (pts r).toNat b.toNat (by omega) (by rw [Int.toNat_of_nonneg b2.1]; exact hb)
          rwa [Int.toNat_of_nonneg b2.1] at this
        · rw [h1]; exact List.mem_append_left _ (h k (by omega) b hb))
      refine ⟨ih.1, fun x hx => ih.2.1 x (by rw [h1]; exact List.mem_append_left _ hx), ih.2.2⟩
    · rename_i hge
      refine ⟨hok, fun x hx => hx, fun x hx b hb => ?_⟩
      obtain ⟨k, hk, rfl⟩ := List.getElem_of_mem hx
      refine h k (by omega) b ?_
      rw [List.getD_eq_getElem?_getD, List.getElem?_eq_getElem hk]; exact hb
theorem mem_reach (r : Rl) (i j : Int) : j ∈ reachL r i ↔ hasR (cloR r) i j = true := by
  by_cases h : 0 ≤ i ∧ i < pts r
  · rw [reachL, if_pos (isP_iff.2 h)]
    have hc := bfs_closed 65 0 [i] rfl (Okl.one h) (by simp) (fun k hk => by omega)
    constructor
    · intro hj
      exact bfs_all (fun x => hasR (cloR r) i x = true) (fun x y hx hy => clo_trans hx (clo_base hy)) 65 0 [i] (fun x hx => by simp at hx; subst hx; exact clo_refl h) j hj
    · intro hj
      exact clo_least hj (fun x => x ∈ bfs r 65 0 [i]) (fun x y hx hy => hc.2.2 x hx y hy) (hc.2.1 i (by simp))
  · rw [reach_nil h]
    constructor
    · intro hj; cases hj
    · intro hj
      have := (hasR_bit hj).1
      rw [clo_pts] at this; exact absurd this h
theorem bfs_step {r : Rl} {a : Int} {l : List Int} (h0 : 0 ≤ a) (h : a < l.length) (hl : l.length ≤ 64) : bfs r (65 - a.toNat) a.toNat l = bfs r (65 - (a + 1).toNat) (a + 1).toNat (scan r (l.getD a.toNat 0) l (pts r).toNat) := by
  rw [show 65 - a.toNat = (65 - (a + 1).toNat) + 1 by omega, show (a + 1).toNat = a.toNat + 1 by omega]
  rw [bfs, if_pos (by omega)]
theorem bfs_end {r : Rl} {a : Int} {l : List Int} (h0 : 0 ≤ a) (h : ¬ a < l.length) : bfs r (65 - a.toNat) a.toNat l = l := by
  cases 65 - a.toNat with
  | zero => rfl
  | succ f => rw [bfs, if_neg (by omega)]
theorem scan_yes {r : Rl} {x b : Int} {l : List Int} (h0 : 0 ≤ b) (h : hasR r x b = true) (hc : (scan r x l b.toNat).contains b = false) : scan r x l b.toNat ++ [b] = scan r x l (b + 1).toNat := by
  rw [show (b + 1).toNat = b.toNat + 1 by omega]
  rw [scan, Int.toNat_of_nonneg h0, h, hc]; rfl
theorem scan_no1 {r : Rl} {x b : Int} {l : List Int} (h0 : 0 ≤ b) (h : hasR r x b = false) : scan r x l b.toNat = scan r x l (b + 1).toNat := by
  rw [show (b + 1).toNat = b.toNat + 1 by omega]
  rw [scan, Int.toNat_of_nonneg h0, h]; rfl
theorem scan_no2 {r : Rl} {x b : Int} {l : List Int} (h0 : 0 ≤ b) (hc : (scan r x l b.toNat).contains b = true) : scan r x l b.toNat = scan r x l (b + 1).toNat := by
  rw [show (b + 1).toNat = b.toNat + 1 by omega]
  rw [scan, Int.toNat_of_nonneg h0, hc]; simp
theorem reach_row (r : Rl) {i : Nat} (h : (i : Int) < pts r) : ofl (reachL r i) = (cloR r).up i := eq_of_bits fun j hj => by
  rw [getLsbD_ofl, decide_eq_true hj, Bool.true_and, Bool.eq_iff_iff, clo_bit, ← mem_reach]
  simp [List.contains_eq_mem]
theorem clo_row0 (r : Rl) {i : Nat} (h : ¬ (i : Int) < pts r) : (cloR r).up i = 0#64 := eq_of_bits fun j hj => by
  cases hc : ((cloR r).up i).getLsbD j with
  | false => simp
  | true => exact absurd ((clo_thr r).inn i j hc).1 h
theorem clo_ref (r : Rl) : fillR (pts r) (fun i => ofl (reachL r i)) (pts r) = cloR r := by
  refine rl_ext fun i => ?_
  by_cases h : (i : Int) < pts r
  · rw [if_pos h]; exact reach_row r h
  · rw [if_neg h]; exact (clo_row0 r h).symm
theorem plain_clo (r : Rl) : plainR (cloR r) = cloR r := by
  have hp := pts_bd r
  unfold plainR
  rw [clo_pts]
  refine rl_ext fun i => ?_
  show (if (i : Int) < pts r then rowR (cloR r) i else 0#64) = (cloR r).up i
  by_cases h : (i : Int) < pts r
  · rw [if_pos h]
    refine eq_of_bits fun j hj => ?_
    rw [row_has (cloR r) ⟨by omega, by rw [clo_pts]; exact h⟩, Bool.eq_iff_iff, clo_bit]
  · rw [if_neg h]; exact (clo_row0 r h).symm
/-! ### Made from pairs; orders -/
def newR (n : Int) : Rl := ⟨pts ⟨n, fun _ => 0#64⟩, fun _ => 0#64⟩
def addP (r : Rl) (p : Int × Int) : Rl := if isP r p.1 && isP r p.2 then r.put p.1.toNat (withB (r.up p.1.toNat) p.2) else r
def ofR (n : Int) (l : List (Int × Int)) : Rl := l.foldl addP (newR n)
def withR (r : Rl) (i j : Int) : Rl := if isP r i && isP r j then (plainR r).put i.toNat (withB ((plainR r).up i.toNat) j) else plainR r
def mutualR (r : Rl) (i : Int) : BitVec 64 := upR r (ofl [i]) &&& downR r (ofl [i])
def orderB (r : Rl) : Bool := decide ((plainR r).eq (cloR r)) && decide (∀ i : Nat, i < (pts r).toNat → ∀ j : Nat, j < i → (hasR r i j && hasR r j i) = false)
theorem has_plain (r : Rl) (i j : Int) : hasR (plainR r) i j = hasR r i j := by
  have hp := pts_bd r
  by_cases hi : 0 ≤ i ∧ i < pts r
  · by_cases hj : 0 ≤ j ∧ j < pts r
    · rw [hasR, isP, isP, plain_pts, decide_eq_true hi, decide_eq_true hj]
      have e : (plainR r).up i.toNat = rowR r i := by
        show (if ((i.toNat : Nat) : Int) < pts r then rowR r (i.toNat : Nat) else 0#64) = rowR r i
        rw [Int.toNat_of_nonneg hi.1, if_pos hi.2]
      rw [e, row_has r hi, Int.toNat_of_nonneg hj.1]; rfl
    · rw [has_noJ (by rw [isP, plain_pts]; exact decide_eq_false hj), has_noJ (by rw [isP]; exact decide_eq_false hj)]
  · rw [has_noI (by rw [isP, plain_pts]; exact decide_eq_false hi), has_noI (by rw [isP]; exact decide_eq_false hi)]
theorem has_eq {a b : Rl} (h : a.eq b) (i j : Int) : hasR a i j = hasR b i j := by
  have hp : pts a = pts b := by unfold pts; rw [h.1]
  have hb := pts_bd b
  by_cases hi : 0 ≤ i ∧ i < pts b
  · rw [hasR, hasR, isP, isP, isP, isP, hp, h.2 i.toNat (by omega)]
  · rw [has_noI (by rw [isP, hp]; exact decide_eq_false hi), has_noI (by rw [isP]; exact decide_eq_false hi)]
theorem has_closed {r : Rl} (h : (plainR r).eq (cloR r)) (i j : Int) : hasR r i j = hasR (cloR r) i j := by rw [← has_plain, has_eq h]
theorem up_bit (r : Rl) (s : BitVec 64) (j : Nat) : (upR r s).getLsbD j = true ↔ ∃ i : Int, hasB s i = true ∧ hasR r i j = true := by
  rw [upR, orAll_bit, List.any_eq_true]
  constructor
  · rintro ⟨i, h1, h2⟩
    rw [mem_lst, hasB, BitVec.getLsbD_and, getLsbD_below, Bool.and_eq_true, Bool.and_eq_true, decide_eq_true_eq, inB, decide_eq_true_eq] at h1
    have hi : 0 ≤ i ∧ i < pts r := by omega
    refine ⟨i, by rw [hasB, h1.2.1, inB, decide_eq_true (by omega)]; rfl, ?_⟩
    rwa [row_has r hi] at h2
  · rintro ⟨i, h1, h2⟩
    have hi := (hasR_bit h2).1
    have hb := hasB_bd h1
    refine ⟨i, ?_, by rw [row_has r hi]; exact h2⟩
    rw [mem_lst, hasB, BitVec.getLsbD_and, getLsbD_below]
    rw [hasB, Bool.and_eq_true] at h1
    rw [h1.1, h1.2, decide_eq_true (by omega)]; rfl
theorem ne_zero_bit {s : BitVec 64} : s ≠ 0#64 ↔ ∃ i : Nat, s.getLsbD i = true := by
  constructor
  · intro h
    by_cases hc : ∃ i : Nat, s.getLsbD i = true
    · exact hc
    · refine absurd (eq_of_bits fun i _ => ?_) h
      cases hb : s.getLsbD i with
      | false => simp
      | true => exact absurd ⟨i, hb⟩ hc
  · rintro ⟨i, h⟩ e
    rw [e] at h; simp at h
theorem down_bit (r : Rl) (s : BitVec 64) (j : Nat) : (downR r s).getLsbD j = true ↔ ∃ i : Int, hasB s i = true ∧ hasR r j i = true := by
  have hp := pts_bd r
  rw [downR, downTo, getLsbD_bitsTo, Bool.and_eq_true, Bool.and_eq_true, decide_eq_true_eq, decide_eq_true_eq, decide_eq_true_eq]
  rw [ne_zero_bit]
  constructor
  · rintro ⟨⟨h1, h2⟩, i, h3⟩
    rw [BitVec.getLsbD_and, Bool.and_eq_true, row_has r ⟨by omega, by omega⟩] at h3
    have hi := (hasR_bit h3.1).2.1
    exact ⟨i, by rw [hasB, inB, decide_eq_true (by omega)]; simpa using h3.2, h3.1⟩
  · rintro ⟨i, h1, h2⟩
    obtain ⟨a1, a2, -⟩ := hasR_bit h2
    refine ⟨⟨by omega, by omega⟩, i.toNat, ?_⟩
    rw [BitVec.getLsbD_and, row_has r a1, Int.toNat_of_nonneg a2.1, h2]
    rw [hasB, Bool.and_eq_true] at h1
    rw [h1.2]; rfl
theorem hasB_one {i j : Int} (h : 0 ≤ i ∧ i < 64) : hasB (ofl [i]) j = true ↔ j = i := by
  rw [← mem_lst] 
  constructor
  · intro hj
    have := hasB_bd ((mem_lst _ _).1 hj)
    have h2 := (mem_lst _ _).1 hj
    rw [hasB, getLsbD_ofl] at h2
    simp [List.contains_eq_mem] at h2; omega
  · intro e
    subst e
    rw [mem_lst, hasB, getLsbD_ofl, inB, decide_eq_true h]
    simp [List.contains_eq_mem]; omega
theorem mutual_bit {r : Rl} {i : Int} (h : 0 ≤ i ∧ i < pts r) (j : Nat) : (mutualR r i).getLsbD j = true ↔ (hasR r i j = true ∧ hasR r j i = true) := by
  have hp := pts_bd r
  rw [mutualR, BitVec.getLsbD_and, Bool.and_eq_true, up_bit, down_bit]
  constructor
  · rintro ⟨⟨a, a1, a2⟩, b, b1, b2⟩
    rw [hasB_one (by omega)] at a1 b1
    subst a1; subst b1; exact ⟨a2, b2⟩
  · rintro ⟨h1, h2⟩
    exact ⟨⟨i, (hasB_one (by omega)).2 rfl, h1⟩, i, (hasB_one (by omega)).2 rfl, h2⟩
theorem order_no0 {r : Rl} (h : ¬ (plainR r).eq (cloR r)) : orderB r = false := by rw [orderB, decide_eq_false h]; rfl
theorem order_anti {r : Rl} : (∀ i : Nat, i < (pts r).toNat → ∀ j : Nat, j < i → (hasR r i j && hasR r j i) = false) ↔ ∀ i j : Int, hasR r i j = true → hasR r j i = true → i = j := by
  constructor
  · intro h i j h1 h2
    obtain ⟨a1, a2, -⟩ := hasR_bit h1
    by_cases e : i = j
    · exact e
    · by_cases hlt : j < i
      · have := h i.toNat (by omega) j.toNat (by omega)
        rw [Int.toNat_of_nonneg a1.1, Int.toNat_of_nonneg a2.1, h1, h2] at this; cases this
      · have := h j.toNat (by omega) i.toNat (by omega)
        rw [Int.toNat_of_nonneg a1.1, Int.toNat_of_nonneg a2.1, h1, h2] at this; cases this
  · intro h i hi j hj
    cases h1 : hasR r i j with
    | false => rfl
    | true =>
      cases h2 : hasR r j i with
      | false => rfl
      | true => have := h i j h1 h2; omega
theorem order_no {r : Rl} {k : Int} (hc : (plainR r).eq (cloR r)) (hk : 0 ≤ k ∧ k < pts r) (h : mutualR r k ≠ ofl [k]) : orderB r = false := by
  rw [orderB, Bool.and_eq_false_iff]
  refine .inr (decide_eq_false fun ha => h ?_)
  have hp := pts_bd r
  rw [order_anti] at ha
  refine eq_of_bits fun j hj => ?_
  rw [Bool.eq_iff_iff, mutual_bit hk]
  constructor
  · rintro ⟨h1, h2⟩
    have := ha _ _ h1 h2
    rw [getLsbD_ofl]; simp [List.contains_eq_mem]; omega
  · intro h1
    have : (j : Int) = k := by rw [getLsbD_ofl] at h1; simp [List.contains_eq_mem] at h1; omega
    rw [this, has_closed hc, clo_refl hk]; simp
theorem order_yes {r : Rl} (hc : (plainR r).eq (cloR r)) (h : ∀ j : Int, 0 ≤ j → j < pts r → mutualR r j = ofl [j]) : orderB r = true := by
  rw [orderB, decide_eq_true hc, Bool.true_and, decide_eq_true_eq, order_anti]
  intro i j h1 h2
  obtain ⟨a1, a2, -⟩ := hasR_bit h1
  have hp := pts_bd r
  have h3 := (mutual_bit a1 j.toNat).2 (by rw [Int.toNat_of_nonneg a2.1]; exact ⟨h1, h2⟩)
  rw [h i a1.1 a1.2, getLsbD_ofl] at h3
  simp [List.contains_eq_mem] at h3; omega
/-! ### The longest chain; the covers -/
theorem strict_bit {r : Rl} {i : Int} (h : 0 ≤ i ∧ i < pts r) (j : Nat) : (strictR r i).getLsbD j = true ↔ hasR r i j = true ∧ ¬ (j : Int) = i := by
  rw [strictR, getLsbD_lessB, row_has r h]; simp
theorem below_in {n : Int} (j : Nat) (h : (below n).getLsbD j = true) : (j : Int) < n := by
  rw [getLsbD_below, decide_eq_true_eq] at h; exact h.2
def stepL (r : Rl) (s : BitVec 64) : BitVec 64 := orAll (strictR r) (lst s) &&& s
def longF (r : Rl) : Nat → BitVec 64 → Int → Int
  | 0, _, n => n
  | f + 1, s, n => if stepL r s = 0#64 then n else longF r f (stepL r s) (n + 1)
def longV (r : Rl) : Int × Bool := if orderB r then (longF r 65 (below (pts r)) 0, true) else (0, false)
theorem step_in {r : Rl} {s : BitVec 64} (hs : ∀ j : Nat, s.getLsbD j = true → (j : Int) < pts r) (j : Nat) (h : (stepL r s).getLsbD j = true) : (j : Int) < pts r := by
  rw [stepL, BitVec.getLsbD_and, Bool.and_eq_true] at h; exact hs j h.2
theorem nodup_sub : ∀ (l m : List Int), l.Nodup → (∀ x ∈ l, x ∈ m) → l.length ≤ m.length
  | [], m, _, _ => by simp
  | x :: l, m, hn, h => by
    rw [List.nodup_cons] at hn
    have hx := h x (by simp)
    have := nodup_sub l (m.erase x) hn.2 fun y hy => (List.mem_erase_of_ne (show y ≠ x from fun e => hn.1 (by rw [← e]; exact hy))).2 (h y (by simp [hy]))
    have h2 := List.length_erase_of_mem hx
    have : 0 < m.length := List.length_pos_of_mem hx
    simp; omega
theorem lst_nodup (s : BitVec 64) : (lst s).Nodup := by
  have := lst_sorted s
  exact this.imp fun h => by omega
theorem lst_lt {a b : BitVec 64} {j : Int} (h : ∀ i : Int, hasB a i = true → hasB b i = true) (hb : hasB b j = true) (ha : hasB a j = false) : (lst a).length < (lst b).length := by
  have := nodup_sub (j :: lst a) (lst b) (by
    rw [List.nodup_cons]
    exact ⟨fun hm => absurd ((mem_lst _ _).1 hm) (by rw [ha]; simp), lst_nodup a⟩) fun x hx => by
      rcases List.mem_cons.1 hx with rfl | hx
      · exact (mem_lst _ _).2 hb
      · exact (mem_lst _ _).2 (h x ((mem_lst _ _).1 hx))
  simp at this; omega
theorem exists_min (lt : Int → Int → Prop) (hi : ∀ x, ¬ lt x x) (ht : ∀ x y z, lt x y → lt y z → lt x z) : ∀ l : List Int, l ≠ [] → ∃ m ∈ l, ∀ x ∈ l, ¬ lt x m
  | [], h => absurd rfl h
  | [a], _ => ⟨a, by simp, fun x hx => by simp at hx; subst hx; exact hi _⟩
  | a :: b :: l, _ => by
    obtain ⟨m, hm, h⟩ := exists_min lt hi ht (b :: l) (by simp)
    by_cases ha : lt a m
    · refine ⟨a, by simp, fun x hx => ?_⟩
      rcases List.mem_cons.1 hx with rfl | hx
      · exact hi _
      · exact fun hxa => h x hx (ht _ _ _ hxa ha)
    · refine ⟨m, List.mem_cons_of_mem _ hm, fun x hx => ?_⟩
      rcases List.mem_cons.1 hx with rfl | hx
      · exact ha
      · exact h x hx
theorem order_spec {r : Rl} (h : orderB r = true) : (plainR r).eq (cloR r) ∧ ∀ i j : Int, hasR r i j = true → hasR r j i = true → i = j := by
  rw [orderB, Bool.and_eq_true, decide_eq_true_eq, decide_eq_true_eq, order_anti] at h; exact h
theorem order_trans {r : Rl} (h : orderB r = true) {i j k : Int} (h1 : hasR r i j = true) (h2 : hasR r j k = true) : hasR r i k = true := by
  have hc := (order_spec h).1
  rw [has_closed hc] at *; exact clo_trans h1 h2
theorem hasB_and (a b : BitVec 64) (i : Int) : hasB (a &&& b) i = (hasB a i && hasB b i) := by
  rw [hasB, hasB, hasB, BitVec.getLsbD_and]
  cases inB i <;> simp
theorem hasB_nat {s : BitVec 64} {i : Int} (h : hasB s i = true) : s.getLsbD i.toNat = true := by rw [hasB, Bool.and_eq_true] at h; exact h.2
theorem hasB_of {s : BitVec 64} {j : Nat} (h : s.getLsbD j = true) : hasB s j = true := by
  have : j < 64 := BitVec.lt_of_getLsbD h
  rw [hasB, inB, decide_eq_true (by omega)]; simpa using h
theorem step_lt {r : Rl} {s : BitVec 64} (ho : orderB r = true) (hs : ∀ j : Nat, s.getLsbD j = true → (j : Int) < pts r) (h : ¬ stepL r s = 0#64) : (lst (stepL r s)).length < (lst s).length := by
  have hne : lst s ≠ [] := fun e => by
    rw [lst_eq_nil] at e; subst e
    exact h (by rw [stepL]; simp)
  obtain ⟨m, hm, hmin⟩ := exists_min (fun x y => hasR r x y = true ∧ x ≠ y) (fun x hx => hx.2 rfl) (fun x y z h1 h2 => ⟨order_trans ho h1.1 h2.1, fun e => by
    subst e
    exact h1.2 ((order_spec ho).2 _ _ h1.1 h2.1)⟩) (lst s) hne
  rw [mem_lst] at hm
  refine lst_lt (j := m) (fun i hi => by rw [stepL, hasB_and, Bool.and_eq_true] at hi; exact hi.2) hm ?_
  cases hc : hasB (stepL r s) m with
  | false => rfl
  | true =>
    rw [stepL, hasB_and, Bool.and_eq_true] at hc
    have h1 := hasB_nat hc.1
    rw [orAll_bit, List.any_eq_true] at h1
    obtain ⟨x, hx, hb⟩ := h1
    have hxs := (mem_lst _ _).1 hx
    have hbd := hasB_bd hxs
    have hxp := hs _ (hasB_nat hxs)
    have hmb := hasB_bd hm
    rw [strict_bit ⟨hbd.1, by omega⟩, Int.toNat_of_nonneg hmb.1] at hb
    exact absurd ⟨hb.1, fun e => hb.2 e.symm⟩ (hmin x hx)
def covS (r : Rl) (i : Int) : BitVec 64 := strictR r i &&& ~~~ orAll (strictR r) (lst (strictR r i))
def coversTo (r : Rl) (k : Int) : List (Int × Int) := (upto k).flatMap fun i => (lst (covS r i)).map fun y => (i, y)
def coversL (r : Rl) : List (Int × Int) := if orderB r then coversTo r (pts r) else []
def chain3 : Rl := ⟨3, fun i => [7#64, 6#64, 4#64].getD i 0#64⟩
/-! ### Images -/
def anyTo (p : Int → Bool) (l : List Int) (a : Int) : Bool := (l.take a.toNat).any p
/-! ### The least closed relation -/
/-! ### Classes -/
theorem order_ref {r : Rl} {k : Int} (hk : ¬ k < pts r) (hf : ∀ i j : Int, 0 ≤ j → j < i → i < k → (hasR r i j && hasR r j i) = false) : orderB r = decide ((plainR r).eq (cloR r)) := by
  rw [orderB, decide_eq_true (show ∀ i : Nat, i < (pts r).toNat → ∀ j : Nat, j < i → (hasR r i j && hasR r j i) = false from fun i hi j hj => hf i j (by omega) (by omega) (by omega)), Bool.and_true]
theorem order_refno {r : Rl} {i j : Int} (h1 : hasR r i j = true) (h2 : hasR r j i = true) (h : j < i) : orderB r = false := by
  cases hc : orderB r with
  | false => rfl
  | true => have := (order_spec hc).2 i j h1 h2; omega
def newTo (r : Rl) (k j : Int) : Bool := (upto j).all fun x => !(hasR r k x && hasR r x k)
def clsTo (r : Rl) (k : Int) : Int := (((upto k).filter fun i => newTo (cloR r) i i).length : Nat)
theorem cls_bd {r : Rl} {k : Int} (h0 : 0 ≤ k) : 0 ≤ clsTo r k ∧ clsTo r k ≤ k := by
  have := List.length_filter_le (fun i => newTo (cloR r) i i) (upto k)
  rw [upto_len] at this
  rw [clsTo]; omega
end Go.Proofs.YtkdbiooamgnfmaaGreatDoor.M
