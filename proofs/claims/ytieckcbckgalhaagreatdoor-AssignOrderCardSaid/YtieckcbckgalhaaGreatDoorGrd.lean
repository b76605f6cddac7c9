/-
  Grids of principals, plainly: words of who keeps whom out.
-/
import Derived.Test.YtieckcbckgalhaaGreatDoorHas
namespace Go.Proofs.YtieckcbckgalhaaGreatDoor.M
set_option linter.unusedVariables false

def rightG (r : Rl) : Bool := decide (1 ≤ r.n ∧ r.n ≤ 8) && decide ((plainR r).eq (cloR r))
theorem right_spec {r : Rl} (h : rightG r = true) : (1 ≤ r.n ∧ r.n ≤ 8) ∧ pts r = r.n ∧ (plainR r).eq (cloR r) := by
  rw [rightG, Bool.and_eq_true, decide_eq_true_eq, decide_eq_true_eq] at h
  exact ⟨h.1, by unfold pts; omega, h.2⟩
theorem g_refl {r : Rl} (h : rightG r = true) {i : Int} (hi : 0 ≤ i ∧ i < r.n) : hasR r i i = true := by
  have hs := right_spec h
  rw [has_closed hs.2.2]; exact clo_refl (by rw [hs.2.1]; exact hi)
theorem g_trans {r : Rl} (h : rightG r = true) {i j k : Int} (h1 : hasR r i j = true) (h2 : hasR r j k = true) : hasR r i k = true := by
  have hs := right_spec h
  rw [has_closed hs.2.2] at *; exact clo_trans h1 h2
theorem g_bd {r : Rl} (h : rightG r = true) {i j : Int} (h1 : hasR r i j = true) : (0 ≤ i ∧ i < r.n) ∧ (0 ≤ j ∧ j < r.n) := by
  have := hasR_bd h1
  rw [(right_spec h).2.1] at this; exact this
theorem up_has (r : Rl) (s : BitVec 64) (j : Int) : hasB (upR r s) j = true ↔ ∃ i : Int, hasB s i = true ∧ hasR r i j = true := by
  have hp := pts_bd r
  rw [hasB_iff, up_bit]
  constructor
  · rintro ⟨h1, i, h2, h3⟩; rw [Int.toNat_of_nonneg h1.1] at h3; exact ⟨i, h2, h3⟩
  · rintro ⟨i, h2, h3⟩
    have hb := hasR_bd h3
    exact ⟨by omega, i, h2, by rw [Int.toNat_of_nonneg hb.2.1]; exact h3⟩
theorem down_hasS (r : Rl) (s : BitVec 64) (j : Int) : hasB (downR r s) j = true ↔ ∃ i : Int, hasB s i = true ∧ hasR r j i = true := by
  have hp := pts_bd r
  rw [hasB_iff, down_bit]
  constructor
  · rintro ⟨h1, i, h2, h3⟩; rw [Int.toNat_of_nonneg h1.1] at h3; exact ⟨i, h2, h3⟩
  · rintro ⟨i, h2, h3⟩
    have hb := hasR_bd h3
    exact ⟨by omega, i, h2, by rw [Int.toNat_of_nonneg hb.1.1]; exact h3⟩
theorem hasB_andNot (a b : BitVec 64) (j : Int) : hasB (a &&& ~~~b) j = true ↔ hasB a j = true ∧ ¬ hasB b j = true := by
  rw [hasB_iff, hasB_iff, hasB_iff]
  simp only [BitVec.getLsbD_and, BitVec.getLsbD_not, Bool.and_eq_true, Bool.not_eq_true', decide_eq_true_eq]
  constructor
  · rintro ⟨h, h1, h2, h3⟩; exact ⟨⟨h, h1⟩, fun h4 => by rw [h4.2] at h3; cases h3⟩
  · rintro ⟨⟨h, h1⟩, h2⟩
    refine ⟨h, h1, by omega, ?_⟩
    cases hc : b.getLsbD j.toNat with
    | false => rfl
    | true => exact absurd ⟨h, hc⟩ h2
/-! ### Rows of a word -/
def growG (r : Rl) (w : BitVec 64) (o : Int) : BitVec 64 := (w >>> (BitVec.ofInt 64 (8 * o)).toNat) &&& below r.n
theorem grow_has {r : Rl} {w : BitVec 64} {o : Int} (ho : 0 ≤ o ∧ o < 8) (hn : r.n ≤ 8) (x : Int) : hasB (growG r w o) x = true ↔ (0 ≤ x ∧ x < r.n) ∧ hasB w (8 * o + x) = true := by
  rw [growG, hasB_and, Bool.and_eq_true, below_has, hasB_iff, hasB_iff, ofInt_toNat (by omega), BitVec.getLsbD_ushiftRight]
  constructor
  · rintro ⟨⟨h1, h2⟩, h3⟩
    refine ⟨by omega, by omega, ?_⟩
    rw [show (8 * o + x).toNat = (8 * o).toNat + x.toNat by omega]; exact h2
  · rintro ⟨h1, h2, h3⟩
    refine ⟨⟨by omega, ?_⟩, by omega⟩
    rw [show (8 * o).toNat + x.toNat = (8 * o + x).toNat by omega]; exact h3
def rowsG (f : Int → BitVec 64) (k : Int) : BitVec 64 := (upto k).foldl (fun a o => a ||| (f o <<< (BitVec.ofInt 64 (8 * o)).toNat)) 0#64
theorem rows_next {f : Int → BitVec 64} {k : Int} (h0 : 0 ≤ k) : rowsG f k ||| (f k <<< (BitVec.ofInt 64 (8 * k)).toNat) = rowsG f (k + 1) := by
  rw [rowsG, rowsG, ← upto_succ h0, List.foldl_append]; rfl
theorem shl_has {a : BitVec 64} {o : Int} (ho : 0 ≤ o ∧ o < 8) (z : Int) : hasB (a <<< (BitVec.ofInt 64 (8 * o)).toNat) z = true ↔ (0 ≤ z ∧ z < 64) ∧ hasB a (z - 8 * o) = true := by
  rw [hasB_iff, hasB_iff, ofInt_toNat (by omega), BitVec.getLsbD_shiftLeft]
  simp only [Bool.and_eq_true, Bool.not_eq_true', decide_eq_true_eq, decide_eq_false_iff_not]
  constructor
  · rintro ⟨h, ⟨h1, h2⟩, h3⟩
    exact ⟨h, by omega, by rw [show (z - 8 * o).toNat = z.toNat - (8 * o).toNat by omega]; exact h3⟩
  · rintro ⟨h, h1, h2⟩
    exact ⟨h, ⟨by omega, by omega⟩, by rw [show z.toNat - (8 * o).toNat = (z - 8 * o).toNat by omega]; exact h2⟩
theorem rows_any {f : Int → BitVec 64} (z : Int) : ∀ k : Nat, k ≤ 8 → (hasB (rowsG f k) z = true ↔ ∃ o : Int, (0 ≤ o ∧ o < k) ∧ (0 ≤ z ∧ z < 64) ∧ hasB (f o) (z - 8 * o) = true)
  | 0, _ => by
    rw [show rowsG f ((0 : Nat) : Int) = 0#64 from rfl, has_zero]
    constructor
    · intro h; cases h
    · rintro ⟨o, h, -⟩; omega
  | k + 1, hk => by
    have e : rowsG f ((k + 1 : Nat) : Int) = rowsG f (k : Int) ||| (f k <<< (BitVec.ofInt 64 (8 * (k : Int))).toNat) := (rows_next (k := (k : Int)) (by omega)).symm
    rw [e, hasB_or, Bool.or_eq_true, rows_any z k (by omega), shl_has (by omega)]
    constructor
    · rintro (⟨o, h1, h2⟩ | ⟨h1, h2⟩)
      · exact ⟨o, by omega, h2⟩
      · exact ⟨k, by omega, h1, h2⟩
    · rintro ⟨o, h1, h2, h3⟩
      by_cases he : o = k
      · subst he; exact .inr ⟨h2, h3⟩
      · exact .inl ⟨o, by omega, h2, h3⟩
theorem rows_has {f : Int → BitVec 64} {n : Int} (hn : 0 ≤ n ∧ n ≤ 8) (hf : ∀ o y : Int, 0 ≤ o → o < n → hasB (f o) y = true → y < 8) (z : Int) : hasB (rowsG f n) z = true ↔ ∃ o y : Int, (0 ≤ o ∧ o < n) ∧ hasB (f o) y = true ∧ z = 8 * o + y := by
  have h := rows_any (f := f) z n.toNat (by omega)
  rw [Int.toNat_of_nonneg hn.1] at h
  rw [h]
  constructor
  · rintro ⟨o, h1, h2, h3⟩; exact ⟨o, z - 8 * o, h1, h3, by omega⟩
  · rintro ⟨o, y, h1, h2, h3⟩
    have := hasB_bd h2
    have := hf o y h1.1 h1.2 h2
    exact ⟨o, h1, by omega, by rw [show z - 8 * o = y by omega]; exact h2⟩
/-! ### Closing -/
def closeF (r : Rl) (w : BitVec 64) (o : Int) : BitVec 64 := orAll (fun p => downR r (growG r w p)) (lst (aboveR r o))
def closeG (r : Rl) (w : BitVec 64) : BitVec 64 := if rightG r then rowsG (closeF r w) r.n else 0#64
theorem closeF_has {r : Rl} (h : rightG r = true) (w : BitVec 64) (o x : Int) : hasB (closeF r w o) x = true ↔ ∃ p y : Int, hasR r o p = true ∧ hasR r x y = true ∧ hasB w (8 * p + y) = true := by
  have hs := right_spec h
  rw [closeF, hasB_orAll]
  constructor
  · rintro ⟨p, hp, h1⟩
    rw [mem_lst, above_has] at hp
    have hb := g_bd h hp
    rw [down_hasS] at h1
    obtain ⟨y, h2, h3⟩ := h1
    rw [grow_has (by omega) hs.1.2] at h2
    exact ⟨p, y, hp, h3, h2.2⟩
  · rintro ⟨p, y, h1, h2, h3⟩
    have hb := g_bd h h1
    refine ⟨p, by rw [mem_lst, above_has]; exact h1, ?_⟩
    rw [down_hasS]
    exact ⟨y, (grow_has (by omega) hs.1.2 y).2 ⟨(g_bd h h2).2, h3⟩, h2⟩
theorem close_has {r : Rl} (h : rightG r = true) (w : BitVec 64) (z : Int) : hasB (closeG r w) z = true ↔ ∃ o x p y : Int, z = 8 * o + x ∧ hasR r o p = true ∧ hasR r x y = true ∧ hasB w (8 * p + y) = true := by
  have hs := right_spec h
  rw [closeG, if_pos h, rows_has (by omega) (fun o y _ _ hy => by
    obtain ⟨p, q, -, h2, -⟩ := (closeF_has h w o y).1 hy
    have := g_bd h h2; omega)]
  constructor
  · rintro ⟨o, x, h1, h2, h3⟩
    obtain ⟨p, y, h4⟩ := (closeF_has h w o x).1 h2
    exact ⟨o, x, p, y, h3, h4⟩
  · rintro ⟨o, x, p, y, h3, h4⟩
    exact ⟨o, x, (g_bd h h4.1).1, (closeF_has h w o x).2 ⟨p, y, h4⟩, h3⟩
theorem close_no {r : Rl} {w : BitVec 64} (h : rightG r = false) : closeG r w = 0#64 := by rw [closeG, h]; rfl
theorem close_yes {r : Rl} {w : BitVec 64} (h : rightG r = true) : rowsG (closeF r w) r.n = closeG r w := by rw [closeG, h]; rfl
def outG (r : Rl) (w : BitVec 64) (o x : Int) : Bool := decide (0 ≤ o ∧ 0 ≤ x ∧ o < r.n ∧ x < r.n) && hasB w (8 * o + x)
theorem out_iff {r : Rl} {w : BitVec 64} {o x : Int} : outG r w o x = true ↔ (0 ≤ o ∧ 0 ≤ x ∧ o < r.n ∧ x < r.n) ∧ hasB w (8 * o + x) = true := by
  rw [outG, Bool.and_eq_true, decide_eq_true_eq]
def folB (r : Rl) (w : BitVec 64) (o x : Int) : Bool := (upto r.n).any fun p => (upto r.n).any fun y => outG r w p y && hasR r o p && hasR r x y
theorem fol_iff {r : Rl} {w : BitVec 64} {o x : Int} : folB r w o x = true ↔ ∃ p y : Int, outG r w p y = true ∧ hasR r o p = true ∧ hasR r x y = true := by
  rw [folB, List.any_eq_true]
  constructor
  · rintro ⟨p, -, h⟩
    rw [List.any_eq_true] at h
    obtain ⟨y, -, h⟩ := h
    rw [Bool.and_eq_true, Bool.and_eq_true] at h
    exact ⟨p, y, h.1.1, h.1.2, h.2⟩
  · rintro ⟨p, y, h1, h2, h3⟩
    have hb := (out_iff.1 h1).1
    refine ⟨p, mem_upto.2 (by omega), ?_⟩
    rw [List.any_eq_true]
    exact ⟨y, mem_upto.2 (by omega), by rw [h1, h2, h3]; rfl⟩
theorem fol_none {r : Rl} {w : BitVec 64} {o x k : Int} (hk : ¬ k < r.n) (hf : ∀ p y : Int, 0 ≤ p → p < k → ¬ (outG r w p y = true ∧ hasR r o p = true ∧ hasR r x y = true)) : folB r w o x = false := by
  cases hc : folB r w o x with
  | false => rfl
  | true =>
    obtain ⟨p, y, h⟩ := fol_iff.1 hc
    have hb := (out_iff.1 h.1).1
    exact absurd h (hf p y hb.1 (by omega))
def rowL (r : Rl) (w : BitVec 64) (o k : Int) : List Int := ((upto k).filter (folB r w o ·)).map (8 * o + ·)
def closeL (r : Rl) (w : BitVec 64) (k : Int) : List Int := (upto k).flatMap fun o => rowL r w o r.n
theorem rowL_yes {r : Rl} {w : BitVec 64} {o k : Int} (h0 : 0 ≤ k) (h : folB r w o k = true) : rowL r w o k ++ [8 * o + k] = rowL r w o (k + 1) := by
  rw [rowL, rowL, ← upto_succ h0, List.filter_append, List.map_append]; simp [h]
theorem rowL_no {r : Rl} {w : BitVec 64} {o k : Int} (h0 : 0 ≤ k) (h : folB r w o k = false) : rowL r w o k = rowL r w o (k + 1) := by
  rw [rowL, rowL, ← upto_succ h0, List.filter_append, List.map_append]; simp [h]
theorem closeL_next {r : Rl} {w : BitVec 64} {k x : Int} (h0 : 0 ≤ k) (hx : x = r.n) : closeL r w k ++ rowL r w k x = closeL r w (k + 1) := by
  subst hx
  rw [closeL, closeL, ← upto_succ h0, List.flatMap_append]; simp
theorem rowL_len {r : Rl} {w : BitVec 64} {o k : Int} : (rowL r w o k).length ≤ k.toNat := by
  rw [rowL, List.length_map]
  exact Nat.le_trans (List.length_filter_le _ _) (by rw [upto_len]; exact Nat.le_refl _)
theorem flat_le {f : Int → List Int} {m : Nat} (h : ∀ o, (f o).length ≤ m) : ∀ l : List Int, (l.flatMap f).length ≤ l.length * m
  | [] => by simp
  | o :: l => by
    have := flat_le h l
    have := h o
    rw [List.flatMap_cons, List.length_append, List.length_cons, Nat.add_mul]; omega
theorem closeL_len {r : Rl} {w : BitVec 64} {k : Int} (hn : r.n ≤ 8) (hk : k ≤ 8) : (closeL r w k).length ≤ 64 := by
  have h := flat_le (f := fun o => rowL r w o r.n) (m := 8) (fun o => Nat.le_trans rowL_len (by omega)) (upto k)
  rw [upto_len] at h
  have : k.toNat * 8 ≤ 64 := by omega
  exact Nat.le_trans h this
theorem mem_rowL {r : Rl} {w : BitVec 64} {o k z : Int} : z ∈ rowL r w o k ↔ ∃ x : Int, (0 ≤ x ∧ x < k) ∧ folB r w o x = true ∧ z = 8 * o + x := by
  rw [rowL, List.mem_map]
  constructor
  · rintro ⟨x, hx, rfl⟩
    rw [List.mem_filter, mem_upto] at hx
    exact ⟨x, hx.1, hx.2, rfl⟩
  · rintro ⟨x, h1, h2, rfl⟩
    exact ⟨x, List.mem_filter.2 ⟨mem_upto.2 h1, h2⟩, rfl⟩
theorem close_ref {r : Rl} {w : BitVec 64} {k : Int} (h : rightG r = true) (hk : k = r.n) : ofl (closeL r w k) = closeG r w := word_eq fun z => by
  subst hk
  have hs := right_spec h
  rw [Bool.eq_iff_iff, hasB_ofl, close_has h, closeL, List.mem_flatMap]
  constructor
  · rintro ⟨h1, o, ho, hz⟩
    rw [mem_rowL] at hz
    obtain ⟨x, hx, hf, rfl⟩ := hz
    obtain ⟨p, y, h2, h3, h4⟩ := fol_iff.1 hf
    exact ⟨o, x, p, y, rfl, h3, h4, (out_iff.1 h2).2⟩
  · rintro ⟨o, x, p, y, rfl, h2, h3, h4⟩
    have b1 := g_bd h h2; have b2 := g_bd h h3
    refine ⟨by omega, o, mem_upto.2 b1.1, ?_⟩
    rw [mem_rowL]
    exact ⟨x, b2.1, fol_iff.2 ⟨p, y, out_iff.2 ⟨by omega, h4⟩, h2, h3⟩, rfl⟩
def closedG (r : Rl) (w : BitVec 64) : Bool := rightG r && decide (closeG r w = w)
/-! ### What owners say -/
def mayTo (r : Rl) (s : BitVec 64) (x k : Int) : Bool := (upto k).any fun y => hasB s y && hasR r y x
theorem may_next {r : Rl} {s : BitVec 64} {x k : Int} (h0 : 0 ≤ k) : mayTo r s x (k + 1) = (mayTo r s x k || (hasB s k && hasR r k x)) := by
  rw [mayTo, mayTo, ← upto_succ h0, List.any_append]; simp
theorem may_up {r : Rl} {s : BitVec 64} {x k : Int} (h : rightG r = true) (hk : k = r.n) : mayTo r s x k = hasB (upR r s) x := by
  subst hk
  rw [Bool.eq_iff_iff, up_has, mayTo, List.any_eq_true]
  constructor
  · rintro ⟨y, -, hy⟩
    rw [Bool.and_eq_true] at hy; exact ⟨y, hy⟩
  · rintro ⟨y, h1, h2⟩
    exact ⟨y, mem_upto.2 (g_bd h h2).1, by rw [h1, h2]; rfl⟩
def ruleL (r : Rl) (s : BitVec 64) (o k : Int) : List Int := ((upto k).filter fun x => !hasB (upR r s) x).map (8 * o + ·)
theorem ruleL_yes {r : Rl} {s : BitVec 64} {o k : Int} (h0 : 0 ≤ k) (h : hasB (upR r s) k = false) : ruleL r s o k ++ [8 * o + k] = ruleL r s o (k + 1) := by
  rw [ruleL, ruleL, ← upto_succ h0, List.filter_append, List.map_append]; simp [h]
theorem ruleL_no {r : Rl} {s : BitVec 64} {o k : Int} (h0 : 0 ≤ k) (h : hasB (upR r s) k = true) : ruleL r s o k = ruleL r s o (k + 1) := by
  rw [ruleL, ruleL, ← upto_succ h0, List.filter_append, List.map_append]; simp [h]
theorem ruleL_len {r : Rl} {s : BitVec 64} {o k : Int} : (ruleL r s o k).length ≤ k.toNat := by
  rw [ruleL, List.length_map]
  exact Nat.le_trans (List.length_filter_le _ _) (by rw [upto_len]; exact Nat.le_refl _)
def ownF (o : Int) (s : BitVec 64) : Int → BitVec 64 := fun x => if x = o then s else 0#64
def ownsG (r : Rl) (o : Int) : Bool := rightG r && decide (0 ≤ o ∧ o < r.n)
def ruleG (r : Rl) (o : Int) (s : BitVec 64) : BitVec 64 := if ownsG r o then closeG r (rowsG (ownF o (below r.n &&& ~~~upR r s)) r.n) else 0#64
theorem own_no {r : Rl} {o : Int} (h : rightG r = false ∨ ¬ (0 ≤ o ∧ o < r.n)) : ownsG r o = false := by
  rw [ownsG]
  rcases h with h | h
  · rw [h]; rfl
  · rw [decide_eq_false h]; simp
theorem own_yes {r : Rl} {o : Int} (h : rightG r = true) (h2 : 0 ≤ o ∧ o < r.n) : ownsG r o = true := by rw [ownsG, h, decide_eq_true h2]; rfl
theorem own_spec {r : Rl} {o : Int} (h : ownsG r o = true) : rightG r = true ∧ 0 ≤ o ∧ o < r.n := by
  rw [ownsG, Bool.and_eq_true, decide_eq_true_eq] at h; exact h
theorem rule_no {r : Rl} {o : Int} {s : BitVec 64} (h : ownsG r o = false) : ruleG r o s = 0#64 := by rw [ruleG, h]; rfl
theorem ownF_has {o x : Int} {s : BitVec 64} (z : Int) : hasB (ownF o s x) z = true ↔ x = o ∧ hasB s z = true := by
  unfold ownF
  split
  · rename_i h; simp [h]
  · rename_i h; rw [has_zero]; simp [h]
theorem rowsOwn_has {r : Rl} (h : rightG r = true) {o : Int} {s : BitVec 64} (ho : 0 ≤ o ∧ o < r.n) (hs2 : ∀ y : Int, hasB s y = true → y < 8) (z : Int) : hasB (rowsG (ownF o s) r.n) z = true ↔ ∃ y : Int, hasB s y = true ∧ z = 8 * o + y := by
  have hs := right_spec h
  rw [rows_has (by omega) fun x y _ _ hy => hs2 y ((ownF_has y).1 hy).2]
  constructor
  · rintro ⟨x, y, h1, h2, h3⟩
    rw [ownF_has] at h2
    obtain ⟨rfl, h4⟩ := h2
    exact ⟨y, h4, h3⟩
  · rintro ⟨y, h1, h2⟩
    exact ⟨o, y, ho, (ownF_has y).2 ⟨rfl, h1⟩, h2⟩
theorem kept_lt {r : Rl} (h : rightG r = true) {s : BitVec 64} (y : Int) (hy : hasB (below r.n &&& s) y = true) : y < 8 := by
  have hs := right_spec h
  rw [hasB_and, Bool.and_eq_true, below_has] at hy; omega
theorem rule_ref {r : Rl} {s : BitVec 64} {o k : Int} (h : ownsG r o = true) (hk : k = r.n) : ofl (ruleL r s o k) = rowsG (ownF o (below r.n &&& ~~~upR r s)) r.n := word_eq fun z => by
  subst hk
  have hw := own_spec h
  have hs := right_spec hw.1
  rw [Bool.eq_iff_iff, hasB_ofl, rowsOwn_has hw.1 hw.2 (kept_lt hw.1), ruleL, List.mem_map]
  constructor
  · rintro ⟨h1, x, hx, rfl⟩
    rw [List.mem_filter, mem_upto] at hx
    refine ⟨x, (hasB_andNot _ _ _).2 ⟨(below_has _ _).2 (by omega), ?_⟩, rfl⟩
    simpa using hx.2
  · rintro ⟨y, hy, rfl⟩
    rw [hasB_andNot, below_has] at hy
    refine ⟨by omega, y, List.mem_filter.2 ⟨mem_upto.2 (by omega), ?_⟩, rfl⟩
    simpa using hy.2
def readersG (r : Rl) (w : BitVec 64) (o : Int) : BitVec 64 := if ownsG r o then below r.n &&& ~~~growG r w o else 0#64
def readL (r : Rl) (w : BitVec 64) (o k : Int) : List Int := (upto k).filter fun x => !outG r w o x
theorem readL_yes {r : Rl} {w : BitVec 64} {o k : Int} (h0 : 0 ≤ k) (h : outG r w o k = false) : readL r w o k ++ [k] = readL r w o (k + 1) := by
  rw [readL, readL, ← upto_succ h0, List.filter_append]; simp [h]
theorem readL_no {r : Rl} {w : BitVec 64} {o k : Int} (h0 : 0 ≤ k) (h : outG r w o k = true) : readL r w o k = readL r w o (k + 1) := by
  rw [readL, readL, ← upto_succ h0, List.filter_append]; simp [h]
theorem readL_len {r : Rl} {w : BitVec 64} {o k : Int} : (readL r w o k).length ≤ k.toNat := by
  rw [readL]
  exact Nat.le_trans (List.length_filter_le _ _) (by rw [upto_len]; exact Nat.le_refl _)
theorem read_no {r : Rl} {o : Int} {w : BitVec 64} (h : ownsG r o = false) : readersG r w o = 0#64 := by rw [readersG, h]; rfl
theorem read_ref {r : Rl} {w : BitVec 64} {o k : Int} (h : ownsG r o = true) (hk : k = r.n) : ofl (readL r w o k) = readersG r w o := word_eq fun z => by
  subst hk
  have hw := own_spec h
  have hs := right_spec hw.1
  rw [readersG, if_pos h, Bool.eq_iff_iff, hasB_ofl, hasB_andNot, below_has, grow_has (by omega) hs.1.2, readL, List.mem_filter, mem_upto]
  constructor
  · rintro ⟨h1, h2, h3⟩
    refine ⟨by omega, fun h4 => ?_⟩
    rw [out_iff.2 ⟨by omega, h4.2⟩] at h3; cases h3
  · rintro ⟨h1, h2⟩
    refine ⟨by omega, by omega, ?_⟩
    cases hc : outG r w o z with
    | false => rfl
    | true => exact absurd ⟨by omega, (out_iff.1 hc).2⟩ h2
def ownL (r : Rl) (w : BitVec 64) (k : Int) : List Int := (upto k).filter fun o => decide (growG r w o ≠ 0#64)
def ownersG (r : Rl) (w : BitVec 64) : BitVec 64 := if rightG r then ofl (ownL r w r.n) else 0#64
theorem ownL_yes {r : Rl} {w : BitVec 64} {k : Int} (h0 : 0 ≤ k) (h : growG r w k ≠ 0#64) : ownL r w k ++ [k] = ownL r w (k + 1) := by
  rw [ownL, ownL, ← upto_succ h0, List.filter_append]; simp [h]
theorem ownL_no {r : Rl} {w : BitVec 64} {k : Int} (h0 : 0 ≤ k) (h : ¬ growG r w k ≠ 0#64) : ownL r w k = ownL r w (k + 1) := by
  rw [ownL, ownL, ← upto_succ h0, List.filter_append]; simp [h]
theorem ownL_len {r : Rl} {w : BitVec 64} {k : Int} : (ownL r w k).length ≤ k.toNat := by
  rw [ownL]
  exact Nat.le_trans (List.length_filter_le _ _) (by rw [upto_len]; exact Nat.le_refl _)
theorem owner_no {r : Rl} {w : BitVec 64} (h : rightG r = false) : ownersG r w = 0#64 := by rw [ownersG, h]; rfl
theorem owner_yes {r : Rl} {w : BitVec 64} {k : Int} (h : rightG r = true) (hk : k = r.n) : ofl (ownL r w k) = ownersG r w := by subst hk; rw [ownersG, h]; rfl
theorem read_below {r : Rl} {w : BitVec 64} {o : Int} (h : rightG r = true) (ho : 0 ≤ o ∧ o < r.n) : readersG r w o ≠ below r.n ↔ growG r w o ≠ 0#64 := by
  rw [readersG, if_pos (own_yes h ho)]
  refine not_congr ⟨fun e => word_eq fun z => ?_, fun e => by rw [e, show ~~~(0#64) = BitVec.allOnes 64 by decide, BitVec.and_allOnes]⟩
  rw [has_zero]
  cases hc : hasB (growG r w o) z with
  | false => rfl
  | true =>
    have h1 : hasB (below r.n) z = true := by
      rw [growG, hasB_and, Bool.and_eq_true] at hc; exact hc.2
    rw [← e, hasB_andNot] at h1
    exact absurd hc h1.2
def topG (r : Rl) : BitVec 64 := if rightG r then rowsG (fun _ => below r.n) r.n else 0#64
theorem top_no {r : Rl} (h : rightG r = false) : topG r = 0#64 := by rw [topG, h]; rfl
theorem top_yes {r : Rl} (h : rightG r = true) : rowsG (fun _ => below r.n) r.n = topG r := by rw [topG, h]; rfl
theorem top_has {r : Rl} (h : rightG r = true) (z : Int) : hasB (topG r) z = true ↔ ∃ o x : Int, (0 ≤ o ∧ o < r.n) ∧ (0 ≤ x ∧ x < r.n) ∧ z = 8 * o + x := by
  have hs := right_spec h
  rw [topG, if_pos h, rows_has (by omega) fun o y _ _ hy => by rw [below_has] at hy; omega]
  constructor
  · rintro ⟨o, x, h1, h2, h3⟩
    rw [below_has] at h2
    exact ⟨o, x, h1, by omega, h3⟩
  · rintro ⟨o, x, h1, h2, h3⟩
    exact ⟨o, x, h1, (below_has _ _).2 (by omega), h3⟩
def topL (r : Rl) (k : Int) : List Int := (upto k).flatMap fun o => (upto r.n).map (8 * o + ·)
theorem topL_next {r : Rl} {k x : Int} (h0 : 0 ≤ k) (hx : x = r.n) : topL r k ++ (upto x).map (8 * k + ·) = topL r (k + 1) := by
  subst hx
  rw [topL, topL, ← upto_succ h0, List.flatMap_append]; simp
theorem topR_next {o x : Int} (h0 : 0 ≤ x) : (upto x).map (8 * o + ·) ++ [8 * o + x] = (upto (x + 1)).map (8 * o + ·) := by
  rw [← upto_succ h0, List.map_append]; simp
theorem topL_len {r : Rl} {k : Int} (hn : r.n ≤ 8) (hk : k ≤ 8) : (topL r k).length ≤ 64 := by
  have h := flat_le (f := fun o => (upto r.n).map (8 * o + ·)) (m := 8) (fun o => by rw [List.length_map, upto_len]; omega) (upto k)
  rw [upto_len] at h
  have : k.toNat * 8 ≤ 64 := by omega
  exact Nat.le_trans h this
theorem top_ref {r : Rl} {k : Int} (h : rightG r = true) (hk : k = r.n) : ofl (topL r k) = topG r := word_eq fun z => by
  subst hk
  have hs := right_spec h
  rw [Bool.eq_iff_iff, hasB_ofl, top_has h, topL, List.mem_flatMap]
  constructor
  · rintro ⟨h1, o, ho, hz⟩
    rw [List.mem_map] at hz
    obtain ⟨x, hx, rfl⟩ := hz
    exact ⟨o, x, mem_upto.1 ho, mem_upto.1 hx, rfl⟩
  · rintro ⟨o, x, h1, h2, rfl⟩
    exact ⟨by omega, o, mem_upto.2 h1, List.mem_map.2 ⟨x, mem_upto.2 h2, rfl⟩⟩
def heightG (r : Rl) : Int := if rightG r then clsTo r (pts r) * clsTo r (pts r) else 0
theorem height_no {r : Rl} (h : rightG r = false) : heightG r = 0 := by rw [heightG, h]; rfl
theorem height_yes {r : Rl} (h : rightG r = true) : clsTo r (pts r) * clsTo r (pts r) = heightG r := by rw [heightG, h]; rfl
theorem cls_sq {r : Rl} (h : rightG r = true) : -9223372036854775808 ≤ clsTo r (pts r) * clsTo r (pts r) ∧ clsTo r (pts r) * clsTo r (pts r) ≤ 9223372036854775807 := by
  have hs := right_spec h
  have hb := @cls_bd r (pts r) (by omega)
  have h1 : 0 ≤ clsTo r (pts r) * clsTo r (pts r) := Int.mul_nonneg hb.1 hb.1
  have h2 : clsTo r (pts r) * clsTo r (pts r) ≤ 8 * 8 := Int.mul_le_mul (by omega) (by omega) hb.1 (by omega)
  omega
/-! ### Laws -/
theorem gl_sub {r : Rl} (h : rightG r = true) (v : BitVec 64) : subB (v &&& topG r) (closeG r v) = true := subB_has.2 fun z hz => by
  rw [hasB_and, Bool.and_eq_true, top_has h] at hz
  obtain ⟨h1, o, x, h2, h3, rfl⟩ := hz
  exact (close_has h v _).2 ⟨o, x, o, x, rfl, g_refl h h2, g_refl h h3, h1⟩
theorem gl_top {r : Rl} (h : rightG r = true) (v : BitVec 64) : subB (closeG r v) (topG r) = true := subB_has.2 fun z hz => by
  obtain ⟨o, x, p, y, rfl, h1, h2, -⟩ := (close_has h v z).1 hz
  exact (top_has h _).2 ⟨o, x, (g_bd h h1).1, (g_bd h h2).1, rfl⟩
theorem dec8 {o x p y : Int} (hx : 0 ≤ x ∧ x < 8) (hy : 0 ≤ y ∧ y < 8) (h : 8 * o + x = 8 * p + y) : o = p ∧ x = y := by omega
theorem gl_idem {r : Rl} (h : rightG r = true) (v : BitVec 64) : closeG r (closeG r v) = closeG r v := word_eq fun z => by
  have hs := right_spec h
  rw [Bool.eq_iff_iff, close_has h, close_has h]
  constructor
  · rintro ⟨o, x, p, y, rfl, h1, h2, h3⟩
    obtain ⟨p', y', q, t, e, h4, h5, h6⟩ := (close_has h v _).1 h3
    have b1 := g_bd h h1; have b2 := g_bd h h2; have b3 := g_bd h h4; have b4 := g_bd h h5
    obtain ⟨rfl, rfl⟩ := dec8 (by omega) (by omega) e
    exact ⟨o, x, q, t, rfl, g_trans h h1 h4, g_trans h h2 h5, h6⟩
  · rintro ⟨o, x, p, y, rfl, h1, h2, h3⟩
    have b1 := g_bd h h1; have b2 := g_bd h h2
    exact ⟨o, x, o, x, rfl, g_refl h b1.1, g_refl h b2.1, (close_has h v _).2 ⟨o, x, p, y, rfl, h1, h2, h3⟩⟩
theorem close_mono {r : Rl} (h : rightG r = true) {v w : BitVec 64} (hv : subB v w = true) : subB (closeG r v) (closeG r w) = true := subB_has.2 fun z hz => by
  rw [subB_has] at hv
  obtain ⟨o, x, p, y, e, h1, h2, h3⟩ := (close_has h v z).1 hz
  exact (close_has h w z).2 ⟨o, x, p, y, e, h1, h2, hv _ h3⟩
theorem gl_least {r : Rl} (h : rightG r = true) {v w : BitVec 64} (hv : subB v (closeG r w) = true) : subB (closeG r v) (closeG r w) = true := by
  have := close_mono h hv
  rwa [gl_idem h] at this
theorem closed_is {r : Rl} (h : rightG r = true) {w : BitVec 64} (e : closeG r w = w) : closedG r w = true := by rw [closedG, h, decide_eq_true e]; rfl
theorem gl_or {r : Rl} (h : rightG r = true) (v w : BitVec 64) : closedG r (closeG r v ||| closeG r w) = true := closed_is h (word_eq fun z => by
  rw [Bool.eq_iff_iff]
  constructor
  · intro hz
    obtain ⟨o, x, p, y, e, h1, h2, h3⟩ := (close_has h _ z).1 hz
    rw [hasB_or, Bool.or_eq_true] at h3 ⊢
    rcases h3 with h3 | h3
    · left; rw [← gl_idem h v]; exact (close_has h _ z).2 ⟨o, x, p, y, e, h1, h2, h3⟩
    · right; rw [← gl_idem h w]; exact (close_has h _ z).2 ⟨o, x, p, y, e, h1, h2, h3⟩
  · intro hz
    have h1 : hasB (topG r) z = true := by
      rw [hasB_or, Bool.or_eq_true] at hz
      rcases hz with hz | hz
      · exact subB_has.1 (gl_top h v) z hz
      · exact subB_has.1 (gl_top h w) z hz
    exact subB_has.1 (gl_sub h _) z (by rw [hasB_and, hz, h1]; rfl))
theorem gl_and {r : Rl} (h : rightG r = true) (v w : BitVec 64) : closedG r (closeG r v &&& closeG r w) = true := closed_is h (word_eq fun z => by
  rw [Bool.eq_iff_iff]
  constructor
  · intro hz
    have h1 := subB_has.1 (close_mono h (and_sub (closeG r v) (closeG r w))) z hz
    have h2 := subB_has.1 (close_mono h (v := closeG r v &&& closeG r w) (w := closeG r w) (by rw [BitVec.and_comm]; exact and_sub _ _)) z hz
    rw [gl_idem h] at h1 h2
    rw [hasB_and, h1, h2]; rfl
  · intro hz
    have h1 : hasB (topG r) z = true := by
      have hz2 := hz
      rw [hasB_and, Bool.and_eq_true] at hz2
      exact subB_has.1 (gl_top h v) z hz2.1
    exact subB_has.1 (gl_sub h _) z (by rw [hasB_and (closeG r v &&& closeG r w), hz, h1]; rfl))
/-- What an owner says with those whom it lets read. -/
theorem back_row {r : Rl} (h : rightG r = true) (w : BitVec 64) {o : Int} (ho : 0 ≤ o ∧ o < r.n) (z : Int) : hasB (ruleG r o (readersG r (closeG r w) o)) z = true ↔ ∃ q x y : Int, z = 8 * q + x ∧ hasR r q o = true ∧ hasR r x y = true ∧ hasB (closeG r w) (8 * o + y) = true := by
  have hs := right_spec h
  rw [ruleG, if_pos (own_yes h ho), readersG, if_pos (own_yes h ho), close_has h]
  have hk : ∀ y : Int, hasB (below r.n &&& ~~~upR r (below r.n &&& ~~~growG r (closeG r w) o)) y = true ↔ hasB (growG r (closeG r w) o) y = true := fun y => by
    rw [hasB_andNot, below_has, up_has, grow_has (by omega) hs.1.2]
    constructor
    · rintro ⟨h1, h2⟩
      refine ⟨by omega, ?_⟩
      cases hc : hasB (closeG r w) (8 * o + y) with
      | true => rfl
      | false =>
        refine absurd ⟨y, (hasB_andNot _ _ _).2 ⟨(below_has _ _).2 h1, fun h3 => ?_⟩, g_refl h (by omega)⟩ h2
        rw [grow_has (by omega) hs.1.2, hc] at h3; cases h3.2
    · rintro ⟨h1, h2⟩
      refine ⟨by omega, fun ⟨i, h3, h4⟩ => ?_⟩
      rw [hasB_andNot, grow_has (by omega) hs.1.2] at h3
      refine h3.2 ⟨(g_bd h h4).1, ?_⟩
      rw [← gl_idem h w]
      exact (close_has h _ _).2 ⟨o, i, o, y, rfl, g_refl h ho, h4, h2⟩
  constructor
  · rintro ⟨q, x, p, y, e, h1, h2, h3⟩
    rw [rowsOwn_has h ho (kept_lt h)] at h3
    obtain ⟨y', h4, h5⟩ := h3
    rw [hk, grow_has (by omega) hs.1.2] at h4
    have b1 := g_bd h h1; have b2 := g_bd h h2
    obtain ⟨rfl, rfl⟩ := dec8 (by omega) (by omega) h5
    exact ⟨q, x, y, e, h1, h2, h4.2⟩
  · rintro ⟨q, x, y, e, h1, h2, h3⟩
    refine ⟨q, x, o, y, e, h1, h2, ?_⟩
    rw [rowsOwn_has h ho (kept_lt h)]
    exact ⟨y, (hk y).2 ((grow_has (by omega) hs.1.2 y).2 ⟨(g_bd h h2).2, h3⟩), rfl⟩
theorem owner_has {r : Rl} (h : rightG r = true) (w : BitVec 64) (o : Int) : hasB (ownersG r w) o = true ↔ (0 ≤ o ∧ o < r.n) ∧ growG r w o ≠ 0#64 := by
  have hs := right_spec h
  rw [← owner_yes h rfl, hasB_ofl, ownL, List.mem_filter, mem_upto, decide_eq_true_eq]
  constructor
  · exact fun h1 => h1.2
  · exact fun h1 => ⟨by omega, h1⟩
theorem gl_back {r : Rl} (h : rightG r = true) (w : BitVec 64) : orAll (fun o => ruleG r o (readersG r (closeG r w) o)) (lst (ownersG r (closeG r w))) = closeG r w := word_eq fun z => by
  have hs := right_spec h
  rw [Bool.eq_iff_iff, hasB_orAll]
  constructor
  · rintro ⟨o, ho, hz⟩
    rw [mem_lst, owner_has h] at ho
    rw [back_row h w ho.1] at hz
    obtain ⟨q, x, y, e, h1, h2, h3⟩ := hz
    rw [← gl_idem h w]
    exact (close_has h _ z).2 ⟨q, x, o, y, e, h1, h2, h3⟩
  · intro hz
    obtain ⟨o, x, ho, hx, e⟩ := (top_has h z).1 (subB_has.1 (gl_top h w) z hz)
    subst e
    refine ⟨o, ?_, (back_row h w ho _).2 ⟨o, x, x, rfl, g_refl h ho, g_refl h hx, hz⟩⟩
    rw [mem_lst, owner_has h]
    exact ⟨ho, hasB_ne ((grow_has (by omega) hs.1.2 x).2 ⟨hx, hz⟩)⟩
/-! ### The height -/
def oneG (r : Rl) (i : Int) : BitVec 64 := closeG r (ofl [i])
theorem one_has {r : Rl} (h : rightG r = true) {p y : Int} (hp : 0 ≤ p ∧ p < 8) (hy : 0 ≤ y ∧ y < 8) (z : Int) : hasB (oneG r (8 * p + y)) z = true ↔ ∃ o x : Int, z = 8 * o + x ∧ hasR r o p = true ∧ hasR r x y = true := by
  have hs := right_spec h
  rw [oneG, close_has h]
  constructor
  · rintro ⟨o, x, q, t, e, h1, h2, h3⟩
    have b1 := g_bd h h1; have b2 := g_bd h h2
    rw [of_one] at h3
    obtain ⟨rfl, rfl⟩ := dec8 (by omega) (by omega) h3.1
    exact ⟨o, x, e, h1, h2⟩
  · rintro ⟨o, x, e, h1, h2⟩
    exact ⟨o, x, p, y, e, h1, h2, (of_one _ _).2 ⟨rfl, by omega⟩⟩
theorem one_ne {r : Rl} (h : rightG r = true) {p y : Int} (hp : 0 ≤ p ∧ p < 8) (hy : 0 ≤ y ∧ y < 8) : oneG r (8 * p + y) ≠ 0#64 ↔ p < r.n ∧ y < r.n := by
  constructor
  · intro hn
    obtain ⟨z, hz⟩ := ne_zero_bit.1 hn
    obtain ⟨o, x, -, h1, h2⟩ := (one_has h hp hy z).1 (hasB_of hz)
    exact ⟨(g_bd h h1).2.2, (g_bd h h2).2.2⟩
  · rintro ⟨h1, h2⟩
    exact hasB_ne ((one_has h hp hy (8 * p + y)).2 ⟨p, y, rfl, g_refl h ⟨hp.1, h1⟩, g_refl h ⟨hy.1, h2⟩⟩)
theorem one_eq {r : Rl} (h : rightG r = true) {p y q t : Int} (hp : 0 ≤ p ∧ p < r.n) (hy : 0 ≤ y ∧ y < r.n) (hq : 0 ≤ q ∧ q < r.n) (ht : 0 ≤ t ∧ t < r.n) :
    oneG r (8 * p + y) = oneG r (8 * q + t) ↔ (hasR r p q = true ∧ hasR r q p = true) ∧ (hasR r y t = true ∧ hasR r t y = true) := by
  have hs := right_spec h
  constructor
  · intro e
    have h1 : hasB (oneG r (8 * q + t)) (8 * p + y) = true := by
      rw [← e]; exact (one_has h (by omega) (by omega) _).2 ⟨p, y, rfl, g_refl h hp, g_refl h hy⟩
    have h2 : hasB (oneG r (8 * p + y)) (8 * q + t) = true := by
      rw [e]; exact (one_has h (by omega) (by omega) _).2 ⟨q, t, rfl, g_refl h hq, g_refl h ht⟩
    obtain ⟨o, x, e1, h3, h4⟩ := (one_has h (by omega) (by omega) _).1 h1
    obtain ⟨o2, x2, e2, h5, h6⟩ := (one_has h (by omega) (by omega) _).1 h2
    have b1 := g_bd h h4; have b2 := g_bd h h6
    obtain ⟨rfl, rfl⟩ := dec8 (by omega) (by omega) e1
    obtain ⟨rfl, rfl⟩ := dec8 (by omega) (by omega) e2
    exact ⟨⟨h3, h5⟩, h4, h6⟩
  · rintro ⟨⟨h1, h2⟩, h3, h4⟩
    refine word_eq fun z => ?_
    rw [Bool.eq_iff_iff, one_has h (by omega) (by omega), one_has h (by omega) (by omega)]
    constructor
    · rintro ⟨o, x, e, h5, h6⟩; exact ⟨o, x, e, g_trans h h5 h1, g_trans h h6 h3⟩
    · rintro ⟨o, x, e, h5, h6⟩; exact ⟨o, x, e, g_trans h h5 h2, g_trans h h6 h4⟩
def newP (r : Rl) (p : Int) : Bool := decide (0 ≤ p ∧ p < r.n) && newTo (cloR r) p p
theorem newP_iff {r : Rl} (h : rightG r = true) (p : Int) : newP r p = true ↔ (0 ≤ p ∧ p < r.n) ∧ ∀ x : Int, 0 ≤ x → x < p → ¬ (hasR r p x = true ∧ hasR r x p = true) := by
  have hs := right_spec h
  rw [newP, Bool.and_eq_true, decide_eq_true_eq, newTo, List.all_eq_true]
  refine and_congr_right fun _ => ?_
  constructor
  · intro h1 x x0 x1 h2
    have := h1 x (mem_upto.2 ⟨x0, x1⟩)
    rw [← has_closed hs.2.2, ← has_closed hs.2.2, h2.1, h2.2] at this; cases this
  · intro h1 x hx
    have := mem_upto.1 hx
    have h2 := h1 x this.1 this.2
    rw [← has_closed hs.2.2, ← has_closed hs.2.2]
    cases h3 : hasR r p x with
    | false => rfl
    | true => cases h4 : hasR r x p with
      | false => rfl
      | true => exact absurd ⟨h3, h4⟩ h2
theorem new_ex {r : Rl} (h : rightG r = true) : ∀ (n : Nat) (p : Int), p ≤ n → 0 ≤ p → p < r.n → ∃ q : Int, q ≤ p ∧ newP r q = true ∧ hasR r p q = true ∧ hasR r q p = true
  | n, p, hn, h0, h1 => by
    cases hc : newP r p with
    | true => exact ⟨p, Int.le_refl _, hc, g_refl h ⟨h0, h1⟩, g_refl h ⟨h0, h1⟩⟩
    | false =>
      have hex : ∃ x : Int, 0 ≤ x ∧ x < p ∧ hasR r p x = true ∧ hasR r x p = true := Classical.byContradiction fun hno => by
        have : newP r p = true := (newP_iff h p).2 ⟨⟨h0, h1⟩, fun x x0 x1 hx => hno ⟨x, x0, x1, hx⟩⟩
        rw [hc] at this; cases this
      obtain ⟨x, x0, x1, x2, x3⟩ := hex
      cases n with
      | zero => omega
      | succ n =>
        obtain ⟨q, q1, q2, q3, q4⟩ := new_ex h n x (by omega) x0 (by omega)
        exact ⟨q, by omega, q2, g_trans h x2 q3, g_trans h q4 x3⟩
def goodG (r : Rl) (i : Int) : Bool := newP r (i / 8) && newP r (i % 8)
def metL (r : Rl) (k : Int) : List (BitVec 64) := ((upto k).filter (goodG r)).map (oneG r)
theorem met_len {r : Rl} {k : Int} : (metL r k).length ≤ k.toNat := by
  rw [metL, List.length_map]
  exact Nat.le_trans (List.length_filter_le _ _) (by rw [upto_len]; exact Nat.le_refl _)
def isTo (c : BitVec 64) (l : List (BitVec 64)) (j : Int) : Bool := decide (c = 0#64) || (l.take j.toNat).any fun w => decide (w = c)
theorem is_zero {c : BitVec 64} {l : List (BitVec 64)} : decide (c = 0#64) = isTo c l 0 := by simp [isTo]
theorem is_next {c : BitVec 64} {l : List (BitVec 64)} {j : Int} (h0 : 0 ≤ j) (h : j < l.length) : isTo c l (j + 1) = (isTo c l j || decide (l.getD j.toNat 0#64 = c)) := by
  rw [isTo, isTo, show (j + 1).toNat = j.toNat + 1 by omega, List.take_add_one, List.any_append, List.getElem?_eq_getElem (by omega : j.toNat < l.length), List.getD_eq_getElem?_getD, List.getElem?_eq_getElem (by omega : j.toNat < l.length)]
  simp [Bool.or_assoc]
theorem is_t {c : BitVec 64} {l : List (BitVec 64)} {j : Int} (h0 : 0 ≤ j) (h : j < l.length) (h1 : isTo c l j = true) : true = isTo c l (j + 1) := by rw [is_next h0 h, h1]; rfl
theorem is_f {c : BitVec 64} {l : List (BitVec 64)} {j : Int} (h0 : 0 ≤ j) (h : j < l.length) (h1 : isTo c l j = false) : decide (l.getD j.toNat 0#64 = c) = isTo c l (j + 1) := by rw [is_next h0 h, h1]; rfl
theorem good_iff {r : Rl} (h : rightG r = true) {i j : Int} (i0 : 0 ≤ i) (i1 : i < 64) (hj : ¬ j < (metL r i).length) : goodG r i = !isTo (oneG r i) (metL r i) j := by
  have hs := right_spec h
  have hi : i = 8 * (i / 8) + i % 8 := by omega
  have bp : 0 ≤ i / 8 ∧ i / 8 < 8 := by omega
  have by8 : 0 ≤ i % 8 ∧ i % 8 < 8 := by omega
  have hone := one_ne h bp by8
  rw [← hi] at hone
  have hmem : isTo (oneG r i) (metL r i) j = true ↔ oneG r i = 0#64 ∨ ∃ x : Int, (0 ≤ x ∧ x < i) ∧ goodG r x = true ∧ oneG r x = oneG r i := by
    rw [isTo, List.take_of_length_le (by omega), Bool.or_eq_true, decide_eq_true_eq, List.any_eq_true]
    refine or_congr_right ?_
    constructor
    · rintro ⟨w, hw, e⟩
      rw [metL, List.mem_map] at hw
      obtain ⟨x, hx, rfl⟩ := hw
      rw [List.mem_filter, mem_upto] at hx
      exact ⟨x, hx.1, hx.2, by simpa using e⟩
    · rintro ⟨x, h1, h2, h3⟩
      exact ⟨oneG r x, List.mem_map.2 ⟨x, List.mem_filter.2 ⟨mem_upto.2 h1, h2⟩, rfl⟩, by simpa using h3⟩
  rw [Bool.eq_iff_iff, Bool.not_eq_true', ← Bool.not_eq_true, hmem, goodG, Bool.and_eq_true]
  constructor
  · rintro ⟨h1, h2⟩
    have n1 := (newP_iff h _).1 h1; have n2 := (newP_iff h _).1 h2
    rintro (hz | ⟨x, hx, hg, he⟩)
    · exact (hone.2 ⟨n1.1.2, n2.1.2⟩) hz
    · rw [goodG, Bool.and_eq_true] at hg
      have m1 := (newP_iff h _).1 hg.1; have m2 := (newP_iff h _).1 hg.2
      have hx8 : x = 8 * (x / 8) + x % 8 := by omega
      rw [hi, hx8, one_eq h m1.1 m2.1 n1.1 n2.1] at he
      have c1 : x / 8 = i / 8 := by
        rcases Int.lt_trichotomy (x / 8) (i / 8) with hl | hl | hl
        · exact absurd ⟨he.1.2, he.1.1⟩ (n1.2 _ m1.1.1 hl)
        · exact hl
        · exact absurd ⟨he.1.1, he.1.2⟩ (m1.2 _ n1.1.1 hl)
      have c2 : x % 8 = i % 8 := by
        rcases Int.lt_trichotomy (x % 8) (i % 8) with hl | hl | hl
        · exact absurd ⟨he.2.2, he.2.1⟩ (n2.2 _ m2.1.1 hl)
        · exact hl
        · exact absurd ⟨he.2.1, he.2.2⟩ (m2.2 _ n2.1.1 hl)
      omega
  · intro hno
    have hz : oneG r i ≠ 0#64 := fun e => hno (.inl e)
    have hb := hone.1 hz
    obtain ⟨q, q1, q2, q3, q4⟩ := new_ex h (i / 8).toNat (i / 8) (by omega) bp.1 hb.1
    obtain ⟨t, t1, t2, t3, t4⟩ := new_ex h (i % 8).toNat (i % 8) (by omega) by8.1 hb.2
    have nq := (newP_iff h q).1 q2; have nt := (newP_iff h t).1 t2
    have hgood : goodG r (8 * q + t) = true := by
      rw [goodG, show (8 * q + t) / 8 = q by omega, show (8 * q + t) % 8 = t by omega, q2, t2]; rfl
    have heq : oneG r (8 * q + t) = oneG r i := by
      rw [hi, one_eq h nq.1 nt.1 ⟨bp.1, hb.1⟩ ⟨by8.1, hb.2⟩]; exact ⟨⟨q4, q3⟩, t4, t3⟩
    by_cases hlt : 8 * q + t < i
    · exact absurd (.inr ⟨_, ⟨by omega, hlt⟩, hgood, heq⟩) hno
    · have e1 : q = i / 8 := by omega
      have e2 : t = i % 8 := by omega
      rw [← e1, ← e2]; exact ⟨q2, t2⟩
theorem met_yes {r : Rl} (h : rightG r = true) {i j : Int} (i0 : 0 ≤ i) (i1 : i < 64) (hj : ¬ j < (metL r i).length) (h2 : isTo (oneG r i) (metL r i) j = false) : metL r i ++ [oneG r i] = metL r (i + 1) := by
  have hg : goodG r i = true := by rw [good_iff h i0 i1 hj, h2]; rfl
  rw [metL, metL, ← upto_succ i0, List.filter_append, List.map_append]; simp [hg]
theorem met_no {r : Rl} (h : rightG r = true) {i j : Int} (i0 : 0 ≤ i) (i1 : i < 64) (hj : ¬ j < (metL r i).length) (h2 : isTo (oneG r i) (metL r i) j = true) : metL r i = metL r (i + 1) := by
  have hg : goodG r i = false := by rw [good_iff h i0 i1 hj, h2]; rfl
  rw [metL, metL, ← upto_succ i0, List.filter_append, List.map_append]; simp [hg]
theorem met_yesL {r : Rl} {l : List (BitVec 64)} (h : rightG r = true) {i j : Int} (hl : l = metL r i) (i0 : 0 ≤ i) (i1 : i < 64) (hj : ¬ j < l.length) (h2 : isTo (oneG r i) l j = false) : l ++ [oneG r i] = metL r (i + 1) := by
  subst hl; exact met_yes h i0 i1 hj h2
theorem met_noL {r : Rl} {l : List (BitVec 64)} (h : rightG r = true) {i j : Int} (hl : l = metL r i) (i0 : 0 ≤ i) (i1 : i < 64) (hj : ¬ j < l.length) (h2 : isTo (oneG r i) l j = true) : l = metL r (i + 1) := by
  subst hl; exact met_no h i0 i1 hj h2
theorem above_lt {r : Rl} (h : rightG r = true) {o p : Int} (hp : hasB (aboveR r o) p = true) : 0 ≤ p ∧ p < 8 := by
  have hs := right_spec h
  rw [above_has] at hp
  have := g_bd h hp; omega
theorem own_lt {r : Rl} {o : Int} (h : ownsG r o = true) : 0 ≤ o ∧ o < 8 := by
  have hw := own_spec h
  have hs := right_spec hw.1; omega
def twoR : Rl := ⟨2, fun i => [3#64, 2#64].getD i 0#64⟩
theorem sq_count (A : Int → Bool) : ((upto 64).filter fun i => A (i / 8) && A (i % 8)).length = ((upto 8).filter A).length * ((upto 8).filter A).length := by
  have e : upto 64 = (upto 8).flatMap fun p => (upto 8).map (8 * p + ·) := by decide +kernel
  have key : ∀ l : List Int, ((l.flatMap fun p => (upto 8).map (8 * p + ·)).filter fun i => A (i / 8) && A (i % 8)).length = (l.filter A).length * ((upto 8).filter A).length := fun l => by
    induction l with
    | nil => simp
    | cons p l ih =>
      rw [List.flatMap_cons, List.filter_append, List.length_append, ih]
      have h1 : (((upto 8).map (8 * p + ·)).filter fun i => A (i / 8) && A (i % 8)) = ((upto 8).filter fun y => A p && A y).map (8 * p + ·) := by
        rw [List.filter_map]
        congr 1
        refine List.filter_congr fun y hy => ?_
        have := mem_upto.1 hy
        simp only [Function.comp]
        rw [show (8 * p + y) / 8 = p by omega, show (8 * p + y) % 8 = y by omega]
      rw [h1, List.length_map]
      cases hp : A p with
      | true =>
        rw [List.filter_cons_of_pos hp, List.length_cons, Nat.add_mul]
        simp only [Bool.true_and]
        show ((upto 8).filter A).length + _ = _
        omega
      | false => simp [hp]
  rw [e, key]
theorem gl_height {r : Rl} (h : rightG r = true) {k : Int} (hk : k = 64) : ((metL r k).length : Int) = heightG r := by
  subst hk
  have hs := right_spec h
  have h1 : (upto 8).filter (newP r) = (upto (pts r)).filter fun i => newTo (cloR r) i i := by
    refine sorted_ext ((upto_sorted _).filter _) ((upto_sorted _).filter _) fun x => ?_
    rw [List.mem_filter, List.mem_filter, mem_upto, mem_upto, newP, Bool.and_eq_true, decide_eq_true_eq, hs.2.1]
    constructor
    · rintro ⟨h2, h3, h4⟩; exact ⟨h3, h4⟩
    · rintro ⟨h2, h3⟩; exact ⟨by omega, h2, h3⟩
  rw [← height_yes h, metL, List.length_map, show goodG r = fun i => newP r (i / 8) && newP r (i % 8) from rfl, sq_count, h1, clsTo]
  push_cast; rfl
end Go.Proofs.YtieckcbckgalhaaGreatDoor.M
