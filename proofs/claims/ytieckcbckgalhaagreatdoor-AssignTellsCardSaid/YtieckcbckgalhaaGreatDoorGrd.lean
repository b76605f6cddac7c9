/-
  Grids of principals, plainly: words of who keeps whom out.
-/
import Derived.Test.YtieckcbckgalhaaGreatDoorHas
namespace Go.Proofs.YtieckcbckgalhaaGreatDoor.M
set_option linter.unusedVariables false
def rightG (r : Rl) : Bool := decide (1 ≤ r.n ∧ r.n ≤ 8) && decide ((plainR r).eq (cloR r))
theorem right_spec {r : Rl} (h : rightG r = true) : (1 ≤ r.n ∧ r.n ≤ 8) ∧ pts r = r.n ∧ (plainR r).eq (cloR r) := by
  rw [rightG, Bool.and_eq_true, decide_eq_true_eq, decide_eq_true_eq] at h
  exact ⟨h.1, by unfold pts; omega, h.2⟩
theorem g_bd {r : Rl} (h : rightG r = true) {i j : Int} (h1 : hasR r i j = true) : (0 ≤ i ∧ i < r.n) ∧ (0 ≤ j ∧ j < r.n) := by
  have := hasR_bd h1
  rw [(right_spec h).2.1] at this; exact this
theorem down_hasS (r : Rl) (s : BitVec 64) (j : Int) : hasB (downR r s) j = true ↔ ∃ i : Int, hasB s i = true ∧ hasR r j i = true := by
  have hp := pts_bd r
  rw [hasB_iff, down_bit]
  constructor
  · rintro ⟨h1, i, h2, h3⟩; rw [Int.toNat_of_nonneg h1.1] at h3; exact ⟨i, h2, h3⟩
  · rintro ⟨i, h2, h3⟩
    have hb := hasR_bd h3
    exact ⟨by omega, i, h2, by rw [Int.toNat_of_nonneg hb.1.1]; exact h3⟩
theorem hasB_andNot (a b : BitVec 64) (j : Int) : hasB (a &&& ~~~b) j = true ↔ hasB a j = true ∧ ¬ hasB b j = true := by
  rw [hasB_iff, hasB_iff, hasB_iff]
  simp only [BitVec.getLsbD_and, BitVec.getLsbD_not, Bool.and_eq_true, Bool.not_eq_true', decide_eq_true_eq]
  constructor
  · rintro ⟨h, h1, h2, h3⟩; exact ⟨⟨h, h1⟩, fun h4 => by rw [h4.2] at h3; cases h3⟩
  · rintro ⟨⟨h, h1⟩, h2⟩
    refine ⟨h, h1, by omega, ?_⟩
    cases hc : b.getLsbD j.toNat with
    | false => rfl
    | true => exact absurd ⟨h, hc⟩ h2
/-! ### Rows of a word -/
def growG (r : Rl) (w : BitVec 64) (o : Int) : BitVec 64 := (w >>> (BitVec.ofInt 64 (8 * o)).toNat) &&& below r.n
theorem grow_has {r : Rl} {w : BitVec 64} {o : Int} (ho : 0 ≤ o ∧ o < 8) (hn : r.n ≤ 8) (x : Int) : hasB (growG r w o) x = true ↔ (0 ≤ x ∧ x < r.n) ∧ hasB w (8 * o + x) = true := by
  rw [growG, hasB_and, Bool.and_eq_true, below_has, hasB_iff, hasB_iff, ofInt_toNat (by omega), BitVec.getLsbD_ushiftRight]
  constructor
  · rintro ⟨⟨h1, h2⟩, h3⟩
    refine ⟨by omega, by omega, ?_⟩
    rw [show (8 * o + x).toNat = (8 * o).toNat + x.toNat by omega]; exact h2
  · rintro ⟨h1, h2, h3⟩
    refine ⟨⟨by omega, ?_⟩, by omega⟩
    rw [show (8 * o).toNat + x.toNat = (8 * o + x).toNat by omega]; exact h3
def rowsG (f : Int → BitVec 64) (k : Int) : BitVec 64 := (upto k).foldl (fun a o => a ||| (f o <<< (BitVec.ofInt 64 (8 * o)).toNat)) 0#64
theorem rows_next {f : Int → BitVec 64} {k : Int} (h0 : 0 ≤ k) : rowsG f k ||| (f k <<< (BitVec.ofInt 64 (8 * k)).toNat) = rowsG f (k + 1) := by
  rw [rowsG, rowsG, ← upto_succ h0, List.foldl_append]; rfl
theorem shl_has {a : BitVec 64} {o : Int} (ho : 0 ≤ o ∧ o < 8) (z : Int) : hasB (a <<< (BitVec.ofInt 64 (8 * o)).toNat) z = true ↔ (0 ≤ z ∧ z < 64) ∧ hasB a (z - 8 * o) = true := by
  rw [hasB_iff, hasB_iff, ofInt_toNat (by omega), BitVec.getLsbD_shiftLeft]
  simp only [Bool.and_eq_true, Bool.not_eq_true', decide_eq_true_eq, decide_eq_false_iff_not]
  constructor
  · rintro ⟨h, ⟨h1, h2⟩, h3⟩
    exact ⟨h, by omega, by rw [show (z - 8 * o).toNat = z.toNat - (8 * o).toNat by omega]; exact h3⟩
  · rintro ⟨h, h1, h2⟩
    exact ⟨h, ⟨by omega, by omega⟩, by rw [show z.toNat - (8 * o).toNat = (z - 8 * o).toNat by omega]; exact h2⟩
theorem rows_any {f : Int → BitVec 64} (z : Int) : ∀ k : Nat, k ≤ 8 → (hasB (rowsG f k) z = true ↔ ∃ o : Int, (0 ≤ o ∧ o < k) ∧ (0 ≤ z ∧ z < 64) ∧ hasB (f o) (z - 8 * o) = true)
  | 0, _ => by
    rw [show rowsG f ((0 : Nat) : Int) = 0#64 from rfl, has_zero]
    constructor
    · intro h; cases h
    · rintro ⟨o, h, -⟩; omega
  | k + 1, hk => by
    have e : rowsG f ((k + 1 : Nat) : Int) = rowsG f (k : Int) ||| (f k <<< (BitVec.ofInt 64 (8 * (k : Int))).toNat) := (rows_next (k := (k : Int)) (by omega)).symm
    rw [e, hasB_or, Bool.or_eq_true, rows_any z k (by omega), shl_has (by omega)]
    constructor
    · rintro (⟨o, h1, h2⟩ | ⟨h1, h2⟩)
      · exact ⟨o, by omega, h2⟩
      · exact ⟨k, by omega, h1, h2⟩
    · rintro ⟨o, h1, h2, h3⟩
      by_cases he : o = k
      · subst he; exact .inr ⟨h2, h3⟩
      · exact .inl ⟨o, by omega, h2, h3⟩
theorem rows_has {f : Int → BitVec 64} {n : Int} (hn : 0 ≤ n ∧ n ≤ 8) (hf : ∀ o y : Int, 0 ≤ o → o < n → hasB (f o) y = true → y < 8) (z : Int) : hasB (rowsG f n) z = true ↔ ∃ o y : Int, (0 ≤ o ∧ o < n) ∧ hasB (f o) y = true ∧ z = 8 * o + y := by
  have h := rows_any (f := f) z n.toNat (by omega)
  rw [Int.toNat_of_nonneg hn.1] at h
  rw [h]
  constructor
  · rintro ⟨o, h1, h2, h3⟩; exact ⟨o, z - 8 * o, h1, h3, by omega⟩
  · rintro ⟨o, y, h1, h2, h3⟩
    have := hasB_bd h2
    have := hf o y h1.1 h1.2 h2
    exact ⟨o, h1, by omega, by rw [show z - 8 * o = y by omega]; exact h2⟩
/-! ### Closing -/
def closeF (r : Rl) (w : BitVec 64) (o : Int) : BitVec 64 := orAll (fun p => downR r (growG r w p)) (lst (aboveR r o))
def closeG (r : Rl) (w : BitVec 64) : BitVec 64 := if rightG r then rowsG (closeF r w) r.n else 0#64
theorem closeF_has {r : Rl} (h : rightG r = true) (w : BitVec 64) (o x : Int) : hasB (closeF r w o) x = true ↔ ∃ p y : Int, hasR r o p = true ∧ hasR r x y = true ∧ hasB w (8 * p + y) = true := by
  have hs := right_spec h
  rw [closeF, hasB_orAll]
  constructor
  · rintro ⟨p, hp, h1⟩
    rw [mem_lst, above_has] at hp
    have hb := g_bd h hp
    rw [down_hasS] at h1
    obtain ⟨y, h2, h3⟩ := h1
    rw [grow_has (by omega) hs.1.2] at h2
    exact ⟨p, y, hp, h3, h2.2⟩
  · rintro ⟨p, y, h1, h2, h3⟩
    have hb := g_bd h h1
    refine ⟨p, by rw [mem_lst, above_has]; exact h1, ?_⟩
    rw [down_hasS]
    exact ⟨y, (grow_has (by omega) hs.1.2 y).2 ⟨(g_bd h h2).2, h3⟩, h2⟩
theorem close_has {r : Rl} (h : rightG r = true) (w : BitVec 64) (z : Int) : hasB (closeG r w) z = true ↔ ∃ o x p y : Int, z = 8 * o + x ∧ hasR r o p = true ∧ hasR r x y = true ∧ hasB w (8 * p + y) = true := by
  have hs := right_spec h
  rw [closeG, if_pos h, rows_has (by omega) (fun o y _ _ hy => by
    obtain ⟨p, q, -, h2, -⟩ := (closeF_has h w o y).1 hy
    have := g_bd h h2; omega)]
  constructor
  · rintro ⟨o, x, h1, h2, h3⟩
    obtain ⟨p, y, h4⟩ := (closeF_has h w o x).1 h2
    exact ⟨o, x, p, y, h3, h4⟩
  · rintro ⟨o, x, p, y, h3, h4⟩
    exact ⟨o, x, (g_bd h h4.1).1, (closeF_has h w o x).2 ⟨p, y, h4⟩, h3⟩
theorem close_no {r : Rl} {w : BitVec 64} (h : rightG r = false) : closeG r w = 0#64 := by rw [closeG, h]; rfl
theorem close_yes {r : Rl} {w : BitVec 64} (h : rightG r = true) : rowsG (closeF r w) r.n = closeG r w := by rw [closeG, h]; rfl
def outG (r : Rl) (w : BitVec 64) (o x : Int) : Bool := decide (0 ≤ o ∧ 0 ≤ x ∧ o < r.n ∧ x < r.n) && hasB w (8 * o + x)
theorem out_iff {r : Rl} {w : BitVec 64} {o x : Int} : outG r w o x = true ↔ (0 ≤ o ∧ 0 ≤ x ∧ o < r.n ∧ x < r.n) ∧ hasB w (8 * o + x) = true := by
  rw [outG, Bool.and_eq_true, decide_eq_true_eq]
def folB (r : Rl) (w : BitVec 64) (o x : Int) : Bool := (upto r.n).any fun p => (upto r.n).any fun y => outG r w p y && hasR r o p && hasR r x y
theorem fol_iff {r : Rl} {w : BitVec 64} {o x : Int} : folB r w o x = true ↔ ∃ p y : Int, outG r w p y = true ∧ hasR r o p = true ∧ hasR r x y = true := by
  rw [folB, List.any_eq_true]
  constructor
  · rintro ⟨p, -, h⟩
    rw [List.any_eq_true] at h
    obtain ⟨y, -, h⟩ := h
    rw [Bool.and_eq_true, Bool.and_eq_true] at h
    exact ⟨p, y, h.1.1, h.1.2, h.2⟩
  · rintro ⟨p, y, h1, h2, h3⟩
    have hb := (out_iff.1 h1).1
    refine ⟨p, mem_upto.2 (by omega), ?_⟩
    rw [List.any_eq_true]
    exact ⟨y, mem_upto.2 (by omega), by rw [h1, h2, h3]; rfl⟩
theorem fol_none {r : Rl} {w : BitVec 64} {o x k : Int} (hk : ¬ k < r.n) (hf : ∀ p y : Int, 0 ≤ p → p < k → ¬ (outG r w p y = true ∧ hasR r o p = true ∧ hasR r x y = true)) : folB r w o x = false := by
  cases hc : folB r w o x with
  | false => rfl
  | true =>
    obtain ⟨p, y, h⟩ := fol_iff.1 hc
    have hb := (out_iff.1 h.1).1
    exact absurd h (hf p y hb.1 (by omega))
def rowL (r : Rl) (w : BitVec 64) (o k : Int) : List Int := ((upto k).filter (folB r w o ·)).map (8 * o + ·)
def closeL (r : Rl) (w : BitVec 64) (k : Int) : List Int := (upto k).flatMap fun o => rowL r w o r.n
theorem rowL_yes {r : Rl} {w : BitVec 64} {o k : Int} (h0 : 0 ≤ k) (h : folB r w o k = true) : rowL r w o k ++ [8 * o + k] = rowL r w o (k + 1) := by
  rw [rowL, rowL, ← upto_succ h0, List.filter_append, List.map_append]; simp [h]
theorem rowL_no {r : Rl} {w : BitVec 64} {o k : Int} (h0 : 0 ≤ k) (h : folB r w o k = false) : rowL r w o k = rowL r w o (k + 1) := by
  rw [rowL, rowL, ← upto_succ h0, List.filter_append, List.map_append]; simp [h]
theorem closeL_next {r : Rl} {w : BitVec 64} {k x : Int} (h0 : 0 ≤ k) (hx : x = r.n) : closeL r w k ++ rowL r w k x = closeL r w (k + 1) := by
  subst hx
  rw [closeL, closeL, ← upto_succ h0, List.flatMap_append]; simp
theorem rowL_len {r : Rl} {w : BitVec 64} {o k : Int} : (rowL r w o k).length ≤ k.toNat := by
  rw [rowL, List.length_map]
  exact Nat.le_trans (List.length_filter_le _ _) (by rw [upto_len]; exact Nat.le_refl _)
theorem flat_le {f : Int → List Int} {m : Nat} (h : ∀ o, (f o).length ≤ m) : ∀ l : List Int, (l.flatMap f).length ≤ l.length * m
  | [] => by simp
  | o :: l => by
    have := flat_le h l
    have := h o
    rw [List.flatMap_cons, List.length_append, List.length_cons, Nat.add_mul]; omega
theorem closeL_len {r : Rl} {w : BitVec 64} {k : Int} (hn : r.n ≤ 8) (hk : k ≤ 8) : (closeL r w k).length ≤ 64 := by
  have h := flat_le (f := fun o => rowL r w o r.n) (m := 8) (fun o => Nat.le_trans rowL_len (by omega)) (upto k)
  rw [upto_len] at h
  have : k.toNat * 8 ≤ 64 := by omega
  exact Nat.le_trans h this
theorem mem_rowL {r : Rl} {w : BitVec 64} {o k z : Int} : z ∈ rowL r w o k ↔ ∃ x : Int, (0 ≤ x ∧ x < k) ∧ folB r w o x = true ∧ z = 8 * o + x := by
  rw [rowL, List.mem_map]
  constructor
  · rintro ⟨x, hx, rfl⟩
    rw [List.mem_filter, mem_upto] at hx
    exact ⟨x, hx.1, hx.2, rfl⟩
  · rintro ⟨x, h1, h2, rfl⟩
    exact ⟨x, List.mem_filter.2 ⟨mem_upto.2 h1, h2⟩, rfl⟩
theorem close_ref {r : Rl} {w : BitVec 64} {k : Int} (h : rightG r = true) (hk : k = r.n) : ofl (closeL r w k) = closeG r w := word_eq fun z => by
  subst hk
  have hs := right_spec h
  rw [Bool.eq_iff_iff, hasB_ofl, close_has h, closeL, List.mem_flatMap]
  constructor
  · rintro ⟨h1, o, ho, hz⟩
    rw [mem_rowL] at hz
    obtain ⟨x, hx, hf, rfl⟩ := hz
    obtain ⟨p, y, h2, h3, h4⟩ := fol_iff.1 hf
    exact ⟨o, x, p, y, rfl, h3, h4, (out_iff.1 h2).2⟩
  · rintro ⟨o, x, p, y, rfl, h2, h3, h4⟩
    have b1 := g_bd h h2; have b2 := g_bd h h3
    refine ⟨by omega, o, mem_upto.2 b1.1, ?_⟩
    rw [mem_rowL]
    exact ⟨x, b2.1, fol_iff.2 ⟨p, y, out_iff.2 ⟨by omega, h4⟩, h2, h3⟩, rfl⟩
def closedG (r : Rl) (w : BitVec 64) : Bool := rightG r && decide (closeG r w = w)
/-! ### What owners say -/
def mayTo (r : Rl) (s : BitVec 64) (x k : Int) : Bool := (upto k).any fun y => hasB s y && hasR r y x
def ruleL (r : Rl) (s : BitVec 64) (o k : Int) : List Int := ((upto k).filter fun x => !hasB (upR r s) x).map (8 * o + ·)
def ownF (o : Int) (s : BitVec 64) : Int → BitVec 64 := fun x => if x = o then s else 0#64
def ownsG (r : Rl) (o : Int) : Bool := rightG r && decide (0 ≤ o ∧ o < r.n)
def ruleG (r : Rl) (o : Int) (s : BitVec 64) : BitVec 64 := if ownsG r o then closeG r (rowsG (ownF o (below r.n &&& ~~~upR r s)) r.n) else 0#64
theorem own_no {r : Rl} {o : Int} (h : rightG r = false ∨ ¬ (0 ≤ o ∧ o < r.n)) : ownsG r o = false := by
  rw [ownsG]
  rcases h with h | h
  · rw [h]; rfl
  · rw [decide_eq_false h]; simp
theorem own_yes {r : Rl} {o : Int} (h : rightG r = true) (h2 : 0 ≤ o ∧ o < r.n) : ownsG r o = true := by rw [ownsG, h, decide_eq_true h2]; rfl
theorem own_spec {r : Rl} {o : Int} (h : ownsG r o = true) : rightG r = true ∧ 0 ≤ o ∧ o < r.n := by
  rw [ownsG, Bool.and_eq_true, decide_eq_true_eq] at h; exact h
def readersG (r : Rl) (w : BitVec 64) (o : Int) : BitVec 64 := if ownsG r o then below r.n &&& ~~~growG r w o else 0#64
def readL (r : Rl) (w : BitVec 64) (o k : Int) : List Int := (upto k).filter fun x => !outG r w o x
theorem readL_yes {r : Rl} {w : BitVec 64} {o k : Int} (h0 : 0 ≤ k) (h : outG r w o k = false) : readL r w o k ++ [k] = readL r w o (k + 1) := by
  rw [readL, readL, ← upto_succ h0, List.filter_append]; simp [h]
theorem readL_no {r : Rl} {w : BitVec 64} {o k : Int} (h0 : 0 ≤ k) (h : outG r w o k = true) : readL r w o k = readL r w o (k + 1) := by
  rw [readL, readL, ← upto_succ h0, List.filter_append]; simp [h]
theorem readL_len {r : Rl} {w : BitVec 64} {o k : Int} : (readL r w o k).length ≤ k.toNat := by
  rw [readL]
  exact Nat.le_trans (List.length_filter_le _ _) (by rw [upto_len]; exact Nat.le_refl _)
theorem read_no {r : Rl} {o : Int} {w : BitVec 64} (h : ownsG r o = false) : readersG r w o = 0#64 := by rw [readersG, h]; rfl
theorem read_ref {r : Rl} {w : BitVec 64} {o k : Int} (h : ownsG r o = true) (hk : k = r.n) : ofl (readL r w o k) = readersG r w o := word_eq fun z => by
  subst hk
  have hw := own_spec h
  have hs := right_spec hw.1
  rw [readersG, if_pos h, Bool.eq_iff_iff, hasB_ofl, hasB_andNot, below_has, grow_has (by omega) hs.1.2, readL, List.mem_filter, mem_upto]
  constructor
  · rintro ⟨h1, h2, h3⟩
    refine ⟨by omega, fun h4 => ?_⟩
    rw [out_iff.2 ⟨by omega, h4.2⟩] at h3; cases h3
  · rintro ⟨h1, h2⟩
    refine ⟨by omega, by omega, ?_⟩
    cases hc : outG r w o z with
    | false => rfl
    | true => exact absurd ⟨by omega, (out_iff.1 hc).2⟩ h2
def ownL (r : Rl) (w : BitVec 64) (k : Int) : List Int := (upto k).filter fun o => decide (growG r w o ≠ 0#64)
def ownersG (r : Rl) (w : BitVec 64) : BitVec 64 := if rightG r then ofl (ownL r w r.n) else 0#64
theorem ownL_yes {r : Rl} {w : BitVec 64} {k : Int} (h0 : 0 ≤ k) (h : growG r w k ≠ 0#64) : ownL r w k ++ [k] = ownL r w (k + 1) := by
  rw [ownL, ownL, ← upto_succ h0, List.filter_append]; simp [h]
theorem ownL_no {r : Rl} {w : BitVec 64} {k : Int} (h0 : 0 ≤ k) (h : ¬ growG r w k ≠ 0#64) : ownL r w k = ownL r w (k + 1) := by
  rw [ownL, ownL, ← upto_succ h0, List.filter_append]; simp [h]
theorem ownL_len {r : Rl} {w : BitVec 64} {k : Int} : (ownL r w k).length ≤ k.toNat := by
  rw [ownL]
  exact Nat.le_trans (List.length_filter_le _ _) (by rw [upto_len]; exact Nat.le_refl _)
theorem owner_no {r : Rl} {w : BitVec 64} (h : rightG r = false) : ownersG r w = 0#64 := by rw [ownersG, h]; rfl
theorem owner_yes {r : Rl} {w : BitVec 64} {k : Int} (h : rightG r = true) (hk : k = r.n) : ofl (ownL r w k) = ownersG r w := by subst hk; rw [ownersG, h]; rfl
theorem read_below {r : Rl} {w : BitVec 64} {o : Int} (h : rightG r = true) (ho : 0 ≤ o ∧ o < r.n) : readersG r w o ≠ below r.n ↔ growG r w o ≠ 0#64 := by
  rw [readersG, if_pos (own_yes h ho)]
  refine not_congr ⟨fun e => word_eq fun z => ?_, fun e => by rw [e, show ~~~(0#64) = BitVec.allOnes 64 by decide, BitVec.and_allOnes]⟩
  rw [has_zero]
  cases hc : hasB (growG r w o) z with
  | false => rfl
  | true =>
    have h1 : hasB (below r.n) z = true := by
      rw [growG, hasB_and, Bool.and_eq_true] at hc; exact hc.2
    rw [← e, hasB_andNot] at h1
    exact absurd hc h1.2
def topG (r : Rl) : BitVec 64 := if rightG r then rowsG (fun _ => below r.n) r.n else 0#64
theorem top_no {r : Rl} (h : rightG r = false) : topG r = 0#64 := by rw [topG, h]; rfl
theorem top_has {r : Rl} (h : rightG r = true) (z : Int) : hasB (topG r) z = true ↔ ∃ o x : Int, (0 ≤ o ∧ o < r.n) ∧ (0 ≤ x ∧ x < r.n) ∧ z = 8 * o + x := by
  have hs := right_spec h
  rw [topG, if_pos h, rows_has (by omega) fun o y _ _ hy => by rw [below_has] at hy; omega]
  constructor
  · rintro ⟨o, x, h1, h2, h3⟩
    rw [below_has] at h2
    exact ⟨o, x, h1, by omega, h3⟩
  · rintro ⟨o, x, h1, h2, h3⟩
    exact ⟨o, x, h1, (below_has _ _).2 (by omega), h3⟩
def topL (r : Rl) (k : Int) : List Int := (upto k).flatMap fun o => (upto r.n).map (8 * o + ·)
theorem topL_next {r : Rl} {k x : Int} (h0 : 0 ≤ k) (hx : x = r.n) : topL r k ++ (upto x).map (8 * k + ·) = topL r (k + 1) := by
  subst hx
  rw [topL, topL, ← upto_succ h0, List.flatMap_append]; simp
theorem topR_next {o x : Int} (h0 : 0 ≤ x) : (upto x).map (8 * o + ·) ++ [8 * o + x] = (upto (x + 1)).map (8 * o + ·) := by
  rw [← upto_succ h0, List.map_append]; simp
theorem topL_len {r : Rl} {k : Int} (hn : r.n ≤ 8) (hk : k ≤ 8) : (topL r k).length ≤ 64 := by
  have h := flat_le (f := fun o => (upto r.n).map (8 * o + ·)) (m := 8) (fun o => by rw [List.length_map, upto_len]; omega) (upto k)
  rw [upto_len] at h
  have : k.toNat * 8 ≤ 64 := by omega
  exact Nat.le_trans h this
theorem top_ref {r : Rl} {k : Int} (h : rightG r = true) (hk : k = r.n) : ofl (topL r k) = topG r := word_eq fun z => by
  subst hk
  have hs := right_spec h
  rw [Bool.eq_iff_iff, hasB_ofl, top_has h, topL, List.mem_flatMap]
  constructor
  · rintro ⟨h1, o, ho, hz⟩
    rw [List.mem_map] at hz
    obtain ⟨x, hx, rfl⟩ := hz
    exact ⟨o, x, mem_upto.1 ho, mem_upto.1 hx, rfl⟩
  · rintro ⟨o, x, h1, h2, rfl⟩
    exact ⟨by omega, o, mem_upto.2 h1, List.mem_map.2 ⟨x, mem_upto.2 h2, rfl⟩⟩
def heightG (r : Rl) : Int := if rightG r then clsTo r (pts r) * clsTo r (pts r) else 0
theorem height_yes {r : Rl} (h : rightG r = true) : clsTo r (pts r) * clsTo r (pts r) = heightG r := by rw [heightG, h]; rfl
/-! ### Laws -/
theorem owner_has {r : Rl} (h : rightG r = true) (w : BitVec 64) (o : Int) : hasB (ownersG r w) o = true ↔ (0 ≤ o ∧ o < r.n) ∧ growG r w o ≠ 0#64 := by
  have hs := right_spec h
  rw [← owner_yes h rfl, hasB_ofl, ownL, List.mem_filter, mem_upto, decide_eq_true_eq]
  constructor
  · exact fun h1 => h1.2
  · exact fun h1 => ⟨by omega, h1⟩
/-! ### The height -/
def oneG (r : Rl) (i : Int) : BitVec 64 := closeG r (ofl [i])
def newP (r : Rl) (p : Int) : Bool := decide (0 ≤ p ∧ p < r.n) && newTo (cloR r) p p
def goodG (r : Rl) (i : Int) : Bool := newP r (i / 8) && newP r (i % 8)
def metL (r : Rl) (k : Int) : List (BitVec 64) := ((upto k).filter (goodG r)).map (oneG r)
def isTo (c : BitVec 64) (l : List (BitVec 64)) (j : Int) : Bool := decide (c = 0#64) || (l.take j.toNat).any fun w => decide (w = c)
theorem above_lt {r : Rl} (h : rightG r = true) {o p : Int} (hp : hasB (aboveR r o) p = true) : 0 ≤ p ∧ p < 8 := by
  have hs := right_spec h
  rw [above_has] at hp
  have := g_bd h hp; omega
theorem own_lt {r : Rl} {o : Int} (h : ownsG r o = true) : 0 ≤ o ∧ o < 8 := by
  have hw := own_spec h
  have hs := right_spec hw.1; omega
def twoR : Rl := ⟨2, fun i => [3#64, 2#64].getD i 0#64⟩
end Go.Proofs.YtieckcbckgalhaaGreatDoor.M
