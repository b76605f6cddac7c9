/-
  Grids of principals, plainly: words of who keeps whom out.
-/
import Derived.Test.YtkdbiooamgnfmaaGreatDoorHas
namespace Go.Proofs.YtkdbiooamgnfmaaGreatDoor.M
set_option linter.unusedVariables false
def rightG (r : Rl) : Bool := decide (1 ≤ r.n ∧ r.n ≤ 8) && decide ((plainR r).eq (cloR r))
theorem right_spec {r : Rl} (h : rightG r = true) : (1 ≤ r.n ∧ r.n ≤ 8) ∧ pts r = r.n ∧ (plainR r).eq (cloR r) := by
  rw [rightG, Bool.and_eq_true, decide_eq_true_eq, decide_eq_true_eq] at h
  exact ⟨h.1, by unfold pts; omega, h.2⟩
theorem g_bd {r : Rl} (h : rightG r = true) {i j : Int} (h1 : hasR r i j = true) : (0 ≤ i ∧ i < r.n) ∧ (0 ≤ j ∧ j < r.n) := by
  have := hasR_bd h1
  rw [(right_spec h).2.1] at this; exact this
theorem down_hasS (r : Rl) (s : BitVec 64) (j : Int) : hasB (downR r s) j = true ↔ ∃ i : Int, hasB s i = true ∧ hasR r j i = true := by
  have hp := pts_bd r
  rw [hasB_iff, down_bit]
  constructor
  · rintro ⟨h1, i, h2, h3⟩; rw [Int.toNat_of_nonneg h1.1] at h3; exact ⟨i, h2, h3⟩
  · rintro ⟨i, h2, h3⟩
    have hb := hasR_bd h3
    exact ⟨by omega, i, h2, by rw [Int.toNat_of_nonneg hb.1.1]; exact h3⟩
/-! ### Rows of a word -/
def growG (r : Rl) (w : BitVec 64) (o : Int) : BitVec 64 := (w >>> (BitVec.ofInt 64 (8 * o)).toNat) &&& below r.n
theorem grow_has {r : Rl} {w : BitVec 64} {o : Int} (ho : 0 ≤ o ∧ o < 8) (hn : r.n ≤ 8) (x : Int) : hasB (growG r w o) x = true ↔ (0 ≤ x ∧ x < r.n) ∧ hasB w (8 * o + x) = true := by
  rw [growG, hasB_and, Bool.and_eq_true, below_has, hasB_iff, hasB_iff, ofInt_toNat (by omega), BitVec.getLsbD_ushiftRight]
  constructor
  · rintro ⟨⟨h1, h2⟩, h3⟩
    refine ⟨by omega, by omega, ?_⟩
    rw [show (8 * o + x).toNat = (8 * o).toNat + x.toNat by omega]; exact h2
  · rintro ⟨h1, h2, h3⟩
    refine ⟨⟨by omega, ?_⟩, by omega⟩
    rw [show (8 * o).toNat + x.toNat = (8 * o + x).toNat by omega]; exact h3
def rowsG (f : Int → BitVec 64) (k : Int) : BitVec 64 := (upto k).foldl (fun a o => a ||| (f o <<< (BitVec.ofInt 64 (8 * o)).toNat)) 0#64
theorem rows_next {f : Int → BitVec 64} {k : Int} (h0 : 0 ≤ k) : rowsG f k ||| (f k <<< (BitVec.ofInt 64 (8 * k)).toNat) = rowsG f (k + 1) := by
  rw [rowsG, rowsG, ← upto_succ h0, List.foldl_append]; rfl
theorem shl_has {a : BitVec 64} {o : Int} (ho : 0 ≤ o ∧ o < 8) (z : Int) : hasB (a <<< (BitVec.ofInt 64 (8 * o)).toNat) z = true ↔ (0 ≤ z ∧ z < 64) ∧ hasB a (z - 8 * o) = true := by
  rw [hasB_iff, hasB_iff, ofInt_toNat (by omega), BitVec.getLsbD_shiftLeft]
  simp only [Bool.and_eq_true, Bool.not_eq_true', decide_eq_true_eq, decide_eq_false_iff_not]
  constructor
  · rintro ⟨h, ⟨h1, h2⟩, h3⟩
    exact ⟨h, by omega, by rw [show (z - 8 * o).toNat = z.toNat - (8 * o).toNat by omega]; exact h3⟩
  · rintro ⟨h, h1, h2⟩
    exact ⟨h, ⟨by omega, by omega⟩, by rw [show z.toNat - (8 * o).toNat = (z - 8 * o).toNat by omega]; exact h2⟩
theorem rows_any {f : Int → BitVec 64} (z : Int) : ∀ k : Nat, k ≤ 8 → (hasB (rowsG f k) z = true ↔ ∃ o : Int, (0 ≤ o ∧ o < k) ∧ (0 ≤ z ∧ z < 64) ∧ hasB (f o) (z - 8 * o) = true)
  | 0, _ => by
    rw [show rowsG f ((0 : Nat) : Int) = 0#64 from rfl, has_zero]
    constructor
    · intro h; cases h
    · rintro ⟨o, h, -⟩; omega
  | k + 1, hk => by
    have e : rowsG f ((k + 1 : Nat) : Int) = rowsG f (k : Int) ||| (f k <<< (BitVec.ofInt 64 (8 * (k : Int))).toNat) := (rows_next (k := (k : Int)) (by omega)).symm
    rw [e, hasB_or, Bool.or_eq_true, rows_any z k (by omega), shl_has (by omega)]
    constructor
    · rintro (⟨o, h1, h2⟩ | ⟨h1, h2⟩)
      · exact ⟨o, by omega, h2⟩
      · exact ⟨k, by omega, h1, h2⟩
    · rintro ⟨o, h1, h2, h3⟩
      by_cases he : o = k
      · subst he; exact .inr ⟨h2, h3⟩
      · exact .inl ⟨o, by omega, h2, h3⟩
theorem rows_has {f : Int → BitVec 64} {n : Int} (hn : 0 ≤ n ∧ n ≤ 8) (hf : ∀ o y : Int, 0 ≤ o → o < n → hasB (f o) y = true → y < 8) (z : Int) : hasB (rowsG f n) z = true ↔ ∃ o y : Int, (0 ≤ o ∧ o < n) ∧ hasB (f o) y = true ∧ z = 8 * o + y := by
  have h := rows_any (f := f) z n.toNat (by omega)
  rw [Int.toNat_of_nonneg hn.1] at h
  rw [h]
  constructor
  · rintro ⟨o, h1, h2, h3⟩; exact ⟨o, z - 8 * o, h1, h3, by omega⟩
  · rintro ⟨o, y, h1, h2, h3⟩
    have := hasB_bd h2
    have := hf o y h1.1 h1.2 h2
    exact ⟨o, h1, by omega, by rw [show z - 8 * o = y by omega]; exact h2⟩
/-! ### Closing -/
def closeF (r : Rl) (w : BitVec 64) (o : Int) : BitVec 64 := orAll (fun p => downR r (growG r w p)) (lst (aboveR r o))
def closeG (r : Rl) (w : BitVec 64) : BitVec 64 := if rightG r then rowsG (closeF r w) r.n else 0#64
theorem closeF_has {r : Rl} (h : rightG r = true) (w : BitVec 64) (o x : Int) : hasB (closeF r w o) x = true ↔ ∃ p y : Int, hasR r o p = true ∧ hasR r x y = true ∧ hasB w (8 * p + y) = true := by
  have hs := right_spec h
  rw [closeF, hasB_orAll]
  constructor
  · rintro ⟨p, hp, h1⟩
    rw [mem_lst, above_has] at hp
    have hb := g_bd h hp
    rw [down_hasS] at h1
    obtain ⟨y, h2, h3⟩ := h1
    rw [grow_has (by omega) hs.1.2] at h2
    exact ⟨p, y, hp, h3, h2.2⟩
  · rintro ⟨p, y, h1, h2, h3⟩
    have hb := g_bd h h1
    refine ⟨p, by rw [mem_lst, above_has]; exact h1, ?_⟩
    rw [down_hasS]
    exact ⟨y, (grow_has (by omega) hs.1.2 y).2 ⟨(g_bd h h2).2, h3⟩, h2⟩
theorem close_has {r : Rl} (h : rightG r = true) (w : BitVec 64) (z : Int) : hasB (closeG r w) z = true ↔ ∃ o x p y : Int, z = 8 * o + x ∧ hasR r o p = true ∧ hasR r x y = true ∧ hasB w (8 * p + y) = true := by
  have hs := right_spec h
  rw [closeG, if_pos h, rows_has (by omega) (fun o y _ _ hy => by
    obtain ⟨p, q, -, h2, -⟩ := (closeF_has h w o y).1 hy
    have := g_bd h h2; omega)]
  constructor
  · rintro ⟨o, x, h1, h2, h3⟩
    obtain ⟨p, y, h4⟩ := (closeF_has h w o x).1 h2
    exact ⟨o, x, p, y, h3, h4⟩
  · rintro ⟨o, x, p, y, h3, h4⟩
    exact ⟨o, x, (g_bd h h4.1).1, (closeF_has h w o x).2 ⟨p, y, h4⟩, h3⟩
theorem close_no {r : Rl} {w : BitVec 64} (h : rightG r = false) : closeG r w = 0#64 := by rw [closeG, h]; rfl
theorem close_yes {r : Rl} {w : BitVec 64} (h : rightG r = true) : rowsG (closeF r w) r.n = closeG r w := by rw [closeG, h]; rfl
def outG (r : Rl) (w : BitVec 64) (o x : Int) : Bool := decide (0 ≤ o ∧ 0 ≤ x ∧ o < r.n ∧ x < r.n) && hasB w (8 * o + x)
theorem out_iff {r : Rl} {w : BitVec 64} {o x : Int} : outG r w o x = true ↔ (0 ≤ o ∧ 0 ≤ x ∧ o < r.n ∧ x < r.n) ∧ hasB w (8 * o + x) = true := by
  rw [outG, Bool.and_eq_true, decide_eq_true_eq]
def folB (r : Rl) (w : BitVec 64) (o x : Int) : Bool := (upto r.n).any fun p => (upto r.n).any fun y => outG r w p y && hasR r o p && hasR r x y
theorem fol_iff {r : Rl} {w : BitVec 64} {o x : Int} : folB r w o x = true ↔ ∃ p y : Int, outG r w p y = true ∧ hasR r o p = true ∧ hasR r x y = true := by
  rw [folB, List.any_eq_true]
  constructor
  · rintro ⟨p, -, h⟩
    rw [List.any_eq_true] at h
    obtain ⟨y, -, h⟩ := h
    rw [Bool.and_eq_true, Bool.and_eq_true] at h
    exact ⟨p, y, h.1.1, h.1.2, h.2⟩
  · rintro ⟨p, y, h1, h2, h3⟩
    have hb := (out_iff.1 h1).1
    refine ⟨p, mem_upto.2 (by omega), ?_⟩
    rw [List.any_eq_true]
    exact ⟨y, mem_upto.2 (by omega), by rw [h1, h2, h3]; rfl⟩
theorem fol_none {r : Rl} {w : BitVec 64} {o x k : Int} (hk : ¬ k < r.n) (hf : ∀ p y : Int, 0 ≤ p → p < k → ¬ (outG r w p y = true ∧ hasR r o p = true ∧ hasR r x y = true)) : folB r w o x = false := by
  cases hc : folB r w o x with
  | false => rfl
  | true =>
    obtain ⟨p, y, h⟩ := fol_iff.1 hc
    have hb := (out_iff.1 h.1).1
    exact absurd h (hf p y hb.1 (by omega))
def rowL (r : Rl) (w : BitVec 64) (o k : Int) : List Int := ((upto k).filter (folB r w o ·)).map (8 * o + ·)
def closeL (r : Rl) (w : BitVec 64) (k : Int) : List Int := (upto k).flatMap fun o => rowL r w o r.n
theorem rowL_yes {r : Rl} {w : BitVec 64} {o k : Int} (h0 : 0 ≤ k) (h : folB r w o k = true) : rowL r w o k ++ [8 * o + k] = rowL r w o (k + 1) := by
  rw [rowL, rowL, ← upto_succ h0, List.filter_append, List.map_append]; simp [h]
theorem rowL_no {r : Rl} {w : BitVec 64} {o k : Int} (h0 : 0 ≤ k) (h : folB r w o k = false) : rowL r w o k = rowL r w o (k + 1) := by
  rw [rowL, rowL, ← upto_succ h0, List.filter_append, List.map_append]; simp [h]
theorem closeL_next {r : Rl} {w : BitVec 64} {k x : Int} (h0 : 0 ≤ k) (hx : x = r.n) : closeL r w k ++ rowL r w k x = closeL r w (k + 1) := by
  subst hx
  rw [closeL, closeL, ← upto_succ h0, List.flatMap_append]; simp
theorem rowL_len {r : Rl} {w : BitVec 64} {o k : Int} : (rowL r w o k).length ≤ k.toNat := by
  rw [rowL, List.length_map]
  exact Nat.le_trans (List.length_filter_le _ _) (by rw [upto_len]; exact Nat.le_refl _)
theorem flat_le {f : Int → List Int} {m : Nat} (h : ∀ o, (f o).length ≤ m) : ∀ l : List Int, (l.flatMap f).length ≤ l.length * m
  | [] => by simp
  | o :: l => by
    have := flat_le h l
    have := h o
    rw [List.flatMap_cons, List.length_append, List.length_cons, Nat.add_mul]; omega
theorem closeL_len {r : Rl} {w : BitVec 64} {k : Int} (hn : r.n ≤ 8) (hk : k ≤ 8) : (closeL r w k).length ≤ 64 := by
  have h := flat_le (f := fun o => rowL r w o r.n) (m := 8) (fun o => Nat.le_trans rowL_len (by omega)) (upto k)
  rw [upto_len] at h
  have : k.toNat * 8 ≤ 64 := by omega
  exact Nat.le_trans h this
theorem mem_rowL {r : Rl} {w : BitVec 64} {o k z : Int} : z ∈ rowL r w o k ↔ ∃ x : Int, (0 ≤ x ∧ x < k) ∧ folB r w o x = true ∧ z = 8 * o + x := by
  rw [rowL, List.mem_map]
  constructor
  · rintro ⟨x, hx, rfl⟩
    rw [List.mem_filter, mem_upto] at hx
    exact ⟨x, hx.1, hx.2, rfl⟩
  · rintro ⟨x, h1, h2, rfl⟩
    exact ⟨x, List.mem_filter.2 ⟨mem_upto.2 h1, h2⟩, rfl⟩
theorem close_ref {r : Rl} {w : BitVec 64} {k : Int} (h : rightG r = true) (hk : k = r.n) : ofl (closeL r w k) = closeG r w := word_eq fun z => by
  subst hk
  have hs := right_spec h
  rw [Bool.eq_iff_iff, hasB_ofl, close_has h, closeL, List.mem_flatMap]
  constructor
  · rintro ⟨h1, o, ho, hz⟩
    rw [mem_rowL] at hz
    obtain ⟨x, hx, hf, rfl⟩ := hz
    obtain ⟨p, y, h2, h3, h4⟩ := fol_iff.1 hf
    exact ⟨o, x, p, y, rfl, h3, h4, (out_iff.1 h2).2⟩
  · rintro ⟨o, x, p, y, rfl, h2, h3, h4⟩
    have b1 := g_bd h h2; have b2 := g_bd h h3
    refine ⟨by omega, o, mem_upto.2 b1.1, ?_⟩
    rw [mem_rowL]
    exact ⟨x, b2.1, fol_iff.2 ⟨p, y, out_iff.2 ⟨by omega, h4⟩, h2, h3⟩, rfl⟩
def closedG (r : Rl) (w : BitVec 64) : Bool := rightG r && decide (closeG r w = w)
/-! ### What owners say -/
def mayTo (r : Rl) (s : BitVec 64) (x k : Int) : Bool := (upto k).any fun y => hasB s y && hasR r y x
def ruleL (r : Rl) (s : BitVec 64) (o k : Int) : List Int := ((upto k).filter fun x => !hasB (upR r s) x).map (8 * o + ·)
def ownF (o : Int) (s : BitVec 64) : Int → BitVec 64 := fun x => if x = o then s else 0#64
def ownsG (r : Rl) (o : Int) : Bool := rightG r && decide (0 ≤ o ∧ o < r.n)
def ruleG (r : Rl) (o : Int) (s : BitVec 64) : BitVec 64 := if ownsG r o then closeG r (rowsG (ownF o (below r.n &&& ~~~upR r s)) r.n) else 0#64
def readersG (r : Rl) (w : BitVec 64) (o : Int) : BitVec 64 := if ownsG r o then below r.n &&& ~~~growG r w o else 0#64
def readL (r : Rl) (w : BitVec 64) (o k : Int) : List Int := (upto k).filter fun x => !outG r w o x
def ownL (r : Rl) (w : BitVec 64) (k : Int) : List Int := (upto k).filter fun o => decide (growG r w o ≠ 0#64)
def ownersG (r : Rl) (w : BitVec 64) : BitVec 64 := if rightG r then ofl (ownL r w r.n) else 0#64
def topG (r : Rl) : BitVec 64 := if rightG r then rowsG (fun _ => below r.n) r.n else 0#64
def topL (r : Rl) (k : Int) : List Int := (upto k).flatMap fun o => (upto r.n).map (8 * o + ·)
def heightG (r : Rl) : Int := if rightG r then clsTo r (pts r) * clsTo r (pts r) else 0
theorem height_yes {r : Rl} (h : rightG r = true) : clsTo r (pts r) * clsTo r (pts r) = heightG r := by rw [heightG, h]; rfl
/-! ### Laws -/
/-! ### The height -/
def oneG (r : Rl) (i : Int) : BitVec 64 := closeG r (ofl [i])
def newP (r : Rl) (p : Int) : Bool := decide (0 ≤ p ∧ p < r.n) && newTo (cloR r) p p
def goodG (r : Rl) (i : Int) : Bool := newP r (i / 8) && newP r (i % 8)
def metL (r : Rl) (k : Int) : List (BitVec 64) := ((upto k).filter (goodG r)).map (oneG r)
def isTo (c : BitVec 64) (l : List (BitVec 64)) (j : Int) : Bool := decide (c = 0#64) || (l.take j.toNat).any fun w => decide (w = c)
theorem above_lt {r : Rl} (h : rightG r = true) {o p : Int} (hp : hasB (aboveR r o) p = true) : 0 ≤ p ∧ p < 8 := by
  have hs := right_spec h
  rw [above_has] at hp
  have := g_bd h hp; omega
def twoR : Rl := ⟨2, fun i => [3#64, 2#64].getD i 0#64⟩
end Go.Proofs.YtkdbiooamgnfmaaGreatDoor.M
