/-
  Grids of principals, plainly: words of who keeps whom out.
-/
import Derived.Test.YtkdbiooamgnfmaaDoorHas
namespace Go.Proofs.YtkdbiooamgnfmaaDoor.M
set_option linter.unusedVariables false
def rightG (r : Rl) : Bool := decide (1 ≤ r.n ∧ r.n ≤ 8) && decide ((plainR r).eq (cloR r))
theorem right_spec {r : Rl} (h : rightG r = true) : (1 ≤ r.n ∧ r.n ≤ 8) ∧ pts r = r.n ∧ (plainR r).eq (cloR r) := by
  rw [rightG, Bool.and_eq_true, decide_eq_true_eq, decide_eq_true_eq] at h
  exact ⟨h.1, by unfold pts; omega, h.2⟩
theorem g_refl {r : Rl} (h : rightG r = true) {i : Int} (hi : 0 ≤ i ∧ i < r.n) : hasR r i i = true := by
  have hs := right_spec h
  rw [has_closed hs.2.2]; exact clo_refl (by rw [hs.2.1]; exact hi)
theorem g_trans {r : Rl} (h : rightG r = true) {i j k : Int} (h1 : hasR r i j = true) (h2 : hasR r j k = true) : hasR r i k = true := by
  have hs := right_spec h
  rw [has_closed hs.2.2] at *; exact clo_trans h1 h2
theorem g_bd {r : Rl} (h : rightG r = true) {i j : Int} (h1 : hasR r i j = true) : (0 ≤ i ∧ i < r.n) ∧ (0 ≤ j ∧ j < r.n) := by
  have := hasR_bd h1
  rw [(right_spec h).2.1] at this; exact this
theorem down_hasS (r : Rl) (s : BitVec 64) (j : Int) : hasB (downR r s) j = true ↔ ∃ i : Int, hasB s i = true ∧ hasR r j i = true := by
  have hp := pts_bd r
  rw [hasB_iff, down_bit]
  constructor
  · rintro ⟨h1, i, h2, h3⟩; rw [Int.toNat_of_nonneg h1.1] at h3; exact ⟨i, h2, h3⟩
  · rintro ⟨i, h2, h3⟩
    have hb := hasR_bd h3
    exact ⟨by omega, i, h2, by rw [Int.toNat_of_nonneg hb.1.1]; exact h3⟩
/-! ### Rows of a word -/
def growG (r : Rl) (w : BitVec 64) (o : Int) : BitVec 64 := (w >>> (BitVec.ofInt 64 (8 * o)).toNat) &&& below r.n
theorem grow_has {r : Rl} {w : BitVec 64} {o : Int} (ho : 0 ≤ o ∧ o < 8) (hn : r.n ≤ 8) (x : Int) : hasB (growG r w o) x = true ↔ (0 ≤ x ∧ x < r.n) ∧ hasB w (8 * o + x) = true := by
  rw [growG, hasB_and, Bool.and_eq_true, below_has, hasB_iff, hasB_iff, ofInt_toNat (by omega), BitVec.getLsbD_ushiftRight]
  constructor
  · rintro ⟨⟨h1, h2⟩, h3⟩
    refine ⟨by omega, by omega, ?_⟩
    rw [show (8 * o + x).toNat = (8 * o).toNat + x.toNat by omega]; exact h2
  · rintro ⟨h1, h2, h3⟩
    refine ⟨⟨by omega, ?_⟩, by omega⟩
    rw [show (8 * o).toNat + x.toNat = (8 * o + x).toNat by omega]; exact h3
def rowsG (f : Int → BitVec 64) (k : Int) : BitVec 64 := (upto k).foldl (fun a o => a ||| (f o <<< (BitVec.ofInt 64 (8 * o)).toNat)) 0#64
theorem rows_next {f : Int → BitVec 64} {k : Int} (h0 : 0 ≤ k) : rowsG f k ||| (f k <<< (BitVec.ofInt 64 (8 * k)).toNat) = rowsG f (k + 1) := by
  rw [rowsG, rowsG, ← upto_succ h0, List.foldl_append]; rfl
theorem shl_has {a : BitVec 64} {o : Int} (ho : 0 ≤ o ∧ o < 8) (z : Int) : hasB (a <<< (BitVec.ofInt 64 (8 * o)).toNat) z = true ↔ (0 ≤ z ∧ z < 64) ∧ hasB a (z - 8 * o) = true := by
  rw [hasB_iff, hasB_iff, ofInt_toNat (by omega), BitVec.getLsbD_shiftLeft]
  simp only [Bool.and_eq_true, Bool.not_eq_true', decide_eq_true_eq, decide_eq_false_iff_not]
  constructor
  · rintro ⟨h, ⟨h1, h2⟩, h3⟩
    exact ⟨h, by omega, by rw [show (z - 8 * o).toNat = z.toNat - (8 * o).toNat by omega]; exact h3⟩
  · rintro ⟨h, h1, h2⟩
    exact ⟨h, ⟨by omega, by omega⟩, by rw [show z.toNat - (8 * o).toNat = (z - 8 * o).toNat by omega]; exact h2⟩
theorem rows_any {f : Int → BitVec 64} (z : Int) : ∀ k : Nat, k ≤ 8 → (hasB (rowsG f k) z = true ↔ ∃ o : Int, (0 ≤ o ∧ o < k) ∧ (0 ≤ z ∧ z < 64) ∧ hasB (f o) (z - 8 * o) = true)
  | 0, _ => by
    rw [show rowsG f ((0 : Nat) : Int) = 0#64 from rfl, has_zero]
    constructor
    · intro h; cases h
    · rintro ⟨o, h, -⟩; omega
  | k + 1, hk => by
    have e : rowsG f ((k + 1 : Nat) : Int) = rowsG f (k : Int) ||| (f k <<< (BitVec.ofInt 64 (8 * (k : Int))).toNat) := (rows_next (k := (k : Int)) (by omega)).symm
    rw [e, hasB_or, Bool.or_eq_true, rows_any z k (by omega), shl_has (by omega)]
    constructor
    · rintro (⟨o, h1, h2⟩ | ⟨h1, h2⟩)
      · exact ⟨o, by omega, h2⟩
      · exact ⟨k, by omega, h1, h2⟩
    · rintro ⟨o, h1, h2, h3⟩
      by_cases he : o = k
      · subst he; exact .inr ⟨h2, h3⟩
      · exact .inl ⟨o, by omega, h2, h3⟩
theorem rows_has {f : Int → BitVec 64} {n : Int} (hn : 0 ≤ n ∧ n ≤ 8) (hf : ∀ o y : Int, 0 ≤ o → o < n → hasB (f o) y = true → y < 8) (z : Int) : hasB (rowsG f n) z = true ↔ ∃ o y : Int, (0 ≤ o ∧ o < n) ∧ hasB (f o) y = true ∧ z = 8 * o + y := by
  have h := rows_any (f := f) z n.toNat (by omega)
  rw [Int.toNat_of_nonneg hn.1] at h
  rw [h]
  constructor
  · rintro ⟨o, h1, h2, h3⟩; exact ⟨o, z - 8 * o, h1, h3, by omega⟩
  · rintro ⟨o, y, h1, h2, h3⟩
    have := hasB_bd h2
    have := hf o y h1.1 h1.2 h2
    exact ⟨o, h1, by omega, by rw [show z - 8 * o = y by omega]; exact h2⟩
/-! ### Closing -/
def closeF (r : Rl) (w : BitVec 64) (o : Int) : BitVec 64 := orAll (fun p => downR r (growG r w p)) (lst (aboveR r o))
def closeG (r : Rl) (w : BitVec 64) : BitVec 64 := if rightG r then rowsG (closeF r w) r.n else 0#64
theorem closeF_has {r : Rl} (h : rightG r = true) (w : BitVec 64) (o x : Int) : hasB (closeF r w o) x = true ↔ ∃ p y : Int, hasR r o p = true ∧ hasR r x y = true ∧ hasB w (8 * p + y) = true := by
  have hs := right_spec h
  rw [closeF, hasB_orAll]
  constructor
  · rintro ⟨p, hp, h1⟩
    rw [mem_lst, above_has] at hp
    have hb := g_bd h hp
    rw [down_hasS] at h1
    obtain ⟨y, h2, h3⟩ := h1
    rw [grow_has (by omega) hs.1.2] at h2
    exact ⟨p, y, hp, h3, h2.2⟩
  · rintro ⟨p, y, h1, h2, h3⟩
    have hb := g_bd h h1
    refine ⟨p, by rw [mem_lst, above_has]; exact h1, ?_⟩
    rw [down_hasS]
    exact ⟨y, (grow_has (by omega) hs.1.2 y).2 ⟨(g_bd h h2).2, h3⟩, h2⟩
theorem close_has {r : Rl} (h : rightG r = true) (w : BitVec 64) (z : Int) : hasB (closeG r w) z = true ↔ ∃ o x p y : Int, z = 8 * o + x ∧ hasR r o p = true ∧ hasR r x y = true ∧ hasB w (8 * p + y) = true := by
  have hs := right_spec h
  rw [closeG, if_pos h, rows_has (by omega) (fun o y _ _ hy => by
    obtain ⟨p, q, -, h2, -⟩ := (closeF_has h w o y).1 hy
    have := g_bd h h2; omega)]
  constructor
  · rintro ⟨o, x, h1, h2, h3⟩
    obtain ⟨p, y, h4⟩ := (closeF_has h w o x).1 h2
    exact ⟨o, x, p, y, h3, h4⟩
  · rintro ⟨o, x, p, y, h3, h4⟩
    exact ⟨o, x, (g_bd h h4.1).1, (closeF_has h w o x).2 ⟨p, y, h4⟩, h3⟩
theorem close_no {r : Rl} {w : BitVec 64} (h : rightG r = false) : closeG r w = 0#64 := by rw [closeG, h]; rfl
theorem close_yes {r : Rl} {w : BitVec 64} (h : rightG r = true) : rowsG (closeF r w) r.n = closeG r w := by rw [closeG, h]; rfl
def outG (r : Rl) (w : BitVec 64) (o x : Int) : Bool := decide (0 ≤ o ∧ 0 ≤ x ∧ o < r.n ∧ x < r.n) && hasB w (8 * o + x)
def folB (r : Rl) (w : BitVec 64) (o x : Int) : Bool := (upto r.n).any fun p => (upto r.n).any fun y => outG r w p y && hasR r o p && hasR r x y
def rowL (r : Rl) (w : BitVec 64) (o k : Int) : List Int := ((upto k).filter (folB r w o ·)).map (8 * o + ·)
def closeL (r : Rl) (w : BitVec 64) (k : Int) : List Int := (upto k).flatMap fun o => rowL r w o r.n
def closedG (r : Rl) (w : BitVec 64) : Bool := rightG r && decide (closeG r w = w)
/-! ### What owners say -/
def mayTo (r : Rl) (s : BitVec 64) (x k : Int) : Bool := (upto k).any fun y => hasB s y && hasR r y x
def ruleL (r : Rl) (s : BitVec 64) (o k : Int) : List Int := ((upto k).filter fun x => !hasB (upR r s) x).map (8 * o + ·)
def ownF (o : Int) (s : BitVec 64) : Int → BitVec 64 := fun x => if x = o then s else 0#64
def ownsG (r : Rl) (o : Int) : Bool := rightG r && decide (0 ≤ o ∧ o < r.n)
def ruleG (r : Rl) (o : Int) (s : BitVec 64) : BitVec 64 := if ownsG r o then closeG r (rowsG (ownF o (below r.n &&& ~~~upR r s)) r.n) else 0#64
def readersG (r : Rl) (w : BitVec 64) (o : Int) : BitVec 64 := if ownsG r o then below r.n &&& ~~~growG r w o else 0#64
def readL (r : Rl) (w : BitVec 64) (o k : Int) : List Int := (upto k).filter fun x => !outG r w o x
def ownL (r : Rl) (w : BitVec 64) (k : Int) : List Int := (upto k).filter fun o => decide (growG r w o ≠ 0#64)
def ownersG (r : Rl) (w : BitVec 64) : BitVec 64 := if rightG r then ofl (ownL r w r.n) else 0#64
def topG (r : Rl) : BitVec 64 := if rightG r then rowsG (fun _ => below r.n) r.n else 0#64
theorem top_has {r : Rl} (h : rightG r = true) (z : Int) : hasB (topG r) z = true ↔ ∃ o x : Int, (0 ≤ o ∧ o < r.n) ∧ (0 ≤ x ∧ x < r.n) ∧ z = 8 * o + x := by
  have hs := right_spec h
  rw [topG, if_pos h, rows_has (by omega) fun o y _ _ hy => by rw [below_has] at hy; omega]
  constructor
  · rintro ⟨o, x, h1, h2, h3⟩
    rw [below_has] at h2
    exact ⟨o, x, h1, by omega, h3⟩
  · rintro ⟨o, x, h1, h2, h3⟩
    exact ⟨o, x, h1, (below_has _ _).2 (by omega), h3⟩
def topL (r : Rl) (k : Int) : List Int := (upto k).flatMap fun o => (upto r.n).map (8 * o + ·)
def heightG (r : Rl) : Int := if rightG r then clsTo r (pts r) * clsTo r (pts r) else 0
theorem height_yes {r : Rl} (h : rightG r = true) : clsTo r (pts r) * clsTo r (pts r) = heightG r := by rw [heightG, h]; rfl
/-! ### Laws -/
theorem gl_sub {r : Rl} (h : rightG r = true) (v : BitVec 64) : subB (v &&& topG r) (closeG r v) = true := subB_has.2 fun z hz => by
  rw [hasB_and, Bool.and_eq_true, top_has h] at hz
  obtain ⟨h1, o, x, h2, h3, rfl⟩ := hz
  exact (close_has h v _).2 ⟨o, x, o, x, rfl, g_refl h h2, g_refl h h3, h1⟩
theorem gl_top {r : Rl} (h : rightG r = true) (v : BitVec 64) : subB (closeG r v) (topG r) = true := subB_has.2 fun z hz => by
  obtain ⟨o, x, p, y, rfl, h1, h2, -⟩ := (close_has h v z).1 hz
  exact (top_has h _).2 ⟨o, x, (g_bd h h1).1, (g_bd h h2).1, rfl⟩
theorem dec8 {o x p y : Int} (hx : 0 ≤ x ∧ x < 8) (hy : 0 ≤ y ∧ y < 8) (h : 8 * o + x = 8 * p + y) : o = p ∧ x = y := by omega
theorem gl_idem {r : Rl} (h : rightG r = true) (v : BitVec 64) : closeG r (closeG r v) = closeG r v := word_eq fun z => by
  have hs := right_spec h
  rw [Bool.eq_iff_iff, close_has h, close_has h]
  constructor
  · rintro ⟨o, x, p, y, rfl, h1, h2, h3⟩
    obtain ⟨p', y', q, t, e, h4, h5, h6⟩ := (close_has h v _).1 h3
    have b1 := g_bd h h1; have b2 := g_bd h h2; have b3 := g_bd h h4; have b4 := g_bd h h5
    obtain ⟨rfl, rfl⟩ := dec8 (by omega) (by omega) e
    exact ⟨o, x, q, t, rfl, g_trans h h1 h4, g_trans h h2 h5, h6⟩
  · rintro ⟨o, x, p, y, rfl, h1, h2, h3⟩
    have b1 := g_bd h h1; have b2 := g_bd h h2
    exact ⟨o, x, o, x, rfl, g_refl h b1.1, g_refl h b2.1, (close_has h v _).2 ⟨o, x, p, y, rfl, h1, h2, h3⟩⟩
theorem close_mono {r : Rl} (h : rightG r = true) {v w : BitVec 64} (hv : subB v w = true) : subB (closeG r v) (closeG r w) = true := subB_has.2 fun z hz => by
  rw [subB_has] at hv
  obtain ⟨o, x, p, y, e, h1, h2, h3⟩ := (close_has h v z).1 hz
  exact (close_has h w z).2 ⟨o, x, p, y, e, h1, h2, hv _ h3⟩
theorem closed_is {r : Rl} (h : rightG r = true) {w : BitVec 64} (e : closeG r w = w) : closedG r w = true := by rw [closedG, h, decide_eq_true e]; rfl
theorem gl_or {r : Rl} (h : rightG r = true) (v w : BitVec 64) : closedG r (closeG r v ||| closeG r w) = true := closed_is h (word_eq fun z => by
  rw [Bool.eq_iff_iff]
  constructor
  · intro hz
    obtain ⟨o, x, p, y, e, h1, h2, h3⟩ := (close_has h _ z).1 hz
    rw [hasB_or, Bool.or_eq_true] at h3 ⊢
    rcases h3 with h3 | h3
    · left; rw [← gl_idem h v]; exact (close_has h _ z).2 ⟨o, x, p, y, e, h1, h2, h3⟩
    · right; rw [← gl_idem h w]; exact (close_has h _ z).2 ⟨o, x, p, y, e, h1, h2, h3⟩
  · intro hz
    have h1 : hasB (topG r) z = true := by
      rw [hasB_or, Bool.or_eq_true] at hz
      rcases hz with hz | hz
      · exact subB_has.1 (gl_top h v) z hz
      · exact subB_has.1 (gl_top h w) z hz
    exact subB_has.1 (gl_sub h _) z (by rw [hasB_and, hz, h1]; rfl))
theorem gl_and {r : Rl} (h : rightG r = true) (v w : BitVec 64) : closedG r (closeG r v &&& closeG r w) = true := closed_is h (word_eq fun z => by
  rw [Bool.eq_iff_iff]
  constructor
  · intro hz
    have h1 := subB_has.1 (close_mono h (and_sub (closeG r v) (closeG r w))) z hz
    have h2 := subB_has.1 (close_mono h (v := closeG r v &&& closeG r w) (w := closeG r w) (by rw [BitVec.and_comm]; exact and_sub _ _)) z hz
    rw [gl_idem h] at h1 h2
    rw [hasB_and, h1, h2]; rfl
  · intro hz
    have h1 : hasB (topG r) z = true := by
      have hz2 := hz
      rw [hasB_and, Bool.and_eq_true] at hz2
      exact subB_has.1 (gl_top h v) z hz2.1
    exact subB_has.1 (gl_sub h _) z (by rw [hasB_and (closeG r v &&& closeG r w), hz, h1]; rfl))
/-! ### The height -/
def oneG (r : Rl) (i : Int) : BitVec 64 := closeG r (ofl [i])
def newP (r : Rl) (p : Int) : Bool := decide (0 ≤ p ∧ p < r.n) && newTo (cloR r) p p
def goodG (r : Rl) (i : Int) : Bool := newP r (i / 8) && newP r (i % 8)
def metL (r : Rl) (k : Int) : List (BitVec 64) := ((upto k).filter (goodG r)).map (oneG r)
def isTo (c : BitVec 64) (l : List (BitVec 64)) (j : Int) : Bool := decide (c = 0#64) || (l.take j.toNat).any fun w => decide (w = c)
theorem above_lt {r : Rl} (h : rightG r = true) {o p : Int} (hp : hasB (aboveR r o) p = true) : 0 ≤ p ∧ p < 8 := by
  have hs := right_spec h
  rw [above_has] at hp
  have := g_bd h hp; omega
def twoR : Rl := ⟨2, fun i => [3#64, 2#64].getD i 0#64⟩
end Go.Proofs.YtkdbiooamgnfmaaDoor.M
