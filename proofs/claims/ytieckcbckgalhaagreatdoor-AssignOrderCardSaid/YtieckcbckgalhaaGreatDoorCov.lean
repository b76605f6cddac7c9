/-
  Covers and chains of an order as the document counts them; relations made of pairs.
-/
import Derived.Test.YtieckcbckgalhaaGreatDoorClo
namespace Go.Proofs.YtieckcbckgalhaaGreatDoor.M
set_option linter.unusedVariables false

theorem hasB_iff {s : BitVec 64} {j : Int} : hasB s j = true ↔ (0 ≤ j ∧ j < 64) ∧ s.getLsbD j.toNat = true := by
  rw [hasB, Bool.and_eq_true, inB, decide_eq_true_eq]
theorem hasB_orAll (f : Int → BitVec 64) (l : List Int) (j : Int) : hasB (orAll f l) j = true ↔ ∃ i ∈ l, hasB (f i) j = true := by
  rw [hasB_iff, orAll_bit, List.any_eq_true]
  constructor
  · rintro ⟨h, i, hi, hb⟩; exact ⟨i, hi, hasB_iff.2 ⟨h, hb⟩⟩
  · rintro ⟨i, hi, hb⟩; have := hasB_iff.1 hb; exact ⟨this.1, i, hi, this.2⟩
theorem hasR_bd {r : Rl} {i j : Int} (h : hasR r i j = true) : (0 ≤ i ∧ i < pts r) ∧ (0 ≤ j ∧ j < pts r) := by have := hasR_bit h; exact ⟨this.1, this.2.1⟩
theorem strict_has {r : Rl} {i : Int} (h : 0 ≤ i ∧ i < pts r) (j : Int) : hasB (strictR r i) j = true ↔ hasR r i j = true ∧ j ≠ i := by
  rw [hasB_iff]
  constructor
  · rintro ⟨hj, hb⟩
    rw [strict_bit h, Int.toNat_of_nonneg hj.1] at hb; exact hb
  · rintro ⟨h1, h2⟩
    have hb := hasR_bd h1; have hp := pts_bd r
    refine ⟨by omega, ?_⟩
    rw [strict_bit h, Int.toNat_of_nonneg hb.2.1]; exact ⟨h1, h2⟩
theorem below_has (n j : Int) : hasB (below n) j = true ↔ 0 ≤ j ∧ j < 64 ∧ j < n := by
  rw [hasB_iff, getLsbD_below, decide_eq_true_eq]
  constructor
  · rintro ⟨h1, h2, h3⟩; omega
  · rintro ⟨h1, h2, h3⟩; omega
/-! ### Levels -/
def lev (r : Rl) : Nat → BitVec 64
  | 0 => below (pts r)
  | k + 1 => stepL r (lev r k)
theorem lev_in (r : Rl) : ∀ k j : Nat, (lev r k).getLsbD j = true → (j : Int) < pts r
  | 0, j, h => below_in j h
  | k + 1, j, h => step_in (lev_in r k) j h
theorem lev_pt {r : Rl} {k : Nat} {j : Int} (h : hasB (lev r k) j = true) : 0 ≤ j ∧ j < pts r := by
  have := hasB_iff.1 h
  have h2 := lev_in r k _ this.2
  omega
theorem lev_bit {r : Rl} (k : Nat) (j : Int) : hasB (lev r (k + 1)) j = true ↔ hasB (lev r k) j = true ∧ ∃ i : Int, hasB (lev r k) i = true ∧ hasR r i j = true ∧ j ≠ i := by
  rw [lev, stepL, hasB_and, Bool.and_eq_true, hasB_orAll, and_comm]
  refine and_congr_right fun hj => ?_
  constructor
  · rintro ⟨i, hi, h⟩
    have hi2 := (mem_lst _ _).1 hi
    exact ⟨i, hi2, (strict_has (lev_pt hi2) j).1 h⟩
  · rintro ⟨i, hi, h⟩
    exact ⟨i, (mem_lst _ _).2 hi, (strict_has (lev_pt hi) j).2 h⟩
theorem lev_up {r : Rl} : ∀ (k : Nat) {i j : Int}, hasB (lev r k) i = true → hasR r i j = true → j ≠ i → hasB (lev r (k + 1)) j = true
  | 0, i, j, hi, h, hne => by
    have hb := hasR_bd h; have hp := pts_bd r
    exact (lev_bit 0 j).2 ⟨(below_has _ _).2 (by omega), i, hi, h, hne⟩
  | k + 1, i, j, hi, h, hne => by
    have h1 := (lev_bit k i).1 hi
    exact (lev_bit (k + 1) j).2 ⟨lev_up k h1.1 h hne, i, hi, h, hne⟩
theorem lev_mono {r : Rl} {j : Int} {a b : Nat} (h : a ≤ b) (hb : hasB (lev r b) j = true) : hasB (lev r a) j = true := by
  induction b with
  | zero => rwa [show a = 0 by omega]
  | succ b ih =>
    by_cases he : a = b + 1
    · rwa [he]
    · exact ih (by omega) ((lev_bit b j).1 hb).1
theorem has_zero (j : Int) : hasB 0#64 j = false := by rw [hasB]; simp
theorem lev_ne {r : Rl} {k : Nat} (h : lev r (k + 1) ≠ 0#64) : lev r k ≠ 0#64 := fun e => h (by rw [lev, e, stepL]; simp)
theorem lst_pt_len {s : BitVec 64} {n : Int} (h0 : 0 ≤ n) (h : ∀ j : Nat, s.getLsbD j = true → (j : Int) < n) : (lst s).length ≤ n.toNat :=
  nodup_len n.toNat (lst s) (lst_nodup s) fun x hx => by
    have h1 := hasB_iff.1 ((mem_lst _ _).1 hx)
    have := h _ h1.2
    omega
theorem lst_pos {s : BitVec 64} (h : s ≠ 0#64) : 0 < (lst s).length := List.length_pos_iff.2 fun e => h (lst_eq_nil.1 e)
theorem lev_len {r : Rl} (ho : orderB r = true) : ∀ k : Nat, lev r k ≠ 0#64 → (lst (lev r k)).length + k ≤ (pts r).toNat
  | 0, _ => by have := lst_pt_len (pts_bd r).1 (lev_in r 0); omega
  | k + 1, h => by
    have h1 := lev_len ho k (lev_ne h)
    have h2 : (lst (lev r (k + 1))).length < (lst (lev r k)).length := step_lt ho (lev_in r k) h
    omega
theorem hasB_ne {s : BitVec 64} {j : Int} (h : hasB s j = true) : s ≠ 0#64 := fun e => by rw [e, has_zero] at h; cases h
theorem lev_lt {r : Rl} (ho : orderB r = true) {k : Nat} {j : Int} (h : hasB (lev r k) j = true) : (k : Int) < pts r := by
  have h1 := lev_len ho k (hasB_ne h)
  have h2 := lst_pos (hasB_ne h)
  have := pts_bd r
  omega
theorem longF_lev {r : Rl} (ho : orderB r = true) : ∀ f k : Nat, f + k = 65 → (k = 0 ∨ lev r k ≠ 0#64) → ∃ m : Nat, longF r f (lev r k) k = (m : Int) ∧ lev r (m + 1) = 0#64 ∧ (m = 0 ∨ lev r m ≠ 0#64)
  | 0, k, h, h2 => by
    have hp := pts_bd r
    rcases h2 with h2 | h2
    · omega
    · have := lev_len ho k h2; omega
  | f + 1, k, h, h2 => by
    by_cases hs : stepL r (lev r k) = 0#64
    · exact ⟨k, by rw [longF, if_pos hs], hs, h2⟩
    · obtain ⟨m, h3, h4⟩ := longF_lev ho f (k + 1) (by omega) (.inr hs)
      refine ⟨m, ?_, h4⟩
      rw [longF, if_neg hs, ← h3]; rfl
theorem long_is {r : Rl} (h : (longV r).2 = true) : orderB r = true := by
  cases hc : orderB r with
  | true => rfl
  | false => rw [longV, hc] at h; cases h
/-- What the document's counting is sound for. -/
def FarOk (r : Rl) (F : Nat → Int) : Prop := ∀ j : Int, 0 ≤ j → j < pts r → 0 ≤ F j.toNat ∧ hasB (lev r (F j.toNat).toNat) j = true
theorem far_ok0 (r : Rl) : FarOk r (fun _ => 0) := fun j h0 h1 => by
  have hp := pts_bd r
  exact ⟨Int.le_refl _, (below_has _ _).2 (by omega)⟩
theorem far_bd {r : Rl} (ho : orderB r = true) {F : Nat → Int} (h : FarOk r F) {j : Int} (h0 : 0 ≤ j) (h1 : j < pts r) : 0 ≤ F j.toNat ∧ F j.toNat < pts r := by
  have h2 := h j h0 h1
  have := lev_lt ho h2.2
  omega
def putF (F : Nat → Int) (i : Nat) (x : Int) : Nat → Int := fun j => if j = i then x else F j
theorem far_put {r : Rl} {F : Nat → Int} {i j : Int} (h : FarOk r F) (hr : hasR r i j = true) (hne : i ≠ j) : FarOk r (putF F j.toNat (F i.toNat + 1)) := fun x x0 x1 => by
  have hb := hasR_bd hr
  unfold putF
  by_cases he : x.toNat = j.toNat
  · have hi := h i hb.1.1 hb.1.2
    rw [if_pos he, show x = j by omega, show (F i.toNat + 1).toNat = (F i.toNat).toNat + 1 by omega]
    exact ⟨by omega, lev_up _ hi.2 hr (fun e => hne e.symm)⟩
  · rw [if_neg he]; exact h x x0 x1
theorem put_ge {F : Nat → Int} {i : Nat} {x : Int} (h : F i ≤ x) (k : Nat) : F k ≤ putF F i x k := by
  unfold putF; split
  · rename_i e; rw [e]; exact h
  · exact Int.le_refl _
/-- Those that were gone through from i on have been raised. -/
def FarRow (r : Rl) (F0 F : Nat → Int) (i k : Int) : Prop := ∀ j : Int, j < k → hasR r i j = true → i ≠ j → F0 i.toNat + 1 ≤ F j.toNat
def FarAll (r : Rl) (F0 F : Nat → Int) (k : Int) : Prop := ∀ i : Int, i < k → FarRow r F0 F i (pts r)
def FarGe (F0 F : Nat → Int) : Prop := ∀ k, F0 k ≤ F k
theorem FarGe.refl (F : Nat → Int) : FarGe F F := fun _ => Int.le_refl _
theorem FarGe.put {F0 F : Nat → Int} {i : Nat} {x : Int} (h : FarGe F0 F) (hx : F i ≤ x) : FarGe F0 (putF F i x) := fun k => Int.le_trans (h k) (put_ge hx k)
theorem FarRow.put {r : Rl} {F0 F : Nat → Int} {i k : Int} {j : Nat} {x : Int} (h : FarRow r F0 F i k) (hx : F j ≤ x) : FarRow r F0 (putF F j x) i k := fun y h1 h2 h3 => Int.le_trans (h y h1 h2 h3) (put_ge hx _)
theorem FarAll.put {r : Rl} {F0 F : Nat → Int} {k : Int} {j : Nat} {x : Int} (h : FarAll r F0 F k) (hx : F j ≤ x) : FarAll r F0 (putF F j x) k := fun i hi => (h i hi).put hx
theorem FarRow.next {r : Rl} {F0 F : Nat → Int} {i k : Int} (h : FarRow r F0 F i k) (hk : hasR r i k = true → i ≠ k → F0 i.toNat + 1 ≤ F k.toNat) : FarRow r F0 F i (k + 1) := fun j h1 h2 h3 => by
  by_cases he : j = k
  · subst he; exact hk h2 h3
  · exact h j (by omega) h2 h3
theorem FarRow.none (r : Rl) (F0 F : Nat → Int) (i : Int) : FarRow r F0 F i 0 := fun j h1 h2 _ => by have := (hasR_bd h2).2; omega
theorem FarAll.none (r : Rl) (F0 F : Nat → Int) : FarAll r F0 F 0 := fun i hi j _ h2 _ => by have := (hasR_bd h2).1; omega
theorem FarAll.next {r : Rl} {F0 F : Nat → Int} {i k : Int} (h : FarAll r F0 F i) (hk : ¬ k < pts r) (h2 : FarRow r F0 F i k) : FarAll r F0 F (i + 1) := fun x hx => by
  by_cases he : x = i
  · subst he; exact fun j h3 h4 h5 => h2 j (by omega) h4 h5
  · exact h x (by omega)
theorem far_stepY {r : Rl} {F0 F : Nat → Int} {i k : Int} (h : FarRow r F0 F i k) (hge : FarGe F0 F) (hle : F k.toNat ≤ F i.toNat) : FarRow r F0 (putF F k.toNat (F i.toNat + 1)) i (k + 1) :=
  (h.put (by omega)).next fun _ _ => by
    have := hge i.toNat
    unfold putF; rw [if_pos rfl]; omega
theorem far_stepN {r : Rl} {F0 F : Nat → Int} {i k : Int} (h : FarRow r F0 F i k) (hge : FarGe F0 F) (hle : ¬ F k.toNat ≤ F i.toNat) : FarRow r F0 F i (k + 1) :=
  h.next fun _ _ => by have := hge i.toNat; omega
theorem far_stepR {r : Rl} {F0 F : Nat → Int} {i k : Int} (h : FarRow r F0 F i k) (hr : hasR r i k = false) : FarRow r F0 F i (k + 1) :=
  h.next fun e _ => by rw [hr] at e; cases e
theorem far_stepE {r : Rl} {F0 F : Nat → Int} {i k : Int} (h : FarRow r F0 F i k) (he : ¬ i ≠ k) : FarRow r F0 F i (k + 1) :=
  h.next fun _ e => absurd e he
/-- After k rounds all levels up to k are told. -/
def FarUp (r : Rl) (F : Nat → Int) (k : Int) : Prop := ∀ (v : Nat) (j : Int), (v : Int) ≤ k → hasB (lev r v) j = true → (v : Int) ≤ F j.toNat
theorem far_up0 {r : Rl} {F : Nat → Int} (h : FarOk r F) : FarUp r F 0 := fun v j hv hj => by
  have hp := lev_pt hj
  have := (h j hp.1 hp.2).1; omega
theorem far_upS {r : Rl} {F0 F : Nat → Int} {k i : Int} (k0 : 0 ≤ k) (h : FarUp r F0 k) (hge : FarGe F0 F) (hall : FarAll r F0 F i) (hi : ¬ i < pts r) : FarUp r F (k + 1) := fun v j hv hj => by
  by_cases hv2 : (v : Int) ≤ k
  · exact Int.le_trans (h v j hv2 hj) (hge _)
  · cases v with
    | zero => exact Int.le_trans (h 0 j k0 hj) (hge _)
    | succ v =>
      obtain ⟨h1, x, h2, h3, h4⟩ := (lev_bit v j).1 hj
      have h5 := h v x (by omega) h2
      have hb := hasR_bd h3
      have h6 := hall x (by omega) j hb.2.2 h3 (fun e => h4 e.symm)
      omega
theorem long_ref {r : Rl} (ho : orderB r = true) {F : Nat → Int} {k i best : Int} (hF : FarOk r F) (hU : FarUp r F k) (hk : ¬ k < pts r) (hi : ¬ i < pts r)
    (hb : best = 0 ∨ ∃ j : Int, 0 ≤ j ∧ j < pts r ∧ F j.toNat = best) (hm : ∀ j : Int, 0 ≤ j → j < i → F j.toNat ≤ best) (h0 : 0 ≤ best) : longV r = (best, true) := by
  obtain ⟨m, h1, h2, h3⟩ := longF_lev ho 65 0 rfl (.inl rfl)
  have h1' : longF r 65 (below (pts r)) 0 = (m : Int) := h1
  rw [longV, if_pos ho, h1']
  congr 1
  have hlow : best ≤ m := by
    rcases hb with hb | ⟨j, j0, j1, hj⟩
    · omega
    · by_cases hle : best ≤ m
      · exact hle
      · have h4 := (hF j j0 j1).2
        rw [hj] at h4
        have h5 := lev_mono (show m + 1 ≤ best.toNat by omega) h4
        rw [h2, has_zero] at h5; cases h5
  have hup : (m : Int) ≤ best := by
    rcases h3 with h3 | h3
    · omega
    · have hl := lst_pos h3
      obtain ⟨x, hx⟩ := List.exists_mem_of_length_pos hl
      have hx2 := (mem_lst _ _).1 hx
      have hp := lev_pt hx2
      have hlt := lev_lt ho hx2
      have h6 := hU m x (by omega) hx2
      have h7 := hm x hp.1 (by omega)
      omega
  omega
/-! ### Covers by definition -/
def midB (r : Rl) (i j k : Int) : Bool := (upto k).any fun x => decide (x ≠ i) && decide (x ≠ j) && hasR r i x && hasR r x j
def covP (r : Rl) (i j : Int) : Bool := decide (i ≠ j) && hasR r i j && !midB r i j (pts r)
def covsTo (r : Rl) (i k : Int) : List (Int × Int) := ((upto k).filter (covP r i ·)).map fun y => (i, y)
theorem mid_found {r : Rl} {i j k : Int} (h0 : 0 ≤ k) (hk : k < pts r) (h1 : k ≠ i) (h2 : k ≠ j) (h3 : hasR r i k = true) (h4 : hasR r k j = true) : midB r i j (pts r) = true := by
  rw [midB, List.any_eq_true]
  exact ⟨k, mem_upto.2 ⟨h0, hk⟩, by rw [decide_eq_true h1, decide_eq_true h2, h3, h4]; rfl⟩
theorem mid_none {r : Rl} {i j k : Int} (hk : ¬ k < pts r) (hf : ∀ x : Int, 0 ≤ x → x < k → ¬ (x ≠ i ∧ x ≠ j ∧ hasR r i x = true ∧ hasR r x j = true)) : midB r i j (pts r) = false := by
  rw [midB, List.any_eq_false]
  intro x hx
  have := mem_upto.1 hx
  have h := hf x this.1 (by omega)
  simp only [Bool.and_eq_true, decide_eq_true_eq]
  exact fun ⟨⟨⟨a, b⟩, c⟩, d⟩ => h ⟨a, b, c, d⟩
theorem covs_yes {r : Rl} {i k : Int} (h0 : 0 ≤ k) (h : covP r i k = true) : covsTo r i k ++ [(i, k)] = covsTo r i (k + 1) := by
  rw [covsTo, covsTo, ← upto_succ h0, List.filter_append, List.map_append]; simp [h]
theorem covs_no {r : Rl} {i k : Int} (h0 : 0 ≤ k) (h : covP r i k = false) : covsTo r i k = covsTo r i (k + 1) := by
  rw [covsTo, covsTo, ← upto_succ h0, List.filter_append, List.map_append]; simp [h]
theorem covs_len {r : Rl} {i k : Int} : (covsTo r i k).length ≤ k.toNat := by
  rw [covsTo, List.length_map]
  exact Nat.le_trans (List.length_filter_le _ _) (by rw [upto_len]; exact Nat.le_refl _)
theorem upto_sorted (k : Int) : (upto k).Pairwise (· < ·) := by
  rw [upto, List.pairwise_map]
  exact List.pairwise_lt_range.imp fun h => by omega
theorem cov_has {r : Rl} {i j : Int} (hi : 0 ≤ i ∧ i < pts r) : hasB (covS r i) j = true ↔ (hasR r i j = true ∧ j ≠ i) ∧ ¬ ∃ k : Int, (hasR r i k = true ∧ k ≠ i) ∧ (hasR r k j = true ∧ j ≠ k) := by
  have hb : hasB (covS r i) j = true ↔ hasB (strictR r i) j = true ∧ ¬ hasB (orAll (strictR r) (lst (strictR r i))) j = true := by
    rw [hasB_iff, hasB_iff, hasB_iff, covS]
    simp only [BitVec.getLsbD_and, BitVec.getLsbD_not, Bool.and_eq_true, Bool.not_eq_true', decide_eq_true_eq]
    constructor
    · rintro ⟨h, h1, h2, h3⟩; exact ⟨⟨h, h1⟩, fun h4 => by rw [h4.2] at h3; cases h3⟩
    · rintro ⟨⟨h, h1⟩, h2⟩
      refine ⟨h, h1, by omega, ?_⟩
      cases hc : (orAll (strictR r) (lst (strictR r i))).getLsbD j.toNat with
      | false => rfl
      | true => exact absurd ⟨h, hc⟩ h2
  rw [hb, strict_has hi, hasB_orAll]
  refine and_congr_right fun h => not_congr ?_
  constructor
  · rintro ⟨k, hk, h2⟩
    have h3 := (strict_has hi k).1 ((mem_lst _ _).1 hk)
    exact ⟨k, h3, (strict_has (hasR_bd h3.1).2 j).1 h2⟩
  · rintro ⟨k, hk, h2⟩
    exact ⟨k, (mem_lst _ _).2 ((strict_has hi k).2 hk), (strict_has (hasR_bd hk.1).2 j).2 h2⟩
theorem cov_p {r : Rl} {i j : Int} (hi : 0 ≤ i ∧ i < pts r) : covP r i j = true ↔ hasB (covS r i) j = true := by
  rw [cov_has hi, covP, Bool.and_eq_true, Bool.and_eq_true, decide_eq_true_eq, Bool.not_eq_true', midB, List.any_eq_false]
  constructor
  · rintro ⟨⟨h1, h2⟩, h3⟩
    refine ⟨⟨h2, fun e => h1 e.symm⟩, fun ⟨k, ⟨k1, k2⟩, k3, k4⟩ => ?_⟩
    have hb := hasR_bd k1
    refine h3 k (mem_upto.2 hb.2) ?_
    simp only [Bool.and_eq_true, decide_eq_true_eq]
    exact ⟨⟨⟨k2, fun e => k4 e.symm⟩, k1⟩, k3⟩
  · rintro ⟨⟨h1, h2⟩, h3⟩
    refine ⟨⟨fun e => h2 e.symm, h1⟩, fun k hk hc => ?_⟩
    simp only [Bool.and_eq_true, decide_eq_true_eq] at hc
    exact h3 ⟨k, ⟨hc.1.2, hc.1.1.1⟩, hc.2, fun e => hc.1.1.2 e.symm⟩
theorem covs_all {r : Rl} {i k : Int} (hi : 0 ≤ i ∧ i < pts r) (hk : k = pts r) : covsTo r i k = (lst (covS r i)).map fun y => (i, y) := by
  subst hk
  rw [covsTo]
  congr 1
  refine sorted_ext ((upto_sorted _).filter _) (lst_sorted _) fun x => ?_
  rw [List.mem_filter, mem_upto, mem_lst, cov_p hi]
  constructor
  · exact fun h => h.2
  · intro h
    have := (hasR_bd ((cov_has hi).1 h).1.1).2
    exact ⟨this, h⟩
/-! ### Relations of pairs -/
theorem addP_n (r : Rl) (p : Int × Int) : (addP r p).n = r.n := by unfold addP; split <;> rfl
theorem pts_n {a b : Rl} (h : a.n = b.n) : pts a = pts b := by unfold pts; rw [h]
theorem isP_n {a b : Rl} (h : a.n = b.n) (i : Int) : isP a i = isP b i := by unfold isP; rw [pts_n h]
theorem put_has {r : Rl} {a b i j : Int} (ha : isP r a = true) : hasR (r.put a.toNat (withB (r.up a.toNat) b)) i j = (hasR r i j || (decide (i = a ∧ j = b) && isP r i && isP r j)) := by
  have e1 : ∀ x, isP (r.put a.toNat (withB (r.up a.toNat) b)) x = isP r x := fun x => isP_n rfl x
  rw [hasR, hasR, e1, e1]
  by_cases hi : isP r i = true
  · by_cases hj : isP r j = true
    · have a1 := isP_lt ha; have i1 := isP_lt hi; have j1 := isP_lt hj
      rw [hi, hj]
      simp only [Rl.put]
      by_cases he : i = a
      · subst he
        rw [if_pos rfl, getLsbD_withB]
        have : decide (((j.toNat : Nat) : Int) = b) = decide (j = b) := by rw [Int.toNat_of_nonneg j1.1]
        rw [this, decide_eq_true (show j.toNat < 64 by omega)]
        simp
      · rw [if_neg (by omega)]
        simp [he]
    · rw [Bool.not_eq_true] at hj; rw [hj]; simp
  · rw [Bool.not_eq_true] at hi; rw [hi]; simp
theorem addP_has (r : Rl) (p : Int × Int) (i j : Int) : hasR (addP r p) i j = (hasR r i j || (decide ((i, j) = p) && isP r i && isP r j)) := by
  have hd : decide ((i, j) = p) = decide (i = p.1 ∧ j = p.2) := by
    rw [Bool.eq_iff_iff, decide_eq_true_eq, decide_eq_true_eq, Prod.ext_iff]
  rw [hd]
  by_cases h1 : isP r p.1 = true
  · by_cases h2 : isP r p.2 = true
    · rw [addP_yes h1 h2, put_has h1]
    · rw [Bool.not_eq_true] at h2
      rw [addP_no2 h2]
      by_cases he : i = p.1 ∧ j = p.2
      · rw [he.2, h2]; simp
      · rw [decide_eq_false he]; simp
  · rw [Bool.not_eq_true] at h1
    rw [addP_no1 h1]
    by_cases he : i = p.1 ∧ j = p.2
    · rw [he.1, h1]; simp
    · rw [decide_eq_false he]; simp
theorem fold_has : ∀ (l : List (Int × Int)) (r : Rl) (i j : Int), hasR (l.foldl addP r) i j = (hasR r i j || (l.contains (i, j) && isP r i && isP r j)) ∧ (l.foldl addP r).n = r.n
  | [], r, i, j => by simp
  | p :: l, r, i, j => by
    have ih := fold_has l (addP r p) i j
    rw [List.foldl_cons, ih.1, ih.2, addP_has, isP_n (addP_n r p), isP_n (addP_n r p), addP_n]
    refine ⟨?_, rfl⟩
    rw [List.contains_cons, show ((i, j) == p) = decide ((i, j) = p) by rw [Bool.eq_iff_iff]; simp]
    cases hasR r i j <;> cases decide ((i, j) = p) <;> cases l.contains (i, j) <;> cases isP r i <;> cases isP r j <;> rfl
theorem new_has (n i j : Int) : hasR (newR n) i j = false := by rw [hasR, newR]; simp
theorem new_n (n : Int) : (newR n).n = pts ⟨n, fun _ => 0#64⟩ := rfl
theorem new_pts (n : Int) : pts (newR n) = pts ⟨n, fun _ => 0#64⟩ := pts_pts
theorem of_n (n : Int) (l : List (Int × Int)) : (ofR n l).n = pts ⟨n, fun _ => 0#64⟩ := (fold_has l (newR n) 0 0).2
theorem of_pts (n : Int) (l : List (Int × Int)) : pts (ofR n l) = pts ⟨n, fun _ => 0#64⟩ := (pts_n (fold_has l (newR n) 0 0).2).trans (new_pts n)
theorem of_has (n : Int) (l : List (Int × Int)) (i j : Int) : hasR (ofR n l) i j = (l.contains (i, j) && isP (newR n) i && isP (newR n) j) := by
  rw [ofR, (fold_has l (newR n) i j).1, new_has]; simp
theorem isP_new (n i : Int) : isP (newR n) i = true ↔ 0 ≤ i ∧ i < max 0 (min n 64) := by
  rw [isP_iff, new_pts]; rfl
theorem coversL_len {r : Rl} : (coversL r).length ≤ 4096 := by
  have hp := pts_bd r
  rw [coversL]
  split
  · have := @cov_len r (pts r); omega
  · simp
/-- An order is the closure of its covers. -/
theorem cov_mem {r : Rl} {i j : Int} : (i, j) ∈ coversTo r (pts r) ↔ (0 ≤ i ∧ i < pts r) ∧ hasB (covS r i) j = true := by
  rw [coversTo, List.mem_flatMap]
  constructor
  · rintro ⟨x, hx, h⟩
    rw [List.mem_map] at h
    obtain ⟨y, hy, he⟩ := h
    injection he with e1 e2
    subst e1; subst e2
    exact ⟨mem_upto.1 hx, (mem_lst _ _).1 hy⟩
  · rintro ⟨hi, h⟩
    exact ⟨i, mem_upto.2 hi, List.mem_map.2 ⟨j, (mem_lst _ _).2 h, rfl⟩⟩
theorem up_cov {r : Rl} (ho : orderB r = true) (S : Int → Prop) (hS : ∀ i j : Int, hasB (covS r i) j = true → (0 ≤ i ∧ i < pts r) → S i → S j) : ∀ (n : Nat) (i j : Int), (lst (strictR r i)).length ≤ n → hasR r i j = true → S i → S j
  | n, i, j, hn, h, hi => by
    by_cases he : j = i
    · rw [he]; exact hi
    · have hb := hasR_bd h
      obtain ⟨m, hm, hmin⟩ := exists_min (fun x y => hasR r x y = true ∧ x ≠ y) (fun x hx => hx.2 rfl) (fun x y z h1 h2 => ⟨order_trans ho h1.1 h2.1, fun e => by
        subst e
        exact h1.2 ((order_spec ho).2 _ _ h1.1 h2.1)⟩) ((lst (strictR r i)).filter (hasR r · j)) (by
          have hjj : hasR r j j = true := by
            rw [has_closed (order_spec ho).1]; exact clo_refl hb.2
          exact List.ne_nil_of_mem (List.mem_filter.2 ⟨(mem_lst _ _).2 ((strict_has hb.1 j).2 ⟨h, he⟩), hjj⟩))
      rw [List.mem_filter, mem_lst, strict_has hb.1] at hm
      have hbm := hasR_bd hm.1.1
      have hc : hasB (covS r i) m = true := (cov_has hb.1).2 ⟨hm.1, fun ⟨k, k1, k2⟩ => by
        have hkj := order_trans ho k2.1 hm.2
        exact hmin k (List.mem_filter.2 ⟨(mem_lst _ _).2 ((strict_has hb.1 k).2 k1), hkj⟩) ⟨k2.1, fun e => k2.2 e.symm⟩⟩
      have hlt : (lst (strictR r m)).length < (lst (strictR r i)).length := by
        refine lst_lt (j := m) (fun x hx => ?_) ((strict_has hb.1 m).2 hm.1) ?_
        · have h5 := (strict_has hbm.2 x).1 hx
          refine (strict_has hb.1 x).2 ⟨order_trans ho hm.1.1 h5.1, fun e => ?_⟩
          subst e
          exact h5.2 ((order_spec ho).2 _ _ hm.1.1 h5.1)
        · cases hc2 : hasB (strictR r m) m with
          | false => rfl
          | true => exact absurd rfl ((strict_has hbm.2 m).1 hc2).2
      cases n with
      | zero => omega
      | succ n => exact up_cov ho S hS n m j (by omega) hm.2 (hS i m hc hb.1 hi)
theorem pl_n (r : Rl) : (plainR r).n = pts r := rfl
theorem cov_back {r : Rl} (ho : orderB r = true) : (plainR (cloR (ofR r.n (coversL r)))).eq (plainR r) := by
  have hn : pts (ofR r.n (coversL r)) = pts r := by rw [of_pts]; rfl
  have hl : coversL r = coversTo r (pts r) := by rw [coversL, ho]; rfl
  have heq : plainR (cloR (ofR r.n (coversL r))) = plainR r := by
    refine rl_of_has (by rw [pl_n, pl_n, clo_pts, hn]) (plain_idem _) (plain_idem _) fun i j => ?_
    rw [has_plain, has_plain, Bool.eq_iff_iff]
    have hof : ∀ x y : Int, hasR (ofR r.n (coversL r)) x y = true → hasR r x y = true := fun x y hxy => by
      rw [of_has, Bool.and_eq_true, Bool.and_eq_true, List.contains_iff_mem, hl, cov_mem] at hxy
      exact ((cov_has hxy.1.1.1).1 hxy.1.1.2).1.1
    constructor
    · intro h
      have hb := hasR_bd h
      rw [clo_pts, hn] at hb
      refine clo_least h (fun z => hasR r i z = true) (fun x y hx hxy => order_trans ho hx (hof x y hxy)) ?_
      rw [has_closed (order_spec ho).1]; exact clo_refl hb.1
    · intro h
      have hb := hasR_bd h
      refine up_cov ho (fun z => hasR (cloR (ofR r.n (coversL r))) i z = true) (fun x y hc hx hix => ?_) _ i j (Nat.le_refl _) h (clo_refl (by rw [hn]; exact hb.1))
      refine clo_trans hix (clo_base ?_)
      have hy := hasR_bd ((cov_has hx).1 hc).1.1
      rw [of_has, Bool.and_eq_true, Bool.and_eq_true, List.contains_iff_mem, hl, cov_mem, isP_new, isP_new]
      exact ⟨⟨⟨hx, hc⟩, hx⟩, hy.2⟩
  rw [heq]; exact eq_refl _
/-! ### A relation of pairs, with one more -/
def Tidy (r : Rl) : Prop := r.n = pts r ∧ ∀ i j : Nat, (r.up i).getLsbD j = true → (i : Int) < pts r ∧ (j : Int) < pts r
theorem Tidy.plain {r : Rl} (h : Tidy r) : plainR r = r := by
  obtain ⟨n, u⟩ := r
  have hn : n = pts ⟨n, u⟩ := h.1
  show (⟨pts ⟨n, u⟩, _⟩ : Rl) = ⟨n, u⟩
  rw [← hn]
  refine rl_ext fun i => eq_of_bits fun j hj => ?_
  rw [Bool.eq_iff_iff]
  by_cases hi : (i : Int) < n
  · rw [if_pos hi, row_bit, Bool.and_eq_true, decide_eq_true_eq]
    exact ⟨fun h2 => h2.1, fun h2 => ⟨h2, by omega, (h.2 i j h2).2⟩⟩
  · rw [if_neg hi]
    constructor
    · intro h2; simp at h2
    · intro h2; exact absurd (by have := (h.2 i j h2).1; rw [← hn] at this; exact this) hi
theorem tidy_new (n : Int) : Tidy (newR n) := ⟨by rw [new_pts]; rfl, fun i j h => by simp [newR] at h⟩
theorem tidy_add {r : Rl} (h : Tidy r) (p : Int × Int) : Tidy (addP r p) := by
  refine ⟨by rw [addP_n, pts_n (addP_n r p)]; exact h.1, fun i j hb => ?_⟩
  rw [pts_n (addP_n r p)]
  unfold addP at hb
  split at hb
  · rename_i hc
    rw [Bool.and_eq_true] at hc
    simp only [Rl.put] at hb
    have h1 := isP_iff.1 hc.1; have h2 := isP_iff.1 hc.2
    split at hb
    · rename_i he
      rw [getLsbD_withB, Bool.or_eq_true, Bool.and_eq_true, decide_eq_true_eq, decide_eq_true_eq] at hb
      rcases hb with hb | hb
      · have := h.2 _ _ hb; omega
      · omega
    · exact h.2 i j hb
  · exact h.2 i j hb
theorem tidy_fold : ∀ (l : List (Int × Int)) {r : Rl}, Tidy r → Tidy (l.foldl addP r)
  | [], _, h => h
  | p :: l, _, h => tidy_fold l (tidy_add h p)
theorem plain_of (n : Int) (l : List (Int × Int)) : plainR (ofR n l) = ofR n l := (tidy_fold l (tidy_new n)).plain
theorem with_of (n : Int) (l : List (Int × Int)) (a b : Int) : withR (ofR n l) a b = ofR n (l ++ [(a, b)]) := by
  have h : ofR n (l ++ [(a, b)]) = addP (ofR n l) (a, b) := by rw [ofR, ofR, List.foldl_append]; rfl
  rw [h, withR, plain_of, addP]
theorem of_new (n : Int) (l : List (Int × Int)) : (newR n).eq ⟨(ofR n l).n, fun _ => 0#64⟩ := ⟨by rw [of_n]; rfl, fun _ _ => rfl⟩
/-- Is a pair one of a relation's points? -/
def inQ (n : Int) (q : Int × Int) : Bool := decide (0 ≤ q.1 ∧ 0 ≤ q.2 ∧ q.1 < pts ⟨n, fun _ => 0#64⟩ ∧ q.2 < pts ⟨n, fun _ => 0#64⟩)
def inR (r : Rl) (q : Int × Int) : Bool := decide (0 ≤ q.1 ∧ 0 ≤ q.2 ∧ q.1 < pts r ∧ q.2 < pts r)
theorem inR_of (n : Int) (l : List (Int × Int)) (q : Int × Int) : inR (ofR n l) q = inQ n q := by rw [inR, inQ, of_pts]
theorem inQ_new (n a b : Int) : (isP (newR n) a && isP (newR n) b) = inQ n (a, b) := by
  rw [inQ, isP, isP, new_pts, Bool.eq_iff_iff, Bool.and_eq_true, decide_eq_true_eq, decide_eq_true_eq, decide_eq_true_eq]
  constructor
  · rintro ⟨⟨h1, h2⟩, h3, h4⟩; exact ⟨h1, h3, h2, h4⟩
  · rintro ⟨h1, h2, h3, h4⟩; exact ⟨⟨h1, h3⟩, h2, h4⟩
def wantTo (n : Int) (p : Int × Int) (l : List (Int × Int)) (k : Int) : Bool := (l.take k.toNat).any fun q => decide (q = p) && inQ n q
theorem want_next {n : Int} {p : Int × Int} {l : List (Int × Int)} {k : Int} (h0 : 0 ≤ k) (h : k < l.length) : wantTo n p l (k + 1) = (wantTo n p l k || (decide (l.getD k.toNat (0, 0) = p) && inQ n (l.getD k.toNat (0, 0)))) := by
  rw [wantTo, wantTo, show (k + 1).toNat = k.toNat + 1 by omega, List.take_add_one, List.any_append, List.getElem?_eq_getElem (by omega : k.toNat < l.length), List.getD_eq_getElem?_getD, List.getElem?_eq_getElem (by omega : k.toNat < l.length)]
  simp
theorem want_t {n : Int} {p : Int × Int} {l : List (Int × Int)} {k : Int} (h0 : 0 ≤ k) (h : k < l.length) (h1 : wantTo n p l k = true) : true = wantTo n p l (k + 1) := by rw [want_next h0 h, h1]; rfl
theorem want_e {n : Int} {p : Int × Int} {l : List (Int × Int)} {k : Int} (h0 : 0 ≤ k) (h : k < l.length) (h1 : wantTo n p l k = false) (e : l.getD k.toNat (0, 0) = p) : inR (ofR n l) (l.getD k.toNat (0, 0)) = wantTo n p l (k + 1) := by
  rw [want_next h0 h, h1, decide_eq_true e, inR_of]; simp
theorem want_n {n : Int} {p : Int × Int} {l : List (Int × Int)} {k : Int} (h0 : 0 ≤ k) (h : k < l.length) (h1 : wantTo n p l k = false) (e : ¬ l.getD k.toNat (0, 0) = p) : false = wantTo n p l (k + 1) := by
  rw [want_next h0 h, h1, decide_eq_false e]; rfl
theorem of_want (n : Int) (l : List (Int × Int)) (p : Int × Int) {k : Int} (hk : ¬ k < l.length) : hasR (ofR n l) p.1 p.2 = wantTo n p l k := by
  rw [of_has, Bool.and_assoc, inQ_new, wantTo, List.take_of_length_le (by omega)]
  rw [Bool.eq_iff_iff, Bool.and_eq_true, List.contains_iff_mem, List.any_eq_true]
  constructor
  · rintro ⟨h1, h2⟩; exact ⟨_, h1, by simp [h2]⟩
  · rintro ⟨q, h1, h2⟩
    rw [Bool.and_eq_true, decide_eq_true_eq] at h2
    obtain ⟨e, h3⟩ := h2
    subst e; exact ⟨h1, h3⟩
theorem of_in (n : Int) (l : List (Int × Int)) (p : Int × Int) : hasR (ofR n (l ++ [p])) p.1 p.2 = inQ n p := by
  rw [of_has, Bool.and_assoc, inQ_new]; simp
end Go.Proofs.YtieckcbckgalhaaGreatDoor.M
