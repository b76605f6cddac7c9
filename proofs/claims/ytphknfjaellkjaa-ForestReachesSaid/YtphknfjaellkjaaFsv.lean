/-
  Forests, plainly: all times at once; what calls make of them; sorted classes.
-/
import Derived.Test.YtphknfjaellkjaaFsu
namespace Go.Proofs.Ytphknfjaellkjaa.M
open Go
set_option linter.unusedVariables false
set_option linter.unusedSimpArgs false
def cntStep (cl c2 : List Nat) : Prop := (cl.length = c2.length + 1 ∧ leads cl = leads c2 + 1) ∨ (cl.length = c2.length ∧ leads cl + 1 = leads c2)
def Hs : List (BitVec 64) → List Und → List Nat → List (List Nat) → Prop
  | W, us, [], [cl] => us = [] ∧ cl = [] ∧ W = []
  | W, us, t :: ts, cl :: c2 :: cs => (∃ nd, W = wordsN nd ∧ Fo nd cl) ∧ t ≤ us.length ∧ cntStep cl c2 ∧ Hs (undTo W us t) (us.take t) ts (c2 :: cs)
  | _, _, _, _ => False
section
variable {W : List (BitVec 64)} {us : List Und} {t : Nat} {ts : List Nat} {cl c2 : List Nat} {cs : List (List Nat)} {nd : List Fnd}
theorem Hs.ne (h : Hs W us ts []) : False := by cases ts <;> exact h
theorem Hs.now (h : Hs W us ts (cl :: cs)) : ∃ nd, W = wordsN nd ∧ Fo nd cl := by
  cases ts with
  | nil =>
    cases cs with
    | nil => obtain ⟨_, rfl, rfl⟩ := h; exact ⟨[], rfl, Fo.nil⟩
    | cons c cs => exact h.elim
  | cons t ts =>
    cases cs with
    | nil => exact h.elim
    | cons c cs => exact h.1
theorem Hs.len (h : Hs W us ts cs) : cs.length = ts.length + 1 := by
  induction ts generalizing W us cs with
  | nil =>
    cases cs with
    | nil => exact h.elim
    | cons c cs => cases cs with
      | nil => rfl
      | cons c2 cs => exact h.elim
  | cons t ts ih =>
    cases cs with
    | nil => exact h.elim
    | cons c cs => cases cs with
      | nil => exact h.elim
      | cons c2 cs => have := ih h.2.2.2; simp only [List.length_cons] at this ⊢; omega
theorem Hs.start : Hs [] [] [] [[]] := ⟨rfl, rfl, rfl⟩
theorem Hs.more {W' : List (BitVec 64)} {us' : List Und} {nd' : List Fnd} {cl' : List Nat} (h : Hs W us ts (cl :: cs)) (hw : W' = wordsN nd') (hf : Fo nd' cl') (hs : cntStep cl' cl) (h1 : undTo W' us' us.length = W) (h2 : us'.take us.length = us) (h3 : us.length ≤ us'.length) : Hs W' us' (us.length :: ts) (cl' :: cl :: cs) :=
  ⟨⟨nd', hw, hf⟩, h3, hs, by rw [h1, h2]; exact h⟩
theorem Hs.back (h : Hs W us (t :: ts) (cl :: c2 :: cs)) : Hs (undTo W us t) (us.take t) ts (c2 :: cs) := h.2.2.2
theorem Hs.le (h : Hs W us (t :: ts) (cl :: c2 :: cs)) : t ≤ us.length := h.2.1
theorem Hs.cnt (h : Hs W us (t :: ts) (cl :: c2 :: cs)) : cntStep cl c2 := h.2.2.1
end
theorem okU_take {W : List (BitVec 64)} {us : List Und} (h : okU W.length us) {t : Nat} (ht : t ≤ us.length) : okU (undTo W us t).length (us.take t) := by
  have key : ∀ d, ∀ t, t + d = us.length → okU (undTo W us t).length (us.take t) := by
    intro d
    induction d with
    | zero => intro t e; rw [show t = us.length by omega, undTo_len, List.take_length]; exact h
    | succ d ih =>
      intro t e
      have h2 := ih (t + 1) (by omega)
      have ht : t < us.length := by omega
      rw [List.take_add_one, List.getElem?_eq_getElem ht] at h2
      rw [undTo_step ht]
      exact und1_len h2
  exact key (us.length - t) t (by omega)
def addU (us : List Und) (n : Nat) : List Und := us ++ [.add n] ++ [.add (n + 1)] ++ [.add (n + 2)] ++ [.add (n + 3)]
theorem addU_is {W : List (BitVec 64)} {us : List Und} {a b c d : BitVec 64} : undTo (W ++ [a] ++ [b] ++ [c] ++ [d]) (addU us W.length) us.length = W ∧ (addU us W.length).take us.length = us ∧ us.length ≤ (addU us W.length).length := by
  refine ⟨?_, ?_, ?_⟩
  · unfold addU
    rw [undTo_snoc (by simp only [List.length_append]; omega), undTo_snoc (by simp only [List.length_append]; omega), undTo_snoc (by simp), undTo_snoc (Nat.le_refl _), undTo_len]
    simp only [und1, List.append_assoc, List.take_take]
    rw [show min W.length (min (W.length + 1) (min (W.length + 2) (W.length + 3))) = W.length by omega, List.take_left]
  · unfold addU; simp
  · unfold addU; simp only [List.length_append]; omega
theorem addU_ok {W : List (BitVec 64)} {us : List Und} {a b c d : BitVec 64} (h : okU W.length us) : okU (W ++ [a] ++ [b] ++ [c] ++ [d]).length (addU us W.length) := by
  unfold addU
  rw [okU_snoc]; refine ⟨by simp, ?_⟩
  have e1 : (W ++ [a] ++ [b] ++ [c]).length = W.length + 3 := by simp
  have e2 : (W ++ [a] ++ [b]).length = W.length + 2 := by simp
  have e3 : (W ++ [a]).length = W.length + 1 := by simp
  rw [← e1, okU_snoc]; refine ⟨by simp, ?_⟩
  rw [← e2, okU_snoc]; refine ⟨by simp, ?_⟩
  rw [← e3, okU_snoc]; exact ⟨by simp, h⟩
/-! ### The answers -/
def findR (cl : List Nat) (i : Int) : Int := if 0 ≤ i ∧ i < cl.length then (clF cl i.toNat : Int) else -1
def unionR (cs : List (List Nat)) (cl : List Nat) (i j : Int) : List (List Nat) × Bool :=
  if findR cl i < 0 ∨ findR cl j < 0 ∨ findR cl i = findR cl j then (cl :: cs, false) else (joinC cl (findR cl i).toNat (findR cl j).toNat :: cl :: cs, true)
theorem findR_in {cl : List Nat} {i : Int} (h : 0 ≤ i ∧ i < cl.length) : findR cl i = (clF cl i.toNat : Int) := if_pos h
theorem findR_out {cl : List Nat} {i : Int} (h : ¬ (0 ≤ i ∧ i < cl.length)) : findR cl i = -1 := if_neg h
theorem root_up {nd : List Fnd} {cl : List Nat} (h : Fo nd cl) {i k : Nat} (hi : i < nd.length) (hc : clF cl i = clF cl k) : upF nd i < nd.length ∧ clF cl (upF nd i) = clF cl k ∧ (upF nd i ≠ i → nd.length - szF nd (upF nd i) < nd.length - szF nd i) :=
  ⟨h.up i hi, (h.uc i hi).trans hc, fun q => by have := h.sz i hi q; have := h.sn _ (h.up i hi); omega⟩
theorem root_same {nd : List Fnd} {cl : List Nat} (h : Fo nd cl) {i j a b : Nat} (ha : a < nd.length) (hb : b < nd.length) (ua : upF nd a = a) (ub : upF nd b = b) (ca : clF cl a = clF cl i) (cb : clF cl b = clF cl j) : a = b ↔ clF cl i = clF cl j :=
  ⟨fun e => by rw [← ca, ← cb, e], fun e => h.one a b ha hb ua ub (by rw [ca, cb, e])⟩
/-! ### Sorted classes -/
def classR (cl : List Nat) (i : Nat) : List Nat := (List.range cl.length).filter fun k => clF cl i == clF cl k
theorem class_mem {cl : List Nat} {i k : Nat} : k ∈ classR cl i ↔ k < cl.length ∧ clF cl k = clF cl i := by
  rw [classR, List.mem_filter, List.mem_range, beq_iff_eq]
  exact ⟨fun h => ⟨h.1, h.2.symm⟩, fun h => ⟨h.1, h.2.symm⟩⟩
theorem rising_eq {l m : List Int} (hl : l.Pairwise (· < ·)) (hm : m.Pairwise (· < ·)) (h : ∀ x, x ∈ l ↔ x ∈ m) : l = m := by
  induction l generalizing m with
  | nil => cases m with
    | nil => rfl
    | cons b m => have := (h b).2 (by simp); cases this
  | cons a l ih =>
    cases m with
    | nil => have := (h a).1 (by simp); cases this
    | cons b m =>
      have pa := List.pairwise_cons.1 hl; have pb := List.pairwise_cons.1 hm
      have hab : a = b := by
        rcases List.mem_cons.1 ((h a).1 (by simp)) with q | q
        · exact q
        · rcases List.mem_cons.1 ((h b).2 (by simp)) with r | r
          · exact r.symm
          · have := pb.1 a q; have := pa.1 b r; omega
      subst hab
      congr 1
      refine ih pa.2 pb.2 fun x => ?_
      have := h x
      simp only [List.mem_cons] at this
      constructor
      · intro q
        rcases this.1 (.inr q) with r | r
        · have := pa.1 x q; omega
        · exact r
      · intro q
        rcases this.2 (.inr q) with r | r
        · have := pb.1 x q; omega
        · exact r
theorem sorted_class {nd : List Fnd} {cl : List Nat} (h : Fo nd cl) {i : Nat} (hi : i < nd.length) {t : List Nat} (ht : Ring (nxF nd) i t) (hm : ∀ k, k ∈ i :: t ↔ k < nd.length ∧ clF cl k = clF cl i) {zs : List Int} (hp : zs.Perm ((i :: t).map Int.ofNat)) (hs : zs.Pairwise (· ≤ ·)) : zs = (classR cl i).map Int.ofNat := by
  have hn : ((i :: t).map Int.ofNat).Nodup := by
    unfold List.Nodup
    rw [List.pairwise_map]
    exact ht.2.imp fun q e => q (by exact Int.ofNat.inj e)
  refine rising_eq ?_ ?_ fun x => ?_
  · have hz : zs.Nodup := hp.nodup_iff.2 hn
    have := List.Pairwise.and hs hz
    exact this.imp fun q => by omega
  · unfold classR
    rw [List.pairwise_map]
    exact (List.pairwise_lt_range.filter _).imp fun q => by simpa using q
  · rw [hp.mem_iff, List.mem_map, List.mem_map]
    constructor
    · rintro ⟨k, hk, rfl⟩; exact ⟨k, class_mem.2 (by rw [h.len]; exact (hm k).1 hk), rfl⟩
    · rintro ⟨k, hk, rfl⟩; exact ⟨k, (hm k).2 (by rw [← h.len]; exact class_mem.1 hk), rfl⟩
end Go.Proofs.Ytphknfjaellkjaa.M
