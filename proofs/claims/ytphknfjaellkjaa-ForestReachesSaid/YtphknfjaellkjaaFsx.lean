/-
  Forests, plainly: words that are put one after the other; a union; times that are undone.
-/
import Derived.Test.YtphknfjaellkjaaFsv
namespace Go.Proofs.Ytphknfjaellkjaa.M
open Go
set_option linter.unusedVariables false
set_option linter.unusedSimpArgs false
structure Later (W : List (BitVec 64)) (us : List Und) (W' : List (BitVec 64)) (us' : List Und) : Prop where
  le : us.length ≤ us'.length
  und : ∀ t, t ≤ us.length → undTo W' us' t = undTo W us t ∧ us'.take t = us.take t
  ok : okU W.length us → okU W'.length us'
section
variable {W W' W2 : List (BitVec 64)} {us us' us2 : List Und} {i : Nat} {b : BitVec 64}
theorem Later.refl : Later W us W us := ⟨Nat.le_refl _, fun t _ => ⟨rfl, rfl⟩, fun h => h⟩
theorem Later.trans (h : Later W us W' us') (h2 : Later W' us' W2 us2) : Later W us W2 us2 :=
  ⟨Nat.le_trans h.le h2.le, fun t ht => by
    have a := h.und t ht; have c := h2.und t (Nat.le_trans ht h.le)
    exact ⟨c.1.trans a.1, c.2.trans a.2⟩, fun q => h2.ok (h.ok q)⟩
theorem Later.set (hi : i < W.length) : Later W us (W.set i b) (setU W us i b) :=
  ⟨(setU_und hi (Nat.le_refl _)).2.2, fun t ht => ⟨(setU_und hi ht).1, (setU_und hi ht).2.1⟩, setU_ok hi⟩
theorem Later.add : Later W us (W ++ [b]) (us ++ [.add W.length]) :=
  ⟨by simp, fun t ht => ⟨by rw [undTo_snoc ht]; show undTo ((W ++ [b]).take W.length) us t = _; rw [List.take_left], take_snocU ht⟩, fun h => by rw [okU_snoc]; exact ⟨by simp, h⟩⟩
theorem Later.back (h : Later W us W' us') : undTo W' us' us.length = W ∧ us'.take us.length = us := by
  have := h.und us.length (Nat.le_refl _)
  rw [undTo_len, List.take_length] at this; exact this
end
def stUp (nd : List Fnd) (i x : Nat) : List Fnd := nd.set i { nd.getD i fnd0 with up := x }
def stSz (nd : List Fnd) (i x : Nat) : List Fnd := nd.set i { nd.getD i fnd0 with size := x }
def stNx (nd : List Fnd) (i x : Nat) : List Fnd := nd.set i { nd.getD i fnd0 with next := x }
def stLe (nd : List Fnd) (i x : Nat) : List Fnd := nd.set i { nd.getD i fnd0 with least := x }
section
variable {nd : List Fnd} {cl : List Nat} {i x a b : Nat}
theorem fw_up (h : i < nd.length) : (wordsN nd).set (4 * i + 0) (BitVec.ofNat 64 x) = wordsN (stUp nd i x) := wordsN_set nd h (by omega) rfl
theorem fw_sz (h : i < nd.length) : (wordsN nd).set (4 * i + 1) (BitVec.ofNat 64 x) = wordsN (stSz nd i x) := wordsN_set nd h (by omega) rfl
theorem fw_nx (h : i < nd.length) : (wordsN nd).set (4 * i + 2) (BitVec.ofNat 64 x) = wordsN (stNx nd i x) := wordsN_set nd h (by omega) rfl
theorem fw_le (h : i < nd.length) : (wordsN nd).set (4 * i + 3) (BitVec.ofNat 64 x) = wordsN (stLe nd i x) := wordsN_set nd h (by omega) rfl
theorem fr_up (h : i < nd.length) : (wordsN nd).getD (4 * i + 0) 0 = BitVec.ofNat 64 (upF nd i) := wordsN_get nd h (by omega)
theorem fr_sz (h : i < nd.length) : (wordsN nd).getD (4 * i + 1) 0 = BitVec.ofNat 64 (szF nd i) := wordsN_get nd h (by omega)
theorem fr_nx (h : i < nd.length) : (wordsN nd).getD (4 * i + 2) 0 = BitVec.ofNat 64 (nxF nd i) := wordsN_get nd h (by omega)
theorem fr_le (h : i < nd.length) : (wordsN nd).getD (4 * i + 3) 0 = BitVec.ofNat 64 (leF nd i) := wordsN_get nd h (by omega)
theorem int_small {n : Nat} (h : n < 9223372036854775808) : (BitVec.ofNat 64 n).toInt = (n : Int) := by
  rw [BitVec.toInt_eq_toNat_cond, BitVec.toNat_ofNat, Nat.mod_eq_of_lt (by omega), if_pos (by omega)]
theorem ofInt_nat (n : Nat) : BitVec.ofInt 64 (n : Int) = BitVec.ofNat 64 n := by simp
theorem ext_nd {l m : List Fnd} (hl : l.length = m.length) (h : ∀ i, i < l.length → l.getD i fnd0 = m.getD i fnd0) : l = m := by
  apply List.ext_getElem hl
  intro i h1 h2
  have := h i h1
  rwa [List.getD_eq_getElem?_getD, List.getD_eq_getElem?_getD, List.getElem?_eq_getElem h1, List.getElem?_eq_getElem h2] at this
theorem union_is (ha : a < nd.length) (hb : b < nd.length) (hab : a ≠ b) : stNx (stNx (stLe (stSz (stUp nd b a) a (szF nd a + szF nd b)) a (min (leF nd a) (leF nd b))) a (nxF nd b)) b (nxF nd a) = joinN nd a b := by
  have hba : ¬ b = a := fun e => hab e.symm
  refine ext_nd (by simp [stNx, stLe, stSz, stUp, joinN]) fun i hi => ?_
  have hi' : i < nd.length := by simpa [stNx, stLe, stSz, stUp] using hi
  unfold stNx stLe stSz stUp joinN
  simp only [getD_set, List.length_set, ha, hb, and_true]
  by_cases h1 : i = a
  · subst h1; simp [hab, upF]
  · by_cases h2 : i = b
    · subst h2; simp [h1, hba, szF, leF]
    · simp [h1, h2]
theorem joinC_comm (cl : List Nat) (x y : Nat) : joinC cl x y = joinC cl y x := by
  unfold joinC
  apply List.map_congr_left
  intro c _
  unfold mixC
  by_cases h : c = x ∨ c = y
  · rw [if_pos h, if_pos (by omega)]; omega
  · rw [if_neg h, if_neg (by omega)]
theorem Fo.szb (h : Fo nd cl) (hi : i < nd.length) : upF nd i < nd.length ∧ szF nd i ≤ nd.length ∧ ∃ t, Ring (nxF nd) i t ∧ nxF nd i < nd.length := by
  refine ⟨h.up i hi, h.sn i hi, ?_⟩
  obtain ⟨t, ht, hm⟩ := h.ring i hi
  refine ⟨t, ht, ?_⟩
  have h1 := ht.1
  cases t with
  | nil => have : nxF nd i = i := h1; omega
  | cons z t => have : nxF nd i = z := h1.1; rw [this]; exact ((hm z).1 (by simp)).1
theorem Fo.root_ex (h : Fo nd cl) : ∀ d i, i < nd.length → nd.length - szF nd i ≤ d → ∃ r, r < nd.length ∧ upF nd r = r ∧ clF cl r = clF cl i := by
  intro d
  induction d with
  | zero =>
    intro i hi hd
    refine ⟨i, hi, Decidable.byContradiction fun q => ?_, rfl⟩
    have := h.sz i hi q; have := h.sn _ (h.up i hi); omega
  | succ d ih =>
    intro i hi hd
    by_cases q : upF nd i = i
    · exact ⟨i, hi, q, rfl⟩
    · have h1 := h.sz i hi q; have h2 := h.sn _ (h.up i hi)
      obtain ⟨r, r1, r2, r3⟩ := ih (upF nd i) (h.up i hi) (by omega)
      exact ⟨r, r1, r2, r3.trans (h.uc i hi)⟩
open Classical in
noncomputable def rootC (nd : List Fnd) (cl : List Nat) (i : Nat) : Nat := if h : ∃ r, r < nd.length ∧ upF nd r = r ∧ clF cl r = clF cl i then h.choose else 0
theorem rootC_is (h : Fo nd cl) (hi : i < nd.length) : rootC nd cl i < nd.length ∧ upF nd (rootC nd cl i) = rootC nd cl i ∧ clF cl (rootC nd cl i) = clF cl i := by
  have he := h.root_ex _ i hi (Nat.le_refl _)
  rw [rootC, dif_pos he]; exact he.choose_spec
theorem rootC_eq (h : Fo nd cl) (hi : i < nd.length) {r : Nat} (h1 : r < nd.length) (h2 : upF nd r = r) (h3 : clF cl r = clF cl i) : r = rootC nd cl i := by
  obtain ⟨a, b, c⟩ := rootC_is h hi
  exact h.one _ _ h1 a h2 b (h3.trans c.symm)
theorem find_is (h : Fo nd cl) {j : Int} (h0 : 0 ≤ j) (h1 : j < nd.length) : (leF nd (rootC nd cl j.toNat) : Int) = findR cl j := by
  have hi : j.toNat < nd.length := by omega
  obtain ⟨a, b, c⟩ := rootC_is h hi
  rw [h.le _ a b, c, findR_in (by have := h.len; omega)]
theorem find_none (h : Fo nd cl) {j : Int} (h0 : ¬ (0 ≤ j ∧ j < nd.length)) : (-1 : Int) = findR cl j := by
  rw [findR_out (by have := h.len; omega)]
theorem cell_is (h : Fo nd cl) (hn : nd.length ≤ 1000000) {j : Nat} (hj : j < nd.length) (k : Int) (v : Nat) (hk : 0 ≤ k ∧ k < 4) (hv : (wordsN nd).getD (4 * j + k.toNat) 0 = BitVec.ofNat 64 v) (hs : v ≤ nd.length) : ((wordsN nd).getD (4 * (j : Int) + k).toNat 0).toInt = (v : Int) := by
  rw [show (4 * (j : Int) + k).toNat = 4 * j + k.toNat by omega, hv, int_small (by omega)]
theorem cell_up (h : Fo nd cl) (hn : nd.length ≤ 1000000) {j : Nat} (hj : j < nd.length) : ((wordsN nd).getD (4 * (j : Int) + 0).toNat 0).toInt = (upF nd j : Int) :=
  cell_is h hn hj 0 _ ⟨by omega, by omega⟩ (fr_up hj) (by have := h.up j hj; omega)
theorem cell_nx (h : Fo nd cl) (hn : nd.length ≤ 1000000) {j : Nat} (hj : j < nd.length) : ((wordsN nd).getD (4 * (j : Int) + 2).toNat 0).toInt = (nxF nd j : Int) :=
  cell_is h hn hj 2 _ ⟨by omega, by omega⟩ (fr_nx hj) (by obtain ⟨_, _, t, _, q⟩ := h.szb hj; omega)
theorem cell_le (h : Fo nd cl) (hn : nd.length ≤ 1000000) {j : Nat} (hj : j < nd.length) (hu : upF nd j = j) : ((wordsN nd).getD (4 * (j : Int) + 3).toNat 0).toInt = (leF nd j : Int) :=
  cell_is h hn hj 3 _ ⟨by omega, by omega⟩ (fr_le hj) (by rw [h.le j hj hu]; have := (h.lc j hj).1; omega)
theorem find_cell (h : Fo nd cl) (hn : nd.length ≤ 1000000) {j : Int} (h0 : 0 ≤ j ∧ j < nd.length) : ((wordsN nd).getD (4 * ((rootC nd cl j.toNat : Nat) : Int) + 3).toNat 0).toInt = findR cl j := by
  obtain ⟨a, b, c⟩ := rootC_is h (i := j.toNat) (by omega)
  rw [cell_le h hn a b]; exact find_is h h0.1 h0.2
theorem ring_len {n : Nat} {l : List Nat} (hd : l.Nodup) (h : ∀ k ∈ l, k < n) : l.length ≤ n := by
  have := sub_len hd (m := List.range n) fun x hx => List.mem_range.2 (h x hx)
  rwa [List.length_range] at this
theorem class_step {t o m : List Nat} {i : Int} {a : Nat} (ht : Ring (nxF nd) i.toNat t) (hmt : ∀ k, k ∈ i.toNat :: t ↔ k < nd.length ∧ clF cl k = clF cl i.toNat) (he : i.toNat :: t = o ++ a :: m) (hne : nxF nd a ≠ i.toNat) :
    i.toNat :: t = (o ++ [a]) ++ nxF nd a :: m.tail ∧ nxF nd a < nd.length ∧ (o ++ [a]).length + 1 ≤ (i.toNat :: t).length ∧ m.tail.length < m.length := by
  rcases ring_step ht he with ⟨_, q⟩ | ⟨z, m', rfl, q, _⟩
  · exact absurd q hne
  · have e : i.toNat :: t = (o ++ [a]) ++ nxF nd a :: (z :: m').tail := by rw [he, q]; simp
    refine ⟨e, ((hmt _).1 (by rw [e]; simp)).1, by rw [e]; simp; omega, by simp⟩
def classI (cl : List Nat) (i : Int) : List Int := if 0 ≤ i ∧ i < cl.length then (classR cl i.toNat).map Int.ofNat else []
theorem classI_no (h : Fo nd cl) {i : Int} (hi : ¬ (0 ≤ i ∧ i < nd.length)) : classI cl i = [] := if_neg (by have := h.len; omega)
theorem classI_yes (h : Fo nd cl) {i : Int} (hi : 0 ≤ i ∧ i < nd.length) {t o m : List Nat} {a : Nat} (ht : Ring (nxF nd) i.toNat t) (hmt : ∀ k, k ∈ i.toNat :: t ↔ k < nd.length ∧ clF cl k = clF cl i.toNat) (he : i.toNat :: t = o ++ a :: m) (hx : nxF nd a = i.toNat) :
    (((o ++ [a]).map Int.ofNat).mergeSort fun x y => decide (x ≤ y)) = classI cl i := by
  have hm : m = [] := by
    rcases ring_step ht he with ⟨q, _⟩ | ⟨z, m', _, q, q2⟩
    · exact q
    · exact absurd (q.symm.trans hx) q2
  subst hm
  rw [classI, if_pos (by have := h.len; omega)]
  refine sorted_class h (by omega) ht hmt ?_ ?_
  · rw [he]; exact List.mergeSort_perm _ _
  · have := List.pairwise_mergeSort (le := fun x y : Int => decide (x ≤ y)) (fun a b c h1 h2 => by simp at *; omega) (fun a b => by simp; omega) ((o ++ [a]).map Int.ofNat)
    exact this.imp fun q => by simpa using q
end
theorem szF_stUp {nd : List Fnd} {i x j : Nat} : szF (stUp nd i x) j = szF nd j := by
  unfold szF stUp; rw [getD_set]; split
  · rename_i h; rw [h.1]
  · rfl
theorem nxF_stUp {nd : List Fnd} {i x j : Nat} : nxF (stUp nd i x) j = nxF nd j := by
  unfold nxF stUp; rw [getD_set]; split
  · rename_i h; rw [h.1]
  · rfl
theorem leF_stUp {nd : List Fnd} {i x j : Nat} : leF (stUp nd i x) j = leF nd j := by
  unfold leF stUp; rw [getD_set]; split
  · rename_i h; rw [h.1]
  · rfl
theorem nxF_stSz {nd : List Fnd} {i x j : Nat} : nxF (stSz nd i x) j = nxF nd j := by
  unfold nxF stSz; rw [getD_set]; split
  · rename_i h; rw [h.1]
  · rfl
theorem leF_stSz {nd : List Fnd} {i x j : Nat} : leF (stSz nd i x) j = leF nd j := by
  unfold leF stSz; rw [getD_set]; split
  · rename_i h; rw [h.1]
  · rfl
theorem nxF_stLe {nd : List Fnd} {i x j : Nat} : nxF (stLe nd i x) j = nxF nd j := by
  unfold nxF stLe; rw [getD_set]; split
  · rename_i h; rw [h.1]
  · rfl
theorem word_is {nd : List Fnd} {j : Nat} {k : Int} {v : Nat} (hk : 0 ≤ k ∧ k < 4) (hv : (wordsN nd).getD (4 * j + k.toNat) 0 = BitVec.ofNat 64 v) (hs : v ≤ 1000000) : ((wordsN nd).getD (4 * (j : Int) + k).toNat 0).toInt = (v : Int) := by
  rw [show (4 * (j : Int) + k).toNat = 4 * j + k.toNat by omega, hv, int_small (by omega)]
theorem put_up {nd : List Fnd} {i x : Nat} (h : i < nd.length) : (wordsN nd).set (4 * (i : Int) + 0).toNat (BitVec.ofInt 64 (x : Int)) = wordsN (stUp nd i x) := by
  rw [show (4 * (i : Int) + 0).toNat = 4 * i + 0 by omega, ofInt_nat]; exact fw_up h
theorem put_sz {nd : List Fnd} {i x : Nat} (h : i < nd.length) : (wordsN nd).set (4 * (i : Int) + 1).toNat (BitVec.ofInt 64 (x : Int)) = wordsN (stSz nd i x) := by
  rw [show (4 * (i : Int) + 1).toNat = 4 * i + 1 by omega, ofInt_nat]; exact fw_sz h
theorem put_nx {nd : List Fnd} {i x : Nat} (h : i < nd.length) : (wordsN nd).set (4 * (i : Int) + 2).toNat (BitVec.ofInt 64 (x : Int)) = wordsN (stNx nd i x) := by
  rw [show (4 * (i : Int) + 2).toNat = 4 * i + 2 by omega, ofInt_nat]; exact fw_nx h
theorem put_le {nd : List Fnd} {i x : Nat} (h : i < nd.length) : (wordsN nd).set (4 * (i : Int) + 3).toNat (BitVec.ofInt 64 (x : Int)) = wordsN (stLe nd i x) := by
  rw [show (4 * (i : Int) + 3).toNat = 4 * i + 3 by omega, ofInt_nat]; exact fw_le h
end Go.Proofs.Ytphknfjaellkjaa.M
