/-
  Forests, plainly: what undoes them; how many classes there are; whom a ring holds.
-/
import Derived.Test.YtphknfjaellkjaaFst
namespace Go.Proofs.Ytphknfjaellkjaa.M
open Go
set_option linter.unusedVariables false
set_option linter.unusedSimpArgs false
inductive Und
  | add (n : Nat)
  | set (i : Nat) (was : BitVec 64)
def und1 (W : List (BitVec 64)) : Und → List (BitVec 64)
  | .add n => W.take n
  | .set i was => W.set i was
def undAll (W : List (BitVec 64)) (us : List Und) : List (BitVec 64) := us.foldr (fun u w => und1 w u) W
def undTo (W : List (BitVec 64)) (us : List Und) (t : Nat) : List (BitVec 64) := undAll W (us.drop t)
def okR : Nat → List Und → Prop
  | _, [] => True
  | L, .add n :: r => n ≤ L ∧ okR n r
  | L, .set i _ :: r => i < L ∧ okR L r
def okU (L : Nat) (us : List Und) : Prop := okR L us.reverse
section
variable {W : List (BitVec 64)} {us : List Und} {u : Und} {t k : Nat}
theorem undTo_len : undTo W us us.length = W := by simp [undTo, undAll]
theorem undTo_snoc (h : t ≤ us.length) : undTo W (us ++ [u]) t = undTo (und1 W u) us t := by
  rw [undTo, undTo, List.drop_append_of_le_length h, undAll, List.foldr_append]; rfl
theorem take_snocU (h : t ≤ us.length) : (us ++ [u]).take t = us.take t := List.take_append_of_le_length h
theorem undTo_step (h : k < us.length) : undTo W us k = und1 (undTo W us (k + 1)) us[k] := by
  rw [undTo, undTo, List.drop_eq_getElem_cons h]; rfl
theorem okU_snoc : okU W.length (us ++ [u]) ↔ (match u with | .add n => n ≤ W.length ∧ okU n us | .set i _ => i < W.length ∧ okU W.length us) := by
  unfold okU; rw [List.reverse_append]; cases u <;> exact Iff.rfl
theorem und1_len (h : okU W.length (us ++ [u])) : okU (und1 W u).length us := by
  rw [okU_snoc] at h
  cases u with
  | add n => have := h.1; show okU (W.take n).length us; rw [List.length_take, Nat.min_eq_left h.1]; exact h.2
  | set i b => show okU (W.set i b).length us; rw [List.length_set]; exact h.2
end
def setU (W : List (BitVec 64)) (us : List Und) (i : Nat) (b : BitVec 64) : List Und := if W.getD i 0 = b then us else us ++ [.set i (W.getD i 0)]
theorem set_same {W : List (BitVec 64)} {i : Nat} {b : BitVec 64} (h : W.getD i 0 = b) : W.set i b = W := by
  apply List.ext_getElem (by simp)
  intro j h1 h2
  rw [List.getElem_set]
  split
  · rename_i e; subst e
    rw [← h, List.getD_eq_getElem?_getD, List.getElem?_eq_getElem h2]; rfl
  · rfl
theorem setU_und {W : List (BitVec 64)} {us : List Und} {i t : Nat} {b : BitVec 64} (hi : i < W.length) (h : t ≤ us.length) : undTo (W.set i b) (setU W us i b) t = undTo W us t ∧ (setU W us i b).take t = us.take t ∧ t ≤ (setU W us i b).length := by
  unfold setU
  split
  · rename_i e; rw [set_same e]; exact ⟨rfl, rfl, h⟩
  · refine ⟨?_, take_snocU h, by rw [List.length_append]; omega⟩
    rw [undTo_snoc h]
    congr 1
    show (W.set i b).set i (W.getD i 0) = W
    rw [List.set_set]; exact set_same rfl
theorem setU_ok {W : List (BitVec 64)} {us : List Und} {i : Nat} {b : BitVec 64} (hi : i < W.length) (h : okU W.length us) : okU (W.set i b).length (setU W us i b) := by
  unfold setU
  split
  · rw [List.length_set]; exact h
  · rw [okU_snoc]; exact ⟨by rw [List.length_set]; exact hi, by rw [List.length_set]; exact h⟩
/-! ### Nodes as words -/
def ndW (d : Fnd) : List (BitVec 64) := [BitVec.ofNat 64 d.up, BitVec.ofNat 64 d.size, BitVec.ofNat 64 d.next, BitVec.ofNat 64 d.least]
def wordsN (nd : List Fnd) : List (BitVec 64) := nd.flatMap ndW
theorem wordsN_len (nd : List Fnd) : (wordsN nd).length = 4 * nd.length := by
  induction nd with
  | nil => rfl
  | cons d l ih => show (ndW d ++ wordsN l).length = _; rw [List.length_append, ih, List.length_cons]; show 4 + _ = _; omega
theorem wordsN_snoc (nd : List Fnd) (d : Fnd) : wordsN (nd ++ [d]) = wordsN nd ++ ndW d := by simp [wordsN]
theorem wordsN_get (nd : List Fnd) {i k : Nat} (hi : i < nd.length) (hk : k < 4) : (wordsN nd).getD (4 * i + k) 0 = (ndW (nd.getD i fnd0)).getD k 0 := by
  induction nd generalizing i with
  | nil => cases hi
  | cons d l ih =>
    show (ndW d ++ wordsN l).getD _ _ = _
    cases i with
    | zero =>
      rw [List.getD_eq_getElem?_getD, List.getElem?_append_left (by show _ < 4; omega), ← List.getD_eq_getElem?_getD]
      simp
    | succ i =>
      rw [List.getD_eq_getElem?_getD, List.getElem?_append_right (by show 4 ≤ _; omega), show 4 * (i + 1) + k - (ndW d).length = 4 * i + k by show 4 * (i + 1) + k - 4 = _; omega, ← List.getD_eq_getElem?_getD, ih (by simpa using hi)]
      rfl
theorem wordsN_set (nd : List Fnd) {i k : Nat} {b : BitVec 64} {d' : Fnd} (hi : i < nd.length) (hk : k < 4) (h : (ndW (nd.getD i fnd0)).set k b = ndW d') : (wordsN nd).set (4 * i + k) b = wordsN (nd.set i d') := by
  induction nd generalizing i with
  | nil => cases hi
  | cons d l ih =>
    cases i with
    | zero =>
      show (ndW d ++ wordsN l).set _ _ = ndW d' ++ wordsN l
      rw [List.set_append_left _ _ (by show _ < 4; omega), ← h]
      simp
    | succ i =>
      show (ndW d ++ wordsN l).set _ _ = ndW d ++ wordsN (l.set i d')
      rw [List.set_append_right _ _ (by show 4 ≤ _; omega), show 4 * (i + 1) + k - (ndW d).length = 4 * i + k by show 4 * (i + 1) + k - 4 = _; omega, ih (by simpa using hi) (by simpa using h)]
/-! ### How many classes -/
def leads (cl : List Nat) : Nat := ((List.range cl.length).filter fun i => clF cl i == i).length
def metF (cl : List Nat) : List Nat := cl.foldl (fun m c => if c ∈ m then m else m ++ [c]) []
theorem sub_len {l m : List Nat} (hn : l.Nodup) (h : ∀ x ∈ l, x ∈ m) : l.length ≤ m.length := by
  induction l generalizing m with
  | nil => simp
  | cons a l ih =>
    have ha := h a (by simp)
    have hn2 := List.nodup_cons.1 hn
    have := ih (m := m.erase a) hn2.2 fun x hx => by
      refine (List.mem_erase_of_ne (fun e => hn2.1 (by rw [← e]; exact hx))).2 (h x (List.mem_cons_of_mem _ hx))
    rw [List.length_erase_of_mem ha] at this
    have := List.length_pos_of_mem ha
    rw [List.length_cons]; omega
theorem same_len {l m : List Nat} (hn : l.Nodup) (hm : m.Nodup) (h : ∀ x, x ∈ l ↔ x ∈ m) : l.length = m.length :=
  Nat.le_antisymm (sub_len hn fun x => (h x).1) (sub_len hm fun x => (h x).2)
theorem met_is (cl : List Nat) : (metF cl).Nodup ∧ ∀ x, x ∈ metF cl ↔ x ∈ cl := by
  have key : ∀ r : List Nat, (metF r.reverse).Nodup ∧ ∀ x, x ∈ metF r.reverse ↔ x ∈ r.reverse := by
    intro r
    induction r with
    | nil => exact ⟨List.nodup_nil, fun x => Iff.rfl⟩
    | cons c r ih =>
      rw [List.reverse_cons]
      have e : metF (r.reverse ++ [c]) = if c ∈ metF r.reverse then metF r.reverse else metF r.reverse ++ [c] := by unfold metF; rw [List.foldl_append]; rfl
      rw [e]
      split
      · rename_i h
        refine ⟨ih.1, fun x => ?_⟩
        rw [ih.2, List.mem_append, List.mem_singleton]
        constructor
        · exact fun q => .inl q
        · rintro (q | rfl)
          · exact q
          · exact (ih.2 _).1 h
      · rename_i h
        refine ⟨?_, fun x => by rw [List.mem_append, List.mem_append, ih.2]⟩
        rw [List.nodup_append]
        exact ⟨ih.1, by simp, fun a ha b hb e => h (by rw [← List.mem_singleton.1 hb, ← e]; exact ha)⟩
  have := key cl.reverse
  rwa [List.reverse_reverse] at this
section
variable {nd : List Fnd} {cl : List Nat} {a b : Nat}
theorem cl_mem (h : Fo nd cl) (x : Nat) : x ∈ cl ↔ x < cl.length ∧ clF cl x = x := by
  constructor
  · intro hx
    obtain ⟨k, hk, e⟩ := List.getElem_of_mem hx
    have e2 : clF cl k = x := by unfold clF; rw [List.getD_eq_getElem?_getD, List.getElem?_eq_getElem hk]; exact e
    have := h.lc k (by rw [← h.len]; exact hk)
    rw [e2] at this
    exact ⟨by omega, this.2⟩
  · rintro ⟨h1, h2⟩
    rw [← h2]; unfold clF
    rw [List.getD_eq_getElem?_getD, List.getElem?_eq_getElem h1]; exact List.getElem_mem h1
theorem lead_mem (cl : List Nat) (x : Nat) : x ∈ ((List.range cl.length).filter fun i => clF cl i == i) ↔ x < cl.length ∧ clF cl x = x := by
  rw [List.mem_filter, List.mem_range, beq_iff_eq]
theorem lead_nodup (cl : List Nat) : ((List.range cl.length).filter fun i => clF cl i == i).Nodup := List.nodup_range.filter _
theorem count_is (h : Fo nd cl) : (metF cl).length = leads cl :=
  same_len (met_is cl).1 (lead_nodup cl) fun x => by rw [(met_is cl).2, lead_mem, cl_mem h]
theorem leads_add (h : Fo nd cl) : leads (cl ++ [nd.length]) = leads cl + 1 := by
  rw [← count_is h.add, ← count_is h]
  have e : metF (cl ++ [nd.length]) = if nd.length ∈ metF cl then metF cl else metF cl ++ [nd.length] := by unfold metF; rw [List.foldl_append]; rfl
  rw [e, if_neg]
  · simp
  · intro q
    have := ((cl_mem h _).1 (((met_is cl).2 _).1 q)).1
    have := h.len; omega
theorem leads_join (h : Fo nd cl) (ha : a < nd.length) (hb : b < nd.length) (hab : a ≠ b) (ua : upF nd a = a) (ub : upF nd b = b) : leads (joinC cl (clF cl a) (clF cl b)) + 1 = leads cl := by
  have hj := h.join ha hb hab ua ub
  have hl := h.len
  have hxy : clF cl a ≠ clF cl b := fun e => hab (h.one a b ha hb ua ub e)
  have clx := h.lc a ha; have cly := h.lc b hb
  generalize hx : clF cl a = x at *
  generalize hy : clF cl b = y at *
  have jl : (joinC cl x y).length = cl.length := by simp [joinC]
  have e : ((List.range cl.length).filter fun i => clF cl i == i).length = (max x y :: ((List.range (joinC cl x y).length).filter fun i => clF (joinC cl x y) i == i)).length := by
    refine same_len (lead_nodup cl) (List.nodup_cons.2 ⟨fun q => ?_, lead_nodup _⟩) fun k => ?_
    · have q2 := (lead_mem _ _).1 q
      rw [cl_join (by omega)] at q2
      have e : clF cl (max x y) = max x y := by rcases (by omega : max x y = x ∨ max x y = y) with r | r <;> rw [r]; exact clx.2; exact cly.2
      rw [e, mix_in (by omega)] at q2
      omega
    · rw [lead_mem, List.mem_cons, lead_mem, jl]
      constructor
      · rintro ⟨k1, k2⟩
        by_cases c : k = max x y
        · exact .inl c
        · refine .inr ⟨k1, ?_⟩
          rw [cl_join k1, k2]
          by_cases c1 : k = x ∨ k = y
          · rw [mix_in c1]; omega
          · exact mix_out c1
      · rintro (rfl | ⟨k1, k2⟩)
        · rcases (by omega : max x y = x ∨ max x y = y) with r | r <;> rw [r]
          · exact ⟨by omega, clx.2⟩
          · exact ⟨by omega, cly.2⟩
        · refine ⟨k1, ?_⟩
          rw [cl_join k1] at k2
          by_cases c1 : clF cl k = x ∨ clF cl k = y
          · rw [mix_in c1] at k2
            rcases min_in x y with r | r <;> rw [r] at k2 <;> rw [← k2]
            · exact clx.2
            · exact cly.2
          · rwa [mix_out c1] at k2
  unfold leads
  rw [e, List.length_cons]
theorem ring_step {f : Nat → Nat} {i at_ : Nat} {t out m : List Nat} (h : Ring f i t) (e : i :: t = out ++ at_ :: m) : (m = [] ∧ f at_ = i) ∨ ∃ z m', m = z :: m' ∧ f at_ = z ∧ z ≠ i := by
  have key : Wk f (f at_) m i := by
    cases out with
    | nil => simp only [List.nil_append, List.cons.injEq] at e; rw [← e.1, ← e.2]; exact h.1
    | cons o out =>
      simp only [List.cons_append, List.cons.injEq] at e
      have := h.1; rw [e.2] at this
      exact (Wk.app.1 this).2
  cases m with
  | nil => exact .inl ⟨rfl, key⟩
  | cons z m' =>
    refine .inr ⟨z, m', rfl, key.1, fun q => ?_⟩
    have hn := h.2
    cases out with
    | nil =>
      simp only [List.nil_append, List.cons.injEq] at e
      rw [e.2, q] at hn; exact (List.nodup_cons.1 hn).1 (by simp)
    | cons o out =>
      simp only [List.cons_append, List.cons.injEq] at e
      rw [e.2, q] at hn; exact (List.nodup_cons.1 hn).1 (by simp)
end
end Go.Proofs.Ytphknfjaellkjaa.M
