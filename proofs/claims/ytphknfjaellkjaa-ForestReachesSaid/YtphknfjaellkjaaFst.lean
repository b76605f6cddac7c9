/-
  Forests, plainly: nodes that point up, rings, classes.
-/
import Derived.Test.YtphknfjaellkjaaPlain
namespace Go.Proofs.Ytphknfjaellkjaa.M
open Go
set_option linter.unusedVariables false
set_option linter.unusedSimpArgs false
structure Fnd where
  up : Nat
  size : Nat
  next : Nat
  least : Nat
def fnd0 : Fnd := ⟨0, 0, 0, 0⟩
def Wk (f : Nat → Nat) : Nat → List Nat → Nat → Prop
  | v, [], y => v = y
  | v, z :: l, y => v = z ∧ Wk f (f z) l y
theorem Wk.app {f : Nat → Nat} {l m : List Nat} {v z y : Nat} : Wk f v (l ++ z :: m) y ↔ Wk f v l z ∧ Wk f (f z) m y := by
  induction l generalizing v with
  | nil => exact Iff.rfl
  | cons a l ih => simp only [List.cons_append, Wk, ih, and_assoc]
theorem Wk.congr {f g : Nat → Nat} {l : List Nat} {v y : Nat} (h : Wk f v l y) (he : ∀ x ∈ l, g x = f x) : Wk g v l y := by
  induction l generalizing v with
  | nil => exact h
  | cons a l ih => exact ⟨h.1, by rw [he a (by simp)]; exact ih h.2 fun x hx => he x (List.mem_cons_of_mem _ hx)⟩
def Ring (f : Nat → Nat) (i : Nat) (t : List Nat) : Prop := Wk f (f i) t i ∧ (i :: t).Nodup
theorem Ring.rot {f : Nat → Nat} {i j : Nat} {t : List Nat} (h : Ring f i t) (hj : j ∈ i :: t) : ∃ u, Ring f j u ∧ ∀ k, k ∈ j :: u ↔ k ∈ i :: t := by
  rcases List.mem_cons.1 hj with rfl | hj
  · exact ⟨t, h, fun _ => Iff.rfl⟩
  · obtain ⟨l, m, rfl⟩ := List.append_of_mem hj
    have h1 := Wk.app.1 h.1
    refine ⟨m ++ i :: l, ⟨Wk.app.2 ⟨h1.2, h1.1⟩, ?_⟩, fun k => by simp only [List.mem_cons, List.mem_append]; constructor <;> (intro q; rcases q with q | q | q | q <;> simp [q])⟩
    have h2 := h.2
    have e : j :: (m ++ i :: l) = (j :: m) ++ (i :: l) := rfl
    have e2 : i :: (l ++ j :: m) = (i :: l) ++ (j :: m) := rfl
    rw [e2] at h2
    rw [e]
    exact (List.perm_append_comm.nodup_iff).1 h2
theorem Ring.join {f g : Nat → Nat} {a b : Nat} {la lb : List Nat} (ha : Ring f a la) (hb : Ring f b lb) (hd : ∀ x ∈ a :: la, x ∉ b :: lb) (ga : g a = f b) (gb : g b = f a) (ho : ∀ x, x ≠ a → x ≠ b → g x = f x) : Ring g a (lb ++ b :: la) := by
  have na : a ∉ la := (List.nodup_cons.1 ha.2).1
  have nb : b ∉ lb := (List.nodup_cons.1 hb.2).1
  have a1 : a ∉ b :: lb := hd a (by simp)
  refine ⟨Wk.app.2 ⟨?_, ?_⟩, ?_⟩
  · rw [ga]
    exact hb.1.congr fun x hx => ho x (fun e => a1 (by rw [← e]; exact List.mem_cons_of_mem _ hx)) fun e => nb (by rw [← e]; exact hx)
  · rw [gb]
    exact ha.1.congr fun x hx => ho x (fun e => na (by rw [← e]; exact hx)) fun e => hd x (List.mem_cons_of_mem _ hx) (by rw [e]; simp)
  · rw [List.nodup_cons]
    constructor
    · intro h
      rcases List.mem_append.1 h with q | q
      · exact a1 (List.mem_cons_of_mem _ q)
      · rcases List.mem_cons.1 q with q | q
        · exact a1 (by rw [q]; simp)
        · exact na q
    · rw [List.nodup_append]
      refine ⟨(List.nodup_cons.1 hb.2).2, List.nodup_cons.2 ⟨fun q => hd b (List.mem_cons_of_mem _ q) (by simp), (List.nodup_cons.1 ha.2).2⟩, fun x hx y hy e => ?_⟩
      subst e
      rcases List.mem_cons.1 hy with q | q
      · exact nb (by rw [← q]; exact hx)
      · exact hd x (List.mem_cons_of_mem _ q) (List.mem_cons_of_mem _ hx)
theorem Ring.keep {f g : Nat → Nat} {i : Nat} {t : List Nat} (h : Ring f i t) (he : ∀ x ∈ i :: t, g x = f x) : Ring g i t :=
  ⟨by rw [he i (by simp)]; exact h.1.congr fun x hx => he x (List.mem_cons_of_mem _ hx), h.2⟩
def upF (nd : List Fnd) (i : Nat) : Nat := (nd.getD i fnd0).up
def szF (nd : List Fnd) (i : Nat) : Nat := (nd.getD i fnd0).size
def nxF (nd : List Fnd) (i : Nat) : Nat := (nd.getD i fnd0).next
def leF (nd : List Fnd) (i : Nat) : Nat := (nd.getD i fnd0).least
def clF (cl : List Nat) (i : Nat) : Nat := cl.getD i 0
structure Fo (nd : List Fnd) (cl : List Nat) : Prop where
  len : cl.length = nd.length
  up : ∀ i, i < nd.length → upF nd i < nd.length
  sz : ∀ i, i < nd.length → upF nd i ≠ i → szF nd i < szF nd (upF nd i)
  sn : ∀ i, i < nd.length → szF nd i ≤ nd.length
  si : ∀ i, i < nd.length → upF nd i = i → szF nd i = cl.count (clF cl i)
  uc : ∀ i, i < nd.length → clF cl (upF nd i) = clF cl i
  one : ∀ i j, i < nd.length → j < nd.length → upF nd i = i → upF nd j = j → clF cl i = clF cl j → i = j
  le : ∀ i, i < nd.length → upF nd i = i → leF nd i = clF cl i
  lc : ∀ i, i < nd.length → clF cl i ≤ i ∧ clF cl (clF cl i) = clF cl i
  ring : ∀ i, i < nd.length → ∃ t, Ring (nxF nd) i t ∧ ∀ k, k ∈ i :: t ↔ k < nd.length ∧ clF cl k = clF cl i
theorem Fo.nil : Fo [] [] := ⟨rfl, fun i h => (by cases h), fun i h => (by cases h), fun i h => (by cases h), fun i h => (by cases h), fun i h => (by cases h), fun i j h => (by cases h), fun i h => (by cases h), fun i h => (by cases h), fun i h => (by cases h)⟩
def newN (n : Nat) : Fnd := ⟨n, 1, n, n⟩
section
variable {nd : List Fnd} {cl : List Nat} {α : Type} {d x : α} {l : List α} {i : Nat}
theorem getD_l (h : i < l.length) : (l ++ [x]).getD i d = l.getD i d := by
  rw [List.getD_eq_getElem?_getD, List.getD_eq_getElem?_getD, List.getElem?_append_left h]
theorem getD_r : (l ++ [x]).getD l.length d = x := by
  rw [List.getD_eq_getElem?_getD, List.getElem?_append_right (Nat.le_refl _)]; simp
theorem Fo.add (h : Fo nd cl) : Fo (nd ++ [newN nd.length]) (cl ++ [nd.length]) := by
  have hl := h.len
  have gu : ∀ i, i < nd.length → (nd ++ [newN nd.length]).getD i fnd0 = nd.getD i fnd0 := fun i hi => getD_l hi
  have gn : (nd ++ [newN nd.length]).getD nd.length fnd0 = newN nd.length := getD_r
  have gc : ∀ i, i < nd.length → clF (cl ++ [nd.length]) i = clF cl i := fun i hi => getD_l (by omega)
  have gcn : clF (cl ++ [nd.length]) nd.length = nd.length := by unfold clF; rw [← hl]; exact getD_r
  have cs : ∀ i, i < (nd ++ [newN nd.length]).length → i < nd.length ∨ i = nd.length := fun i hi => by rw [List.length_append, List.length_singleton] at hi; omega
  have ln : (nd ++ [newN nd.length]).length = nd.length + 1 := by simp
  have clt : ∀ i, i < nd.length → clF cl i < nd.length := fun i hi => by have := (h.lc i hi).1; omega
  have cnt0 : cl.count nd.length = 0 := by
    rw [List.count_eq_zero]; intro hm
    obtain ⟨k, hk, e⟩ := List.getElem_of_mem hm
    have := clt k (by omega)
    unfold clF at this
    rw [List.getD_eq_getElem?_getD, List.getElem?_eq_getElem hk, Option.getD_some, e] at this
    omega
  refine ⟨by simp [hl], fun i hi => ?_, fun i hi => ?_, fun i hi => ?_, fun i hi hu => ?_, fun i hi => ?_, fun i j hi hj hu hv hc => ?_, fun i hi hu => ?_, fun i hi => ?_, fun i hi => ?_⟩
  · rw [ln]; unfold upF; rcases cs i hi with q | rfl
    · rw [gu i q]; have := h.up i q; unfold upF at this; omega
    · rw [gn]; show nd.length < _; omega
  · unfold upF szF; rcases cs i hi with q | rfl
    · have hu := h.up i q
      unfold upF at hu
      rw [gu i q, gu _ hu]; exact h.sz i q
    · rw [gn]; intro hh; exact absurd rfl hh
  · rw [ln]; unfold szF; rcases cs i hi with q | rfl
    · rw [gu i q]; have := h.sn i q; unfold szF at this; omega
    · rw [gn]; show 1 ≤ _; omega
  · unfold szF; unfold upF at hu; rcases cs i hi with q | rfl
    · rw [gu i q] at hu ⊢; rw [gc i q, List.count_append]
      have := h.si i q hu; unfold szF at this
      rw [this, List.count_singleton]
      have := clt i q
      rw [if_neg (by simp; omega)]; omega
    · rw [gn, gcn, List.count_append, cnt0, List.count_singleton, if_pos (by simp)]; rfl
  · unfold upF; rcases cs i hi with q | rfl
    · have hu := h.up i q
      have := h.uc i q
      unfold upF at hu this
      rw [gu i q, gc i q, gc _ hu]; exact this
    · rw [gn]; rfl
  · unfold upF at hu hv; rcases cs i hi with q | rfl <;> rcases cs j hj with r | rfl
    · rw [gu _ q] at hu; rw [gu _ r] at hv; rw [gc _ q, gc _ r] at hc; exact h.one i j q r hu hv hc
    · rw [gc _ q, gcn] at hc; have := clt i q; omega
    · rw [gc _ r, gcn] at hc; have := clt j r; omega
    · rfl
  · unfold leF; unfold upF at hu; rcases cs i hi with q | rfl
    · rw [gu _ q] at hu ⊢; rw [gc _ q]; exact h.le i q hu
    · rw [gn, gcn]; rfl
  · rcases cs i hi with q | rfl
    · rw [gc _ q, gc _ (clt i q)]; exact h.lc i q
    · rw [gcn, gcn]; exact ⟨Nat.le_refl _, rfl⟩
  · rcases cs i hi with q | rfl
    · obtain ⟨t, ht, hm⟩ := h.ring i q
      refine ⟨t, ht.keep fun x hx => ?_, fun k => ?_⟩
      · unfold nxF; rw [gu x ((hm x).1 hx).1]
      · rw [hm k, ln, gc i q]
        constructor
        · rintro ⟨a, b⟩; exact ⟨by omega, by rw [gc k a]; exact b⟩
        · rintro ⟨a, b⟩
          rcases cs k (by rw [ln]; exact a) with r | rfl
          · exact ⟨r, by rw [← gc k r]; exact b⟩
          · rw [gcn] at b; have := clt i q; omega
    · refine ⟨[], ⟨by show nxF _ _ = _; unfold nxF; rw [gn]; rfl, by simp⟩, fun k => ?_⟩
      rw [List.mem_singleton, ln, gcn]
      constructor
      · rintro rfl; exact ⟨by omega, gcn⟩
      · rintro ⟨a, b⟩
        rcases cs k (by rw [ln]; exact a) with r | rfl
        · rw [gc k r] at b; have := clt k r; omega
        · rfl
theorem getD_set {j : Nat} : (l.set i x).getD j d = if j = i ∧ i < l.length then x else l.getD j d := by
  rw [List.getD_eq_getElem?_getD, List.getD_eq_getElem?_getD, List.getElem?_set]
  by_cases h : i = j
  · subst h
    by_cases h2 : i < l.length
    · simp [h2]
    · simp [h2]
  · rw [if_neg h, if_neg (fun q => h q.1.symm)]
end
def joinN (nd : List Fnd) (a b : Nat) : List Fnd := (nd.set b ⟨a, szF nd b, nxF nd a, leF nd b⟩).set a ⟨upF nd a, szF nd a + szF nd b, nxF nd b, min (leF nd a) (leF nd b)⟩
def mixC (x y c : Nat) : Nat := if c = x ∨ c = y then min x y else c
def joinC (cl : List Nat) (x y : Nat) : List Nat := cl.map (mixC x y)
theorem mix_in {x y c : Nat} (h : c = x ∨ c = y) : mixC x y c = min x y := if_pos h
theorem mix_out {x y c : Nat} (h : ¬ (c = x ∨ c = y)) : mixC x y c = c := if_neg h
theorem min_in (x y : Nat) : min x y = x ∨ min x y = y := by omega
theorem count_out {x y v : Nat} (h : ¬ (v = x ∨ v = y)) (cl : List Nat) : (joinC cl x y).count v = cl.count v := by
  induction cl with
  | nil => rfl
  | cons c l ih =>
    show (mixC x y c :: joinC l x y).count v = _
    rw [List.count_cons, List.count_cons, ih]
    by_cases hc : c = x ∨ c = y
    · rw [mix_in hc, if_neg (by simp; rcases min_in x y with e | e <;> omega), if_neg (by simp; omega)]
    · rw [mix_out hc]
theorem count_in {x y : Nat} (h : x ≠ y) (cl : List Nat) : (joinC cl x y).count (min x y) = cl.count x + cl.count y := by
  induction cl with
  | nil => rfl
  | cons c l ih =>
    show (mixC x y c :: joinC l x y).count _ = _
    rw [List.count_cons, List.count_cons, List.count_cons, ih]
    by_cases hc : c = x ∨ c = y
    · rw [mix_in hc, if_pos (by simp)]
      rcases hc with rfl | rfl
      · rw [if_pos (by simp), if_neg (by simp; omega)]; omega
      · rw [if_neg (by simp; omega), if_pos (by simp)]; omega
    · rw [mix_out hc, if_neg (by simp; rcases min_in x y with e | e <;> omega), if_neg (by simp; omega), if_neg (by simp; omega)]
      omega
theorem count_le2 {x y : Nat} (h : x ≠ y) (cl : List Nat) : cl.count x + cl.count y ≤ cl.length := by
  rw [← count_in h]
  have := List.count_le_length (a := min x y) (l := joinC cl x y)
  rwa [show (joinC cl x y).length = cl.length by simp [joinC]] at this
section
variable {nd : List Fnd} {cl : List Nat} {a b : Nat}
theorem join_len : (joinN nd a b).length = nd.length := by simp [joinN]
theorem up_join (hb : b < nd.length) (ha : a < nd.length) (hab : a ≠ b) (hu : upF nd a = a) (i : Nat) : upF (joinN nd a b) i = if i = b then a else upF nd i := by
  unfold upF joinN
  rw [getD_set, getD_set]
  by_cases h1 : i = a
  · subst h1; rw [if_pos ⟨rfl, by simpa using ha⟩, if_neg hab]; rfl
  · rw [if_neg (fun q => h1 q.1)]
    by_cases h2 : i = b
    · subst h2; rw [if_pos ⟨rfl, hb⟩, if_pos rfl]
    · rw [if_neg (fun q => h2 q.1), if_neg h2]
theorem sz_join (hb : b < nd.length) (ha : a < nd.length) (i : Nat) : szF (joinN nd a b) i = if i = a then szF nd a + szF nd b else szF nd i := by
  unfold szF joinN
  rw [getD_set, getD_set]
  by_cases h1 : i = a
  · subst h1; rw [if_pos ⟨rfl, by simpa using ha⟩, if_pos rfl]; rfl
  · rw [if_neg (fun q => h1 q.1), if_neg h1]
    by_cases h2 : i = b
    · subst h2; rw [if_pos ⟨rfl, hb⟩]; rfl
    · rw [if_neg (fun q => h2 q.1)]
theorem le_join (hb : b < nd.length) (ha : a < nd.length) (i : Nat) : leF (joinN nd a b) i = if i = a then min (leF nd a) (leF nd b) else leF nd i := by
  unfold leF joinN
  rw [getD_set, getD_set]
  by_cases h1 : i = a
  · subst h1; rw [if_pos ⟨rfl, by simpa using ha⟩, if_pos rfl]; rfl
  · rw [if_neg (fun q => h1 q.1), if_neg h1]
    by_cases h2 : i = b
    · subst h2; rw [if_pos ⟨rfl, hb⟩]; rfl
    · rw [if_neg (fun q => h2 q.1)]
theorem nx_join (hb : b < nd.length) (ha : a < nd.length) (i : Nat) : nxF (joinN nd a b) i = if i = a then nxF nd b else if i = b then nxF nd a else nxF nd i := by
  unfold nxF joinN
  rw [getD_set, getD_set]
  by_cases h1 : i = a
  · subst h1; rw [if_pos ⟨rfl, by simpa using ha⟩, if_pos rfl]; rfl
  · rw [if_neg (fun q => h1 q.1), if_neg h1]
    by_cases h2 : i = b
    · subst h2; rw [if_pos ⟨rfl, hb⟩, if_pos rfl]; rfl
    · rw [if_neg (fun q => h2 q.1), if_neg h2]
theorem cl_join {x y : Nat} {i : Nat} (hi : i < cl.length) : clF (joinC cl x y) i = mixC x y (clF cl i) := by
  unfold clF joinC
  rw [List.getD_eq_getElem?_getD, List.getD_eq_getElem?_getD, List.getElem?_map, List.getElem?_eq_getElem hi]; rfl
theorem Fo.join (h : Fo nd cl) (ha : a < nd.length) (hb : b < nd.length) (hab : a ≠ b) (ua : upF nd a = a) (ub : upF nd b = b) : Fo (joinN nd a b) (joinC cl (clF cl a) (clF cl b)) := by
  have hl := h.len
  have hxy : clF cl a ≠ clF cl b := fun e => hab (h.one a b ha hb ua ub e)
  generalize hx : clF cl a = x at *
  generalize hy : clF cl b = y at *
  have gc : ∀ i, i < nd.length → clF (joinC cl x y) i = mixC x y (clF cl i) := fun i hi => cl_join (by omega)
  have gu := up_join hb ha hab ua
  have gs := sz_join hb ha (a := a)
  have gl := le_join hb ha (a := a)
  have gn := nx_join hb ha (a := a)
  have sa := h.si a ha ua; have sb := h.si b hb ub
  rw [hx] at sa; rw [hy] at sb
  have root : ∀ i, i < nd.length → upF (joinN nd a b) i = i → i ≠ b ∧ upF nd i = i := fun i hi q => by
    rw [gu] at q
    by_cases e : i = b
    · rw [if_pos e] at q; exact absurd (q.trans e) hab
    · rw [if_neg e] at q; exact ⟨e, q⟩
  have isx : ∀ i, i < nd.length → upF nd i = i → i ≠ b → (clF cl i = x ∨ clF cl i = y) → i = a := fun i hi q e hc => by
    rcases hc with hc | hc
    · exact h.one i a hi ha q ua (hc.trans hx.symm)
    · exact absurd (h.one i b hi hb q ub (hc.trans hy.symm)) e
  have clx := h.lc a ha; have cly := h.lc b hb
  rw [hx] at clx; rw [hy] at cly
  have pa : 1 ≤ szF nd a := by
    rw [sa]
    have : x ∈ cl := by
      rw [← hx]; unfold clF
      rw [List.getD_eq_getElem?_getD, List.getElem?_eq_getElem (by omega), Option.getD_some]; exact List.getElem_mem (by omega)
    have := List.count_pos_iff.2 this
    omega
  refine ⟨by simp [joinC, join_len, hl], fun i hi => ?_, fun i hi => ?_, fun i hi => ?_, fun i hi hu => ?_, fun i hi => ?_, fun i j hi hj hu hv hc => ?_, fun i hi hu => ?_, fun i hi => ?_, fun i hi => ?_⟩ <;> rw [join_len] at hi
  · rw [join_len, gu]; split
    · exact ha
    · exact h.up i hi
  · rw [gu, gs i]
    by_cases e : i = b
    · rw [if_pos e, gs a, if_pos rfl, if_neg (by omega), e]; intro _; omega
    · rw [if_neg e, gs (upF nd i)]; intro q
      have e2 : i ≠ a := fun r => q (by rw [r]; exact ua)
      rw [if_neg e2]
      have := h.sz i hi q
      split
      · rename_i r; rw [r] at this; omega
      · exact this
  · rw [join_len, gs i]; split
    · have := count_le2 hxy cl; omega
    · exact h.sn i hi
  · obtain ⟨e, q⟩ := root i hi hu
    rw [gs i, gc i hi]
    by_cases e2 : i = a
    · rw [if_pos e2, e2, hx, mix_in (.inl rfl), count_in hxy, sa, sb]
    · rw [if_neg e2]
      have hc : ¬ (clF cl i = x ∨ clF cl i = y) := fun r => e2 (isx i hi q e r)
      rw [mix_out hc, count_out hc]; exact h.si i hi q
  · rw [gu i]; split
    · rename_i e; rw [gc a ha, gc i hi, e, hx, hy, mix_in (.inl rfl), mix_in (.inr rfl)]
    · rw [gc _ (h.up i hi), gc i hi, h.uc i hi]
  · rw [join_len] at hj
    obtain ⟨e1, q1⟩ := root i hi hu
    obtain ⟨e2, q2⟩ := root j hj hv
    rw [gc i hi, gc j hj] at hc
    by_cases c1 : clF cl i = x ∨ clF cl i = y
    · rw [mix_in c1] at hc
      have c2 : clF cl j = x ∨ clF cl j = y := by
        refine Decidable.byContradiction fun r => ?_
        rw [mix_out r] at hc
        exact r (by rw [← hc]; exact min_in x y)
      rw [isx i hi q1 e1 c1, isx j hj q2 e2 c2]
    · rw [mix_out c1] at hc
      have c2 : ¬ (clF cl j = x ∨ clF cl j = y) := fun r => by
        rw [mix_in r] at hc
        exact c1 (by rw [hc]; exact min_in x y)
      rw [mix_out c2] at hc
      exact h.one i j hi hj q1 q2 hc
  · obtain ⟨e, q⟩ := root i hi hu
    rw [gl i, gc i hi]
    by_cases e2 : i = a
    · rw [if_pos e2, e2, hx, mix_in (.inl rfl), h.le a ha ua, h.le b hb ub, hx, hy]
    · rw [if_neg e2]
      have hc : ¬ (clF cl i = x ∨ clF cl i = y) := fun r => e2 (isx i hi q e r)
      rw [mix_out hc]; exact h.le i hi q
  · have hi2 := h.lc i hi
    rw [gc i hi]
    by_cases c1 : clF cl i = x ∨ clF cl i = y
    · rw [mix_in c1]
      refine ⟨by rcases c1 with r | r <;> omega, ?_⟩
      rw [gc _ (by omega)]
      refine mix_in ?_
      rcases min_in x y with r | r <;> rw [r]
      · exact .inl clx.2
      · exact .inr cly.2
    · rw [mix_out c1]
      refine ⟨hi2.1, ?_⟩
      rw [gc _ (by omega), hi2.2, mix_out c1]
  · by_cases c1 : clF cl i = x ∨ clF cl i = y
    · obtain ⟨la, ra, ma⟩ := h.ring a ha
      obtain ⟨lb, rb, mb⟩ := h.ring b hb
      rw [hx] at ma; rw [hy] at mb
      have hj : Ring (nxF (joinN nd a b)) a (lb ++ b :: la) := ra.join rb (fun k hk hk2 => hxy (((ma k).1 hk).2.symm.trans ((mb k).1 hk2).2)) (by rw [gn, if_pos rfl]) (by rw [gn, if_neg (Ne.symm hab), if_pos rfl]) fun k k1 k2 => by rw [gn, if_neg k1, if_neg k2]
      have mm : ∀ k, k ∈ a :: (lb ++ b :: la) ↔ k < nd.length ∧ (clF cl k = x ∨ clF cl k = y) := fun k => by
        have m1 := ma k; have m2 := mb k
        simp only [List.mem_cons, List.mem_append] at m1 m2 ⊢
        constructor
        · rintro (q | q | q | q)
          · have := m1.1 (.inl q); exact ⟨this.1, .inl this.2⟩
          · have := m2.1 (.inr q); exact ⟨this.1, .inr this.2⟩
          · have := m2.1 (.inl q); exact ⟨this.1, .inr this.2⟩
          · have := m1.1 (.inr q); exact ⟨this.1, .inl this.2⟩
        · rintro ⟨q, r | r⟩
          · rcases m1.2 ⟨q, r⟩ with s | s
            · exact .inl s
            · exact .inr (.inr (.inr s))
          · rcases m2.2 ⟨q, r⟩ with s | s
            · exact .inr (.inr (.inl s))
            · exact .inr (.inl s)
      obtain ⟨u, hu, mu⟩ := hj.rot ((mm i).2 ⟨hi, c1⟩)
      refine ⟨u, hu, fun k => ?_⟩
      rw [mu, mm, join_len, gc i hi, mix_in c1]
      constructor
      · rintro ⟨q, r⟩; exact ⟨q, by rw [gc k q, mix_in r]⟩
      · rintro ⟨q, r⟩
        refine ⟨q, Decidable.byContradiction fun s => ?_⟩
        rw [gc k q, mix_out s] at r
        exact s (by rw [r]; exact min_in x y)
    · obtain ⟨t, ht, mt⟩ := h.ring i hi
      have out : ∀ k ∈ i :: t, ¬ (clF cl k = x ∨ clF cl k = y) := fun k hk => by rw [((mt k).1 hk).2]; exact c1
      refine ⟨t, ht.keep fun k hk => ?_, fun k => ?_⟩
      · have := out k hk
        rw [gn, if_neg (fun e => this (.inl (by rw [e]; exact hx))), if_neg (fun e => this (.inr (by rw [e]; exact hy)))]
      · rw [mt k, join_len, gc i hi, mix_out c1]
        constructor
        · rintro ⟨q, r⟩; exact ⟨q, by rw [gc k q, r, mix_out c1]⟩
        · rintro ⟨q, r⟩
          refine ⟨q, ?_⟩
          rw [gc k q] at r
          by_cases c2 : clF cl k = x ∨ clF cl k = y
          · rw [mix_in c2] at r; exact absurd (by rw [← r]; exact min_in x y) c1
          · rw [mix_out c2] at r; exact r
end
end Go.Proofs.Ytphknfjaellkjaa.M
