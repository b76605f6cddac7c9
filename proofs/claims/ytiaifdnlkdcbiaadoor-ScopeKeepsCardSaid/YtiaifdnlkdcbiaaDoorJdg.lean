/-
  What is wrong with a declaration, plainly, and the judge's own block.
-/
import Derived.Test.YtiaifdnlkdcbiaaDoorScj
namespace Go.Proofs.YtiaifdnlkdcbiaaDoor.E
open Go Go.RowKit Go.Proofs.YtiaifdnlkdcbiaaDoor.M
set_option linter.unusedVariables false
def judL (s : Scp) (c : CmdR) (v : Value) : List Value := scpL s ++ cmdL c ++ [v]
theorem judL_len (s : Scp) (c : CmdR) (v : Value) : (judL s c v).length = 20 := rfl
theorem judL_set (s : Scp) (c : CmdR) (v u : Value) : (judL s c v).toArray.setIfInBounds (0 + 19) u = (judL s c u).toArray := by
  simp [judL, scpL, cmdL, nodeL]
def tellF (b : Bool) (k a : Int) : List Flt := if b then [⟨k, a⟩] else []
theorem tell_t (k a : Int) : tellF true k a = [⟨k, a⟩] := rfl
theorem tell_f (k a : Int) : tellF false k a = [] := rfl
theorem tell_len (b : Bool) (k a : Int) : (tellF b k a).length ≤ 1 := by cases b <;> simp [tellF]
def isF (s : Scp) (t : Tx) : Bool := decide (0 ≤ findLat s t)
def livesF (s : Scp) (t : Tx) : Bool := decide (0 ≤ findLat s t ∨ 0 ≤ findVar s t)
theorem lives_is {s : Scp} {t : Tx} (h : isF s t = true) : livesF s t = true := decide_eq_true (.inl (of_decide_eq_true h))
def headF (s : Scp) (c : CmdR) : List Flt :=
  if 1 ≤ c.op ∧ c.op ≤ 5 then tellF (livesF s c.name.text) 3 c.name.place else tellF (!livesF s c.name.text) 3 c.name.place ++ tellF (livesF s c.name.text && !isF s c.name.text) 4 c.name.place
def aheadF (l : List Tx) (k : Int) : Bool := decide (nfind l (l.getD k.toNat tx0) < k)
def nameAt (s : Scp) (c : CmdR) (k : Int) : List Flt :=
  if c.op = 3 then tellF (!livesF s (c.names.getD k.toNat wd0).text) 3 (c.names.getD k.toNat wd0).place ++ tellF (livesF s (c.names.getD k.toNat wd0).text && !isF s (c.names.getD k.toNat wd0).text) 4 (c.names.getD k.toNat wd0).place
  else tellF (aheadF (textsF c.names) k || (decide (c.op = 6 ∨ c.op = 7) && livesF s (c.names.getD k.toNat wd0).text)) 3 (c.names.getD k.toNat wd0).place
def namesTo (s : Scp) (c : CmdR) (k : Int) : List Flt := (upto k).flatMap (nameAt s c)
def missF (c : CmdR) (x : Wd) : List Flt := tellF (decide (nfind (textsF c.names) x.text < 0)) 3 x.place
def pairAt (c : CmdR) (k : Int) : List Flt := missF c (c.pairs.getD k.toNat pw0).1 ++ missF c (c.pairs.getD k.toNat pw0).2
def pairsTo (c : CmdR) (k : Int) : List Flt := (upto k).flatMap (pairAt c)
def orderF (c : CmdR) : List Flt := tellF (decide (c.op = 5 ∧ c.names.length ≤ 64) && !latB (relatedF c)) 5 c.pat
def limitF (s : Scp) (c : CmdR) : List Flt :=
  if c.op = 6 ∨ c.op = 7 then tellF (decide (64 - (s.vars.length : Int) < c.names.length)) 7 c.place
  else if c.op = 3 then tellF (decide ((8 : Int) < (prodF (prodL s c.names)).length ∨ (16 : Int) ≤ s.lats.length)) 7 c.place
  else tellF (decide ((if c.op = 4 then (8 : Int) else 64) < c.names.length ∨ (16 : Int) ≤ s.lats.length)) 7 c.place
def faultL (s : Scp) (c : CmdR) : List Flt := headF s c ++ namesTo s c c.names.length ++ (pairsTo c c.pairs.length ++ orderF c) ++ limitF s c
def faultF (s : Scp) (c : CmdR) : Flt := if 1 ≤ c.op ∧ c.op ≤ 7 then (faultL s c).foldl lessF flt0 else flt0
theorem names_next {s : Scp} {c : CmdR} {k : Int} (h : 0 ≤ k) : namesTo s c (k + 1) = namesTo s c k ++ nameAt s c k := by
  rw [namesTo, namesTo, ← upto_succ h, List.flatMap_append]; simp
theorem pairs_next {c : CmdR} {k : Int} (h : 0 ≤ k) : pairsTo c (k + 1) = pairsTo c k ++ pairAt c k := by
  rw [pairsTo, pairsTo, ← upto_succ h, List.flatMap_append]; simp
theorem head_len (s : Scp) (c : CmdR) : (headF s c).length ≤ 2 := by
  rw [headF]
  have := fun b k a => tell_len b k a
  split
  · exact Nat.le_trans (this _ _ _) (by omega)
  · rw [List.length_append]; exact Nat.add_le_add (this _ _ _) (this _ _ _)
theorem nameAt_len (s : Scp) (c : CmdR) (k : Int) : (nameAt s c k).length ≤ 2 := by
  rw [nameAt]
  have := fun b k a => tell_len b k a
  split
  · rw [List.length_append]; exact Nat.add_le_add (this _ _ _) (this _ _ _)
  · exact Nat.le_trans (this _ _ _) (by omega)
theorem pairAt_len (c : CmdR) (k : Int) : (pairAt c k).length ≤ 2 := by
  rw [pairAt, List.length_append]; exact Nat.add_le_add (tell_len _ _ _) (tell_len _ _ _)
theorem flat_le {α β : Type} {f : α → List β} {m : Nat} : ∀ (l : List α), (∀ a ∈ l, (f a).length ≤ m) → (l.flatMap f).length ≤ m * l.length
  | [], _ => by simp
  | a :: l, h => by
    rw [List.flatMap_cons, List.length_append, List.length_cons, Nat.mul_succ]
    have := flat_le l fun b hb => h b (List.mem_cons_of_mem _ hb)
    have := h a (List.mem_cons_self ..)
    omega
theorem app_le {l m : List Flt} {n k : Nat} (h : l.length ≤ n) (h2 : m.length ≤ k) : (l ++ m).length ≤ n + k := by rw [List.length_append]; exact Nat.add_le_add h h2
theorem texts_get (l : List Wd) {k : Int} (h0 : 0 ≤ k) (h1 : k < l.length) : (textsF l).getD k.toNat tx0 = (l.getD k.toNat wd0).text := by
  have h2 : k.toNat < l.length := by omega
  rw [textsF, List.getD_eq_getElem?_getD, List.getD_eq_getElem?_getD, List.getElem?_map, List.getElem?_eq_getElem h2]; rfl
theorem ahead_is {c : CmdR} {k : Int} (h0 : 0 ≤ k) (h1 : k < c.names.length) : aheadF (textsF c.names) k = decide (0 ≤ nfind ((textsF c.names).take k.toNat) (c.names.getD k.toNat wd0).text) := by
  have := tx_ahead (l := textsF c.names) h0 (by rw [texts_len]; exact h1)
  rw [texts_get _ h0 h1] at this
  rw [aheadF, texts_get _ h0 h1, ← this]
theorem sh_facs_len {p : Shp} {b : Bool} {l : List Fc} (h : p.sh = ⟨b, l⟩) : p.facs.length = l.length := by
  have := congrArg (fun x : Sh => x.facs.length) h
  simpa [Shp.sh] using this
theorem upto_len (k : Int) : (upto k).length = k.toNat := by simp [upto]
theorem names_len (s : Scp) (c : CmdR) (k : Int) : (namesTo s c k).length ≤ 2 * k.toNat := by
  have := flat_le (f := nameAt s c) (m := 2) (upto k) fun a _ => nameAt_len s c a
  rw [upto_len] at this; exact this
theorem pairs_len (c : CmdR) (k : Int) : (pairsTo c k).length ≤ 2 * k.toNat := by
  have := flat_le (f := pairAt c) (m := 2) (upto k) fun a _ => pairAt_len c a
  rw [upto_len] at this; exact this
theorem order_y {c : CmdR} (h : c.op = 5) (h2 : ((textsF c.names).length : Int) ≤ 64) : orderF c = tellF (!latB (relatedF c)) 5 c.pat := by
  rw [texts_len] at h2
  rw [orderF, decide_eq_true ⟨h, by omega⟩]; rfl
theorem order_n1 {c : CmdR} (h : ¬ c.op = 5) : orderF c = [] := by
  rw [orderF, decide_eq_false fun h' => h h'.1]; rfl
theorem order_n2 {c : CmdR} (h2 : ¬ ((textsF c.names).length : Int) ≤ 64) : orderF c = [] := by
  rw [texts_len] at h2
  rw [orderF, decide_eq_false fun h' => h2 (by have := h'.2; omega)]; rfl
theorem limit_p1 {s : Scp} {c : CmdR} (h : c.op = 3) (h2 : (8 : Int) < (prodF (prodL s c.names)).length) : limitF s c = tellF true 7 c.place := by
  rw [limitF, if_neg (by omega), if_pos h, decide_eq_true (.inl h2)]
theorem limit_p2 {s : Scp} {c : CmdR} (h : c.op = 3) (h2 : ¬ (8 : Int) < (prodF (prodL s c.names)).length) : limitF s c = tellF (decide ((16 : Int) ≤ s.lats.length)) 7 c.place := by
  rw [limitF, if_neg (by omega), if_pos h]
  congr 1
  rw [Bool.eq_iff_iff, decide_eq_true_eq, decide_eq_true_eq]
  exact ⟨fun h' => h'.resolve_left h2, .inr⟩
end Go.Proofs.YtiaifdnlkdcbiaaDoor.E
