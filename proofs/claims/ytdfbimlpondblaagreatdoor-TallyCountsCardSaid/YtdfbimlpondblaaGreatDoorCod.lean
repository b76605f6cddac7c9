/-
  Code for a stack machine: whether it runs well, and what it comes to.
-/
import Derived.Test.YtdfbimlpondblaaGreatDoorIns
namespace Go.Proofs.YtdfbimlpondblaaGreatDoor.M
open Go
set_option linter.unusedVariables false
set_option linter.unusedSimpArgs false
def stepD (d : Option Int) (x : InsR) : Option Int := d.bind fun k => if x.op = 1 ∨ x.op = 2 then some (k + 1) else if x.op = 3 ∨ x.op = 4 then (if x.n < 1 ∨ k < x.n then none else some (k - x.n + 1)) else none
def deepTo (l : List InsR) (k : Int) : Option Int := (l.take k.toNat).foldl stepD (some 0)
def rightC (l : List InsR) : Bool := decide (deepTo l l.length = some 1)
theorem fold_next {α β : Type} {f : β → α → β} {b : β} {l : List α} {d : α} {k : Int} (h0 : 0 ≤ k) (h1 : k < l.length) : (l.take (k + 1).toNat).foldl f b = f ((l.take k.toNat).foldl f b) (l.getD k.toNat d) := by
  have h2 : k.toNat < l.length := by omega
  rw [show (k + 1).toNat = k.toNat + 1 by omega, List.take_add_one, List.foldl_append, List.getD_eq_getElem?_getD, List.getElem?_eq_getElem h2]
  rfl
theorem deep_next {l : List InsR} {k : Int} (h0 : 0 ≤ k) (h1 : k < l.length) : deepTo l (k + 1) = stepD (deepTo l k) (l.getD k.toNat ins0) := fold_next h0 h1
theorem deep_dead (l : List InsR) : l.foldl stepD none = none := by
  induction l with
  | nil => rfl
  | cons a l ih => rw [List.foldl_cons]; exact ih
theorem deep_cut {l : List InsR} {k : Int} (hk : 0 ≤ k) (h : deepTo l k = none) : deepTo l l.length = none := by
  unfold deepTo at h ⊢
  rw [Int.toNat_natCast, List.take_length]
  conv => lhs; rw [← List.take_append_drop k.toNat l]
  rw [List.foldl_append, h]; exact deep_dead _
theorem deep_zero (l : List InsR) : deepTo l 0 = some 0 := rfl
theorem deep_bd {l : List InsR} {k d : Int} (h0 : 0 ≤ k) (h1 : k ≤ l.length) (h : deepTo l k = some d) : 0 ≤ d ∧ d ≤ k := by
  have key : ∀ n : Nat, ∀ d : Int, (n : Int) ≤ l.length → deepTo l n = some d → 0 ≤ d ∧ d ≤ n := fun n => by
    induction n with
    | zero => intro d _ h; have e : (some (0 : Int)) = some d := (deep_zero l).symm.trans h; injection e; omega
    | succ n ih =>
      intro d hn h
      rw [show ((n + 1 : Nat) : Int) = (n : Int) + 1 by omega, deep_next (by omega) (by omega)] at h
      cases hc : deepTo l n with
      | none => rw [hc] at h; cases h
      | some q =>
        have := ih q (by omega) hc
        rw [hc] at h
        unfold stepD at h
        simp only [Option.bind_some] at h
        split at h
        · injection h; omega
        · split at h
          · split at h
            · cases h
            · injection h; omega
          · cases h
  have := key k.toNat d (by omega) (by rw [show ((k.toNat : Nat) : Int) = k by omega]; exact h)
  omega
theorem rc_no {l : List InsR} {k d : Int} (h0 : 0 ≤ k) (h1 : k < l.length) (h : deepTo l k = some d) (hs : stepD (some d) (l.getD k.toNat ins0) = none) : rightC l = false :=
  decide_eq_false (by rw [deep_cut (k := k + 1) (by omega) (by rw [deep_next h0 h1, h, hs])]; exact fun e => by cases e)
theorem rc_end {l : List InsR} {k d : Int} (hk : k ≤ l.length) (h1 : ¬ k < l.length) (h : deepTo l k = some d) : rightC l = decide (d = 1) := by
  rw [rightC, show (l.length : Int) = k by omega, h]
  exact decide_eq_decide.2 ⟨fun e => by injection e, fun e => by rw [e]⟩
theorem st_push {x : InsR} {d : Int} (h : x.op = 1 ∨ x.op = 2) : stepD (some d) x = some (d + 1) := by simp [stepD, h]
theorem st_pop {x : InsR} {d : Int} (h : x.op = 3 ∨ x.op = 4) (h1 : 1 ≤ x.n) (h2 : x.n ≤ d) : stepD (some d) x = some (d - x.n + 1) := by
  have h3 : ¬ (x.op = 1 ∨ x.op = 2) := by omega
  have h4 : ¬ (x.n < 1 ∨ d < x.n) := by omega
  simp [stepD, h, h3, h4]
theorem st_bad {x : InsR} {d : Int} (h : x.op = 3 ∨ x.op = 4) (h1 : x.n < 1 ∨ d < x.n) : stepD (some d) x = none := by
  have h3 : ¬ (x.op = 1 ∨ x.op = 2) := by omega
  simp [stepD, h, h3, h1]
theorem st_none {x : InsR} {d : Int} (h : ¬ (x.op = 1 ∨ x.op = 2)) (h1 : ¬ (x.op = 3 ∨ x.op = 4)) : stepD (some d) x = none := by
  simp [stepD, h, h1]
def foldE (f : El → El → El) : List El → El
  | [] => el0
  | [e] => e
  | a :: b :: l => f a (foldE f (b :: l))
theorem foldE_last {f : El → El → El} {l : List El} (h : l ≠ []) : foldE f (l.drop (l.length - 1)) = l.getD (l.length - 1) el0 := by
  have h2 : l.length - 1 < l.length := by have := List.length_pos_iff.2 h; omega
  rw [List.drop_eq_getElem_cons h2, List.drop_of_length_le (by omega), List.getD_eq_getElem?_getD, List.getElem?_eq_getElem h2]; rfl
theorem foldE_step {f : El → El → El} {l : List El} {i : Nat} (h : i + 1 < l.length) : foldE f (l.drop i) = f (l.getD i el0) (foldE f (l.drop (i + 1))) := by
  rw [List.drop_eq_getElem_cons (by omega : i < l.length), List.drop_eq_getElem_cons h, List.getD_eq_getElem?_getD, List.getElem?_eq_getElem (by omega)]
  rfl
def opE (s : Sh) (op : Int) (a b : El) : El := if op = 3 then joinS s a b else meetE a b
def stepE (s : Sh) (v : List El) (o : Option (List El)) (x : InsR) : Option (List El) := o.bind fun st =>
  if x.op = 1 then (if 0 ≤ x.n ∧ x.n < v.length then some (st ++ [v.getD x.n.toNat el0]) else none)
  else if x.op = 2 then some (st ++ [x.c])
  else some (st.take (st.length - x.n.toNat) ++ [foldE (opE s x.op) (st.drop (st.length - x.n.toNat))])
def stackTo (s : Sh) (v : List El) (l : List InsR) (k : Int) : Option (List El) := (l.take k.toNat).foldl (stepE s v) (some [])
def evalF (s : Sh) (l : List InsR) (v : List El) : El × Bool := if rightC l then (match stackTo s v l l.length with | some st => (st.getD 0 el0, true) | none => (el0, false)) else (el0, false)
theorem stack_next {s : Sh} {v : List El} {l : List InsR} {k : Int} (h0 : 0 ≤ k) (h1 : k < l.length) : stackTo s v l (k + 1) = stepE s v (stackTo s v l k) (l.getD k.toNat ins0) := fold_next h0 h1
theorem stack_dead (s : Sh) (v : List El) (l : List InsR) : l.foldl (stepE s v) none = none := by
  induction l with
  | nil => rfl
  | cons a l ih => rw [List.foldl_cons]; exact ih
theorem stack_cut {s : Sh} {v : List El} {l : List InsR} {k : Int} (h : stackTo s v l k = none) : stackTo s v l l.length = none := by
  unfold stackTo at h ⊢
  rw [Int.toNat_natCast, List.take_length]
  conv => lhs; rw [← List.take_append_drop k.toNat l]
  rw [List.foldl_append, h]; exact stack_dead ..
theorem deep_alive {l : List InsR} (h : rightC l = true) {k : Int} (hk : 0 ≤ k) : ∃ d, deepTo l k = some d := by
  cases hc : deepTo l k with
  | some d => exact ⟨d, rfl⟩
  | none => rw [rightC, deep_cut hk hc] at h; simp at h
theorem deep_ok {l : List InsR} (h : rightC l = true) {k d : Int} (h0 : 0 ≤ k) (h1 : k < l.length) (hd : deepTo l k = some d) :
    ((l.getD k.toNat ins0).op = 1 ∨ (l.getD k.toNat ins0).op = 2) ∧ deepTo l (k + 1) = some (d + 1) ∨ (((l.getD k.toNat ins0).op = 3 ∨ (l.getD k.toNat ins0).op = 4) ∧ 1 ≤ (l.getD k.toNat ins0).n ∧ (l.getD k.toNat ins0).n ≤ d) ∧ deepTo l (k + 1) = some (d - (l.getD k.toNat ins0).n + 1) := by
  obtain ⟨q, hq⟩ := deep_alive h (k := k + 1) (by omega)
  have hn := deep_next h0 h1
  rw [hd, hq] at hn
  by_cases c : (l.getD k.toNat ins0).op = 1 ∨ (l.getD k.toNat ins0).op = 2
  · left; exact ⟨c, by rw [hq, hn, st_push c]⟩
  · by_cases c2 : (l.getD k.toNat ins0).op = 3 ∨ (l.getD k.toNat ins0).op = 4
    · by_cases c3 : (l.getD k.toNat ins0).n < 1 ∨ d < (l.getD k.toNat ins0).n
      · rw [st_bad c2 c3] at hn; cases hn
      · right; exact ⟨⟨c2, by omega, by omega⟩, by rw [hq, hn, st_pop c2 (by omega) (by omega)]⟩
    · rw [st_none c c2] at hn; cases hn
theorem ev_no {s : Sh} {l : List InsR} {v : List El} (h : rightC l = false) : evalF s l v = (el0, false) := by rw [evalF, h]; rfl
theorem ev_dead {s : Sh} {l : List InsR} {v st : List El} {k : Int} (h0 : 0 ≤ k) (h1 : k < l.length) (hs : stackTo s v l k = some st) (ho : (l.getD k.toNat ins0).op = 1) (hv : (l.getD k.toNat ins0).n < 0 ∨ v.length ≤ (l.getD k.toNat ins0).n) : evalF s l v = (el0, false) := by
  have e : stackTo s v l (k + 1) = none := by
    have h3 : ¬ (0 ≤ (l.getD k.toNat ins0).n ∧ (l.getD k.toNat ins0).n < v.length) := by omega
    rw [stack_next h0 h1, hs]; generalize l.getD k.toNat ins0 = x at *; simp [stepE, ho, h3]
  rw [evalF, stack_cut e]; cases rightC l <;> rfl
theorem ev_end {s : Sh} {l : List InsR} {v st : List El} {k : Int} (hr : rightC l = true) (hk : k ≤ l.length) (h1 : ¬ k < l.length) (hs : stackTo s v l k = some st) : evalF s l v = (st.getD 0 el0, true) := by
  have e : (l.length : Int) = k := by omega
  rw [evalF, hr, e, hs]; rfl
theorem ev_1 {s : Sh} {l : List InsR} {v st : List El} {k : Int} (h0 : 0 ≤ k) (h1 : k < l.length) (hs : stackTo s v l k = some st) (ho : (l.getD k.toNat ins0).op = 1) (hv : 0 ≤ (l.getD k.toNat ins0).n ∧ (l.getD k.toNat ins0).n < v.length) : stackTo s v l (k + 1) = some (st ++ [v.getD (l.getD k.toNat ins0).n.toNat el0]) := by
  rw [stack_next h0 h1, hs]; generalize l.getD k.toNat ins0 = x at *; simp [stepE, ho, hv]
theorem ev_2 {s : Sh} {l : List InsR} {v st : List El} {k : Int} (h0 : 0 ≤ k) (h1 : k < l.length) (hs : stackTo s v l k = some st) (ho : (l.getD k.toNat ins0).op = 2) : stackTo s v l (k + 1) = some (st ++ [(l.getD k.toNat ins0).c]) := by
  rw [stack_next h0 h1, hs]; generalize l.getD k.toNat ins0 = x at *; simp [stepE, ho]
theorem ev_3 {s : Sh} {l : List InsR} {v st : List El} {k : Int} (h0 : 0 ≤ k) (h1 : k < l.length) (hs : stackTo s v l k = some st) (h2 : ¬ (l.getD k.toNat ins0).op = 1) (h3 : ¬ (l.getD k.toNat ins0).op = 2) : stackTo s v l (k + 1) = some (st.take (st.length - (l.getD k.toNat ins0).n.toNat) ++ [foldE (opE s (l.getD k.toNat ins0).op) (st.drop (st.length - (l.getD k.toNat ins0).n.toNat))]) := by
  rw [stack_next h0 h1, hs]; generalize l.getD k.toNat ins0 = x at *; simp [stepE, h2, h3]
theorem ev_3i {s : Sh} {l : List InsR} {v st : List El} {k q : Int} (h0 : 0 ≤ k) (h1 : k < l.length) (hs : stackTo s v l k = some st) (h2 : ¬ (l.getD k.toNat ins0).op = 1) (h3 : ¬ (l.getD k.toNat ins0).op = 2) (hq : q = (st.length : Int) - (l.getD k.toNat ins0).n) (hn : 0 ≤ (l.getD k.toNat ins0).n) :
    stackTo s v l (k + 1) = some (st.take q.toNat ++ [foldE (opE s (l.getD k.toNat ins0).op) (st.drop q.toNat)]) := by
  rw [ev_3 h0 h1 hs h2 h3, show st.length - (l.getD k.toNat ins0).n.toNat = q.toNat by omega]
theorem foldE_k {f : El → El → El} {l : List El} {k : Int} (h0 : 0 ≤ k) (h1 : k + 1 < l.length) : foldE f (l.drop k.toNat) = f (l.getD k.toNat el0) (foldE f (l.drop (k + 1).toNat)) := by
  rw [show (k + 1).toNat = k.toNat + 1 by omega]; exact foldE_step (by omega)
theorem opE_3 {s : Sh} {op : Int} {a b : El} (h : op = 3) : joinS s a b = opE s op a b := by rw [opE, if_pos h]
theorem opE_4 {s : Sh} {op : Int} {a b : El} (h : ¬ op = 3) : meetE a b = opE s op a b := by rw [opE, if_neg h]
theorem deep_pop {l : List InsR} (h : rightC l = true) {k d : Int} (h0 : 0 ≤ k) (h1 : k < l.length) (hd : deepTo l k = some d) (h2 : ¬ (l.getD k.toNat ins0).op = 1) (h3 : ¬ (l.getD k.toNat ins0).op = 2) :
    1 ≤ (l.getD k.toNat ins0).n ∧ (l.getD k.toNat ins0).n ≤ d ∧ deepTo l (k + 1) = some (d - (l.getD k.toNat ins0).n + 1) := by
  rcases deep_ok h h0 h1 hd with ⟨ho, _⟩ | ⟨⟨_, a, b⟩, c⟩
  · omega
  · exact ⟨a, b, c⟩
theorem deep_fin {l : List InsR} (h : rightC l = true) {k d : Int} (hk : k ≤ l.length) (h1 : ¬ k < l.length) (hd : deepTo l k = some d) : d = 1 := by
  have e := rc_end hk h1 hd
  rw [h] at e; exact of_decide_eq_true e.symm
end Go.Proofs.YtdfbimlpondblaaGreatDoor.M
