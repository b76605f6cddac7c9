/-
  Assignments, plainly: their rows' values, how they are ordered, met, and looked at.
-/
import Derived.Test.YtkdbiooamgnfmaaGreatDoorSpy
namespace Go.Proofs.YtkdbiooamgnfmaaGreatDoor.E
open Go Go.RowKit Go.Proofs.YtkdbiooamgnfmaaGreatDoor.M
set_option linter.unusedVariables false
set_option linter.unusedSimpArgs false
/-! ### Texts in order -/
def lessT (a b : Tx) : Bool := Op.bytesLess a.toList b.toList
theorem bless_irr : ∀ a : List UInt8, Op.bytesLess a a = false
  | [] => rfl
  | x :: a => by
    rw [Op.bytesLess, bless_irr a]
    have : ¬ x < x := UInt8.lt_irrefl x
    simp [this]
theorem bless_trans : ∀ {a b c : List UInt8}, Op.bytesLess a b = true → Op.bytesLess b c = true → Op.bytesLess a c = true
  | _, [], _, h, _ => by cases ‹List UInt8› <;> simp [Op.bytesLess] at h
  | _, _ :: _, [], _, h => by simp [Op.bytesLess] at h
  | [], _ :: _, _ :: _, _, _ => by simp [Op.bytesLess]
  | x :: a, y :: b, z :: c, h, h' => by
    simp only [Op.bytesLess, Bool.or_eq_true, Bool.and_eq_true, decide_eq_true_eq, beq_iff_eq] at h h' ⊢
    rcases h with h | ⟨rfl, h⟩
    · rcases h' with h' | ⟨rfl, h'⟩
      · exact .inl (UInt8.lt_trans h h')
      · exact .inl h
    · rcases h' with h' | ⟨rfl, h'⟩
      · exact .inl h'
      · exact .inr ⟨rfl, bless_trans h h'⟩
theorem less_irr (a : Tx) : lessT a a = false := bless_irr _
theorem less_trans {a b c : Tx} (h : lessT a b = true) (h' : lessT b c = true) : lessT a c = true := bless_trans h h'
section
variable {P : Program} {σ : Env} {w : World} {dst : Option Tmp} {ty t u : TypeId} {pos : String} {aft : Array Edge} {g : Option (Nat × Bool)} {x y : Operand} {a b : Tx}
theorem run_lssS (hx : ev σ x = S a) (hy : ev σ y = S b) : (execOp (ev σ) ⟨dst, .binOp .lss t x y u, ty, pos, aft, g⟩).run P w = .ok (.value (.bool (lessT a b))) w :=
  run_binS hx hy (by simp [binOp, Op.stringOp]; rfl)
end
/-! ### Values of rows -/
structure ValR where
  name : Tx
  el : El
def val0 : ValR := ⟨tx0, el0⟩
def valL (v : ValR) : List Value := S v.name :: elL v.el
theorem valL_len (v : ValR) : (valL v).length = 9 := by simp [valL, elL_len]
def vfind (l : List ValR) (f : Tx) : Int := findV (fun i => decide ((l.getD i.toNat val0).name = f)) l.length
def getF (l : List ValR) (f : Tx) : El × Bool := if vfind l f < 0 then (el0, false) else ((l.getD (vfind l f).toNat val0).el, true)
theorem get_no {l : List ValR} {f : Tx} (h : vfind l f < 0) : getF l f = (el0, false) := if_pos h
theorem get_yes {l : List ValR} {f : Tx} (h : ¬ vfind l f < 0) : getF l f = ((l.getD (vfind l f).toNat val0).el, true) := if_neg h
theorem vfind_in {l : List ValR} {f : Tx} (h : ¬ vfind l f < 0) : 0 ≤ vfind l f ∧ vfind l f < l.length := by
  have := (find_bd (fun i => decide ((l.getD i.toNat val0).name = f)) l.length).2; unfold vfind at h ⊢; omega
def spot (l : List ValR) (f : Tx) : Nat := if 0 ≤ findV (fun i => lessT f (l.getD i.toNat val0).name) l.length then (findV (fun i => lessT f (l.getD i.toNat val0).name) l.length).toNat else l.length
def withF (l : List ValR) (f : Tx) (e : El) : List ValR := if vfind l f < 0 then l.take (spot l f) ++ ⟨f, e⟩ :: l.drop (spot l f) else l.set (vfind l f).toNat ⟨f, e⟩
def sameV (a b : ValR) : Bool := decide (a.name = b.name) && decide (eqE a.el b.el)
def sameL (l m : List ValR) : Bool := decide (l.length = m.length) && (upto l.length).all fun i => sameV (l.getD i.toNat val0) (m.getD i.toNat val0)
theorem sameL_no1 {l m : List ValR} (h : ¬ (l.length : Int) = m.length) : sameL l m = false := by rw [sameL, decide_eq_false (fun e => h (by rw [e]))]; rfl
theorem sameL_no2 {l m : List ValR} {k : Int} (h0 : 0 ≤ k) (h1 : k < l.length) (h : sameV (l.getD k.toNat val0) (m.getD k.toNat val0) = false) : sameL l m = false := by
  cases hc : sameL l m with
  | false => rfl
  | true =>
    rw [sameL, Bool.and_eq_true, List.all_eq_true] at hc
    rw [hc.2 k (mem_upto.2 ⟨h0, h1⟩)] at h; cases h
theorem sameL_yes {l m : List ValR} {k : Int} (h : (l.length : Int) = m.length) (hk : ¬ k < l.length) (hf : ∀ j : Int, 0 ≤ j → j < k → sameV (l.getD j.toNat val0) (m.getD j.toNat val0) = true) : sameL l m = true := by
  rw [sameL, decide_eq_true (by omega), List.all_eq_true.2 fun j hj => by
    have := mem_upto.1 hj; exact hf j this.1 (by omega)]; rfl
/-! ### Assignments -/
structure As where
  labels : List El
  rows : List (List ValR)
def labelF (a : As) (i : Nat) : El := a.labels.getD i el0
def rowF (a : As) (i : Nat) : List ValR := a.rows.getD i []
def sameA (a b : As) : Bool := decide (a.labels.length = b.labels.length ∧ a.rows.length = b.rows.length) && ((upto a.labels.length).all fun i => decide (eqE (a.labels.getD i.toNat el0) (b.labels.getD i.toNat el0))) && (upto a.rows.length).all fun i => sameL (a.rows.getD i.toNat []) (b.rows.getD i.toNat [])
def belowL (l m : List ValR) : Bool := l.all fun v => (getF m v.name).2 && leqE v.el (getF m v.name).1
def leqA (a b : As) : Bool := ((upto a.labels.length).all fun i => leqE (a.labels.getD i.toNat el0) (b.labels.getD i.toNat el0)) && (upto a.rows.length).all fun i => belowL (a.rows.getD i.toNat []) (b.rows.getD i.toNat [])
def bothF (l m : List ValR) : List ValR := l.filterMap fun v => if (getF m v.name).2 then some ⟨v.name, meetE v.el (getF m v.name).1⟩ else none
def meetA (a b : As) : As := ⟨(a.labels.zip b.labels).map fun p => meetE p.1 p.2, (a.rows.zip b.rows).map fun p => bothF p.1 p.2⟩
theorem zip_next {α β γ : Type} {F : α × β → γ} {l : List α} {m : List β} {k : Int} {da : α} {db : β} (h0 : 0 ≤ k) (h1 : k < l.length) (h2 : k < m.length) :
    ((l.zip m).take (k + 1).toNat).map F = ((l.zip m).take k.toNat).map F ++ [F (l.getD k.toNat da, m.getD k.toNat db)] := by
  have h3 : (l.zip m)[k.toNat]? = some (l.getD k.toNat da, m.getD k.toNat db) := by
    rw [List.getElem?_zip_eq_some]; exact ⟨getD_at (d := da) h0 h1, getD_at (d := db) h0 h2⟩
  rw [show (k + 1).toNat = k.toNat + 1 by omega, List.take_add_one, h3, List.map_append]; rfl
section
variable {l m : List ValR} {k : Int}
end
theorem upAll_no {n k : Int} {P : Int → Bool} (h0 : 0 ≤ k) (h1 : k < n) (h : P k = false) : (upto n).all P = false := by
  cases hc : (upto n).all P with
  | false => rfl
  | true => rw [List.all_eq_true] at hc; rw [hc k (mem_upto.2 ⟨h0, h1⟩)] at h; cases h
theorem upAll_yes {n k : Int} {P : Int → Bool} (hk : ¬ k < n) (h : ∀ j : Int, 0 ≤ j → j < k → P j = true) : (upto n).all P = true :=
  List.all_eq_true.2 fun j hj => by have := mem_upto.1 hj; exact h j this.1 (by omega)
section
variable {a b : As} {k : Int}
end
/-! ### Right assignments -/
def orderedF (l : List ValR) : Bool := (upto l.length).all fun i => nameR (l.getD i.toNat val0).name && (decide (i ≤ 0) || lessT (l.getD (i - 1).toNat val0).name (l.getD i.toNat val0).name)
def fitsF (s : Sh) (l : List ValR) : Bool := l.all fun v => fitsS s v.el
structure Sc where
  lats : List Sh
  vars : List VarR
def okV (s : Sc) (v : VarR) (e : El) (l : List ValR) : Bool := decide (0 ≤ v.lat ∧ v.lat < s.lats.length) &&
  (if v.kind = 1 then decide (l.length = 0) && fitsS (s.lats.getD v.lat.toNat ⟨false, []⟩) e
   else if v.kind = 2 then decide (eqE e el0) && orderedF l && fitsF (s.lats.getD v.lat.toNat ⟨false, []⟩) l else false)
def rightA (s : Sc) (a : As) : Bool := decide (a.labels.length = s.vars.length ∧ a.rows.length = s.vars.length) && (upto s.vars.length).all fun i => okV s (s.vars.getD i.toNat var0) (a.labels.getD i.toNat el0) (a.rows.getD i.toNat [])
def botV (s : Sc) (v : VarR) : El := if v.kind = 1 ∧ 0 ≤ v.lat ∧ v.lat < s.lats.length then eachS (s.lats.getD v.lat.toNat ⟨false, []⟩) leastF else el0
def leastA (s : Sc) : As := ⟨s.vars.map (botV s), s.vars.map fun _ => []⟩
end Go.Proofs.YtkdbiooamgnfmaaGreatDoor.E
