/-
  The logic over texts, and what names are, plainly.
-/
import Derived.Test.YtkdbiooamgnfmaaGreatDoorRel
import Derived.Test.YtkdbiooamgnfmaaGreatDoorHas
import Derived.Test.YtkdbiooamgnfmaaGreatDoorArr
import Derived.Laws.Strings
import Derived.Laws.Concat
namespace Go.Proofs.YtkdbiooamgnfmaaGreatDoor.M
set_option linter.unusedVariables false
abbrev Tx := ByteArray
def byteAt (s : Tx) (i : Int) : Int := ((s.data.toList.getD i.toNat 0).toNat : Int)
def letterB (c : Int) : Bool := decide (97 ≤ c ∧ c ≤ 122)
def goesB (c : Int) : Bool := decide ((97 ≤ c ∧ c ≤ 122) ∨ (48 ≤ c ∧ c ≤ 57) ∨ c = 95)
def nameR (s : Tx) : Bool := decide (1 ≤ s.size ∧ s.size ≤ 16) && letterB (byteAt s 0) && (upto s.size).all fun i => goesB (byteAt s i)
theorem nameR_no1 {s : Tx} (h : ¬ (1 ≤ s.size ∧ s.size ≤ 16)) : nameR s = false := by rw [nameR, decide_eq_false h]; rfl
theorem nameR_no2 {s : Tx} (h : letterB (byteAt s 0) = false) : nameR s = false := by rw [nameR, h]; simp
theorem nameR_no3 {s : Tx} {i : Int} (i0 : 0 ≤ i) (i1 : i < s.size) (h : goesB (byteAt s i) = false) : nameR s = false := by
  cases hc : nameR s with
  | false => rfl
  | true =>
    rw [nameR, Bool.and_eq_true, List.all_eq_true] at hc
    rw [hc.2 i (mem_upto.2 ⟨i0, i1⟩)] at h; cases h
theorem nameR_yes {s : Tx} {k : Int} (h1 : 1 ≤ s.size ∧ s.size ≤ 16) (h2 : letterB (byteAt s 0) = true) (hk : ¬ k < s.size) (hf : ∀ j : Int, 0 ≤ j → j < k → goesB (byteAt s j) = true) : nameR s = true := by
  rw [nameR, decide_eq_true h1, h2, Bool.true_and, Bool.true_and, List.all_eq_true]
  intro x hx
  have := mem_upto.1 hx
  exact hf x this.1 (by omega)
theorem goes_letter {c : Int} (h : letterB c = true) : goesB c = true := by
  rw [letterB, decide_eq_true_eq] at h
  rw [goesB, decide_eq_true (.inl h)]
def findV (P : Int → Bool) (n : Int) : Int := if (firstV P n).2 then (firstV P n).1 else -1
theorem find_yes {P : Int → Bool} {n k : Int} (h0 : 0 ≤ k) (hk : k < n) (hp : P k = true) (hf : ∀ j : Int, 0 ≤ j → j < k → P j = false) : findV P n = k := by
  rw [findV, first_yes h0 hk hp hf]; rfl
theorem find_no {P : Int → Bool} {n : Int} (hf : ∀ j : Int, 0 ≤ j → j < n → P j = false) : findV P n = -1 := by
  rw [findV, first_no hf]; rfl
theorem find_cases (P : Int → Bool) (n : Int) : (∃ k : Int, 0 ≤ k ∧ k < n ∧ P k = true ∧ (∀ j : Int, 0 ≤ j → j < k → P j = false) ∧ findV P n = k) ∨ ((∀ j : Int, 0 ≤ j → j < n → P j = false) ∧ findV P n = -1) := by
  rcases first_cases P n with ⟨k, h0, h1, h2, h3, -⟩ | ⟨h, -⟩
  · exact .inl ⟨k, h0, h1, h2, h3, find_yes h0 h1 h2 h3⟩
  · exact .inr ⟨h, find_no h⟩
theorem find_bd (P : Int → Bool) (n : Int) : -1 ≤ findV P n ∧ (0 ≤ findV P n → findV P n < n) := by
  rcases find_cases P n with ⟨k, h0, h1, -, -, h⟩ | ⟨-, h⟩ <;> omega
abbrev tx0 : Tx := ⟨#[]⟩
def nfind (l : List Tx) (s : Tx) : Int := findV (fun i => decide (l.getD i.toNat tx0 = s)) l.length
theorem getD_at {α : Type} {l : List α} {d : α} {i : Int} (h0 : 0 ≤ i) (h : i < l.length) : l[i.toNat]? = some (l.getD i.toNat d) := by
  rw [List.getD_eq_getElem?_getD, List.getElem?_eq_getElem (by omega)]; rfl
theorem getD_take {α : Type} {l : List α} {d : α} {i k : Int} (h0 : 0 ≤ i) (h : i < k) : (l.take k.toNat).getD i.toNat d = l.getD i.toNat d := by
  rw [List.getD_eq_getElem?_getD, List.getD_eq_getElem?_getD, List.getElem?_take_of_lt (by omega)]
def twice (l : List Tx) : Int := findV (fun i => decide (nfind l (l.getD i.toNat tx0) < i)) l.length
theorem tx_ahead {l : List Tx} {i : Int} (i0 : 0 ≤ i) (i1 : i < l.length) : decide (nfind (l.take i.toNat) (l.getD i.toNat tx0) ≥ 0) = decide (nfind l (l.getD i.toNat tx0) < i) := by
  rw [Bool.eq_iff_iff, decide_eq_true_eq, decide_eq_true_eq]
  have hl : ((l.take i.toNat).length : Int) = i := by rw [List.length_take]; omega
  rw [nfind, hl]
  rcases find_cases (fun j => decide ((l.take i.toNat).getD j.toNat tx0 = l.getD i.toNat tx0)) i with ⟨k, k0, k1, k2, k3, e⟩ | ⟨h, e⟩
  · rw [e]
    have h1 : nfind l (l.getD i.toNat tx0) = k := find_yes k0 (by omega) (by rw [← k2, getD_take k0 k1]) fun j a b => by
      rw [← k3 j a b, getD_take a (by omega)]
    rw [h1]; omega
  · rw [e]
    have h1 : nfind l (l.getD i.toNat tx0) = i := find_yes i0 i1 (by simp) fun j a b => by
      rw [← h j a b, getD_take a b]
    rw [h1]; omega
def sameN (a b : List Tx) : Bool := decide (a = b)
end Go.Proofs.YtkdbiooamgnfmaaGreatDoor.M
namespace Go.Proofs.YtkdbiooamgnfmaaGreatDoor.E
open Go Go.RowKit Go.Proofs.YtkdbiooamgnfmaaGreatDoor.M
set_option linter.unusedVariables false
abbrev S (s : Tx) : Value := .string s
abbrev txL (l : List Tx) : List Value := l.map Value.string
theorem txL_at {l : List Tx} {k : Int} (h : 0 ≤ k ∧ k < l.length) : (txL l)[k.toNat * 1]? = some (S (l.getD k.toNat tx0)) := by
  rw [Nat.mul_one, List.getElem?_map, getD_at h.1 h.2]; rfl
theorem one_sl {w : World} {v : Value} {sz n : Nat} {c : List Value} (h : Sl w v sz n c) : v.oneCell' = true ∧ v.cells = #[v] := by
  obtain ⟨a, cap, rfl, -, -⟩ := h.shape; exact ⟨rfl, rfl⟩
theorem Sl.cutT {w : World} {v : Value} {l : List Tx} {n : Int} (h : Sl w v 1 l.length (txL l)) (hn : 0 ≤ n ∧ n ≤ l.length) : Sl w (cutV v n.toNat) 1 (l.take n.toNat).length (txL (l.take n.toNat)) :=
  (h.cut n.toNat (by omega)).conv (by rw [List.length_take]; omega) (by rw [Nat.mul_one]; exact List.map_take.symm)
theorem tx_nil {s : Tx} : s = tx0 ↔ s.size = 0 := by
  constructor
  · intro h; rw [h]; rfl
  · intro h
    cases s with
    | mk d =>
      have : d.size = 0 := h
      have e : d = #[] := Array.eq_empty_of_size_eq_zero this
      rw [e]
section runs
variable {P : Program} {σ : Env} {w : World} {dst : Option Tmp} {ty t u : TypeId} {pos : String} {aft : Array Edge} {g : Option (Nat × Bool)} {x y : Operand} {a b : Tx} {k : IntKind} {i : Int}
theorem beq_tx (a b : Tx) : (a.toList == b.toList) = decide (a = b) := by
  rw [ByteArray.toList_eq, ByteArray.toList_eq, Bool.eq_iff_iff, beq_iff_eq, decide_eq_true_eq]
  constructor
  · exact fun h => WideShapes.bytes_inj h
  · exact fun h => by rw [h]
theorem run_binS {op : BinOp} {v : Value} (hx : ev σ x = S a) (hy : ev σ y = S b) (h : (binOp op t (S a) (S b)).run P w = .ok v w) :
    (execOp (ev σ) ⟨dst, .binOp op t x y u, ty, pos, aft, g⟩).run P w = .ok (.value v) w := by
  have he : (eqGuard op t x y (S a) (S b)) = pure () := by cases op <;> rfl
  simp [execOp, hx, hy, he, h]
theorem run_eqlS (hx : ev σ x = S a) (hy : ev σ y = S b) : (execOp (ev σ) ⟨dst, .binOp .eql t x y u, ty, pos, aft, g⟩).run P w = .ok (.value (.bool (decide (a = b)))) w :=
  run_binS hx hy (by rw [binOp_string_eql, beq_tx]; rfl)
theorem run_neqS (hx : ev σ x = S a) (hy : ev σ y = S b) : (execOp (ev σ) ⟨dst, .binOp .neq t x y u, ty, pos, aft, g⟩).run P w = .ok (.value (.bool (decide (a ≠ b)))) w :=
  run_binS hx hy (by rw [binOp_string_neq, beq_tx]; simp)
theorem run_idxS (ht : P.underlying t = some .string) (hx : ev σ x = S a) (hy : ev σ y = .int k i) (h : 0 ≤ i ∧ i < a.size) : (execOp (ev σ) ⟨dst, .index t x y, ty, pos, aft, g⟩).run P w = .ok (.value (.int .u8 (byteAt a i))) w := by
  have h1 := run_index_string (P := P) w t a k i ht
  rw [dif_pos h] at h1
  have h2 : ((a[i.toNat]'(by omega)).toNat : Int) = byteAt a i := by
    have hl : i.toNat < a.data.toList.length := by
      have : a.data.toList.length = a.size := by cases a; rfl
      omega
    rw [byteAt, List.getD_eq_getElem?_getD, List.getElem?_eq_getElem hl]
    cases a; rfl
  rw [h2] at h1
  simp [execOp, hx, hy, h1]
end runs
end Go.Proofs.YtkdbiooamgnfmaaGreatDoor.E
