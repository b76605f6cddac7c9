/-
  Own rows that may have been cut with their capacity: their block may be longer than the slice reaches.
-/
import Derived.Test.YtdfbimlpondblaaGreatDoorGap
import Derived.Test.YtdfbimlpondblaaGreatDoorFsx
import Derived.Scope
namespace Go.Proofs.YtdfbimlpondblaaGreatDoor.E
open Go Go.RowKit Go.Proofs.YtdfbimlpondblaaGreatDoor.M
set_option linter.unusedVariables false
set_option linter.unusedSimpArgs false
def cEnt (c : Option (Nat × Array Value)) (v : Value) (e : TypeId) (sz n : Nat) (xs : List Value) : Ent :=
  match c with
  | none => .row v e sz n xs
  | some (b, cur) => .blk b (.cells cur e (0, 0))
def cOk (c : Option (Nat × Array Value)) (v : Value) (sz n : Nat) (xs : List Value) : Prop :=
  match c with
  | none => True
  | some (b, cur) => v = .slice (some ⟨b, 0, none⟩) n n ∧ xs.length = n * sz ∧ cur.toList.take (n * sz) = xs ∧ n ≤ maxLen
section
variable {w0 w : World} {L : List Ent} {c : Option (Nat × Array Value)} {v : Value} {e : TypeId} {sz n m i : Nat} {xs : List Value}
variable {P : Program} {σ : Env} {ty t : TypeId} {pos : String} {aft : Array Edge} {dst : Option Tmp} {g : Option (Nat × Bool)} {x y : Operand} {u : Value} {o : Nat}
end
section
variable {P : Program} {σ : Env} {w : World} {t te ty u : TypeId} {pos : String} {aft : Array Edge} {dst : Option Tmp} {g : Option (Nat × Bool)} {x y : Operand} {a : Addr}
theorem run_ptrEq0 (d : Nat) (ht : P.underlying t = some (.pointer te)) : (Op.equalIn (d + 1) t (.pointer (some a)) (.pointer none)).run P w = .ok false w := by
  simp [Op.equalIn, run_underlying ht]
theorem run_ptrEq1 (d : Nat) (ht : P.underlying t = some (.pointer te)) : (Op.equalIn (d + 1) t (.pointer none) (.pointer none)).run P w = .ok true w := by
  simp [Op.equalIn, run_underlying ht]
end
theorem Sl.atU {w : World} {v : Value} {W : List (BitVec 64)} (h : Sl w v 1 W.length (W.map U)) {i : Int} (h0 : 0 ≤ i) (h1 : i < W.length) : w.cell? ⟨sb v, so v + i.toNat * 1, none⟩ = some (U (W.getD i.toNat 0)) := by
  refine h.cell _ _ ?_
  rw [Nat.mul_one, List.getElem?_map, List.getElem?_eq_getElem (by omega), List.getD_eq_getElem?_getD, List.getElem?_eq_getElem (by omega)]; rfl
/-! ### Lists of single cells -/
def cE (c : Option (Nat × Array Value)) (v : Value) (e : TypeId) (xs : List Value) : Ent := cEnt c v e 1 xs.length xs
def cO (c : Option (Nat × Array Value)) (v : Value) (xs : List Value) : Prop := cOk c v 1 xs.length xs
section
variable {P : Program} {n : Nat} {k : K} {l : List Oper} {σ : Env} {w0 w : World} {L L' : List Ent} {ty t e : TypeId} {pos : String} {aft : Array Edge} {d : Nat} {x y : Operand} {g : Option (Nat × Bool)} {v u : Value} {c : Option (Nat × Array Value)} {xs : List Value} {i m fuel j : Nat} {listed : Array Bool} {W : List (BitVec 64)} {y0 : Value}
theorem set_mapU {o : Nat} {b : BitVec 64} : (W.map U).set o (U b) = (W.set o b).map U := List.map_set.symm
theorem putL_set {o : Nat} (ho : o < xs.length) : putL xs o [u] = xs.set o u := by
  rw [putL, List.set_eq_take_append_cons_drop, if_pos ho]; simp
end
/-! ### Closures that undo -/
structure UT where
  fA : FuncId
  fS : FuncId
  tc : TypeId
  ti : TypeId
  tu : TypeId
def UndIn (T : UT) (F : Nat) (L : List Ent) (x : Value × Und) : Prop :=
  match x.2 with
  | .add n => ∃ b1 b2, x.1 = .func (.func T.fA) #[] #[.pointer (some ⟨b1, 0, none⟩), .pointer (some ⟨b2, 0, none⟩)] ∧ Ent.blk b1 (.cells #[.pointer (some ⟨F, 0, none⟩)] T.tc (0, 0)) ∈ L ∧ Ent.blk b2 (.cells #[I n] T.ti (0, 0)) ∈ L
  | .set i b => ∃ b1 b2 b3, x.1 = .func (.func T.fS) #[] #[.pointer (some ⟨b1, 0, none⟩), .pointer (some ⟨b2, 0, none⟩), .pointer (some ⟨b3, 0, none⟩)] ∧ Ent.blk b1 (.cells #[U b] T.tu (0, 0)) ∈ L ∧ Ent.blk b2 (.cells #[.pointer (some ⟨F, 0, none⟩)] T.tc (0, 0)) ∈ L ∧ Ent.blk b3 (.cells #[I i] T.ti (0, 0)) ∈ L
theorem UndIn.mono {T : UT} {F : Nat} {L L' : List Ent} {x : Value × Und} (h : UndIn T F L x) (hs : ∀ e ∈ L, e ∈ L') : UndIn T F L' x := by
  obtain ⟨v, u⟩ := x
  cases u with
  | add n => obtain ⟨b1, b2, h1, h2, h3⟩ := h; exact ⟨b1, b2, h1, hs _ h2, hs _ h3⟩
  | set i b => obtain ⟨b1, b2, b3, h1, h2, h3, h4⟩ := h; exact ⟨b1, b2, b3, h1, hs _ h2, hs _ h3, hs _ h4⟩
section
variable {P : Program} {n : Nat} {k : K} {xs : List (Nat × K)} {r : K} {σ : Env} {w : World}
end
/-! ### A node more -/
def litN (n : Nat) (k : Int) : Int := if k = 1 then 1 else n
def addT (m : Nat) (k : Int) : List Und := (List.range k.toNat).map fun j => Und.add (m + j)
end Go.Proofs.YtdfbimlpondblaaGreatDoor.E
