/-
  Short names for what the walks say most.
-/
import Derived.Test.YtieckcbckgalhaaGreatDoorRec
namespace Go.Proofs.YtieckcbckgalhaaGreatDoor.E
open Go Go.RowKit Go.Proofs.YtieckcbckgalhaaGreatDoor.M
set_option linter.unusedVariables false
section
variable {P : Program} {n : Nat} {l : List Oper} {S : World → Prop} {k : K} {xs : List (Nat × K)} {r : K} {σ : Env} {w : World} {fuel i d : Nat} {listed : Array Bool} {op : Op} {ty : TypeId} {pos : String} {aft : Array Edge} {g : Option (Nat × Bool)} {v : Value} {dst : Option Tmp}
theorem V {ops : Array Oper} {rest : List Oper} {w' : World} (hr : (execOp (ev σ) ⟨some d, op, ty, pos, aft, none⟩).run P w = .ok (.value v) w') (hk : RL P n ops k rest (upd σ d v) w') (hd : Nat.blt d n = true := by rfl) : RL P n ops k (⟨some d, op, ty, pos, aft, none⟩ :: rest) σ w := RL.val hd hr hk
abbrev Pn (b o : Nat) : Value := .pointer (some ⟨b, o, none⟩)
theorem mV {x : Operand} (v : Value) (hx : ev σ x = v) : (execOp (ev σ) ⟨dst, .move x, ty, pos, aft, g⟩).run P w = .ok (.value v) w := run_move hx
theorem aV {x : Operand} (v : Value) (hx : ev σ x = v) : (execOp (ev σ) ⟨dst, .assign x, ty, pos, aft, g⟩).run P w = .ok (.value v) w := run_assign hx
theorem AT (i : Nat) (hi : l[i]? = some ⟨some d, op, ty, pos, aft, none⟩) (hS : S w) (hy : ∀ w, S w → (execOp (ev σ) ⟨some d, op, ty, pos, aft, none⟩).run P w = .ok (.value v) w)
    (h : AN P n l S k fuel (listed.setIfInBounds i true) (upd σ d v) w) (hd : Nat.blt d n = true := by rfl) (hs : Region.noSelect l.toArray = true := by kernel_rfl) (hf : Region.free .any l.toArray listed i = true := by kernel_rfl)
    (hr : (Region.ready .any l.toArray listed).contains i = true := by kernel_rfl) : AN P n l S k (fuel + 1) listed σ w := AN.take i hi hd hs hf hr hS hy h
theorem AG (i : Nat) {j dj : Nat} {want : Bool} (hi : l[i]? = some ⟨some d, op, ty, pos, aft, some (j, want)⟩) (hj : (l[j]?).bind (·.dst) = some dj) (hb : σ dj = .bool want)
    (hS : S w) (hy : ∀ w, S w → (execOp (ev σ) ⟨some d, op, ty, pos, aft, some (j, want)⟩).run P w = .ok (.value v) w)
    (h : AN P n l S k fuel (listed.setIfInBounds i true) (upd σ d v) w) (hd : Nat.blt d n = true := by rfl) (hs : Region.noSelect l.toArray = true := by kernel_rfl) (hf : Region.free .any l.toArray listed i = true := by kernel_rfl)
    (hr : (Region.ready .any l.toArray listed).contains i = true := by kernel_rfl) : AN P n l S k (fuel + 1) listed σ w := AN.takeG i hi hj hb hd hs hf hr hS hy h
theorem AK (i : Nat) {j dj : Nat} {b want : Bool} (hi : l[i]? = some ⟨some d, op, ty, pos, aft, some (j, want)⟩) (hj : (l[j]?).bind (·.dst) = some dj) (hb : σ dj = .bool b) (hS : S w)
    (h : AN P n l S k fuel (listed.setIfInBounds i true) (upd σ d undef) w) (hne : (b == want) = false := by rfl) (hd : Nat.blt d n = true := by rfl) (hs : Region.noSelect l.toArray = true := by kernel_rfl) (hf : Region.free .any l.toArray listed i = true := by kernel_rfl)
    (hr : (Region.ready .any l.toArray listed).contains i = true := by kernel_rfl) : AN P n l S k (fuel + 1) listed σ w := AN.skipG i hi hj hb hne hd hs hf hr hS h
theorem AU (i : Nat) {j dj : Nat} {want : Bool} (hi : l[i]? = some ⟨some d, op, ty, pos, aft, some (j, want)⟩) (hj : (l[j]?).bind (·.dst) = some dj) (hu : σ dj = undef) (hS : S w)
    (h : AN P n l S k fuel (listed.setIfInBounds i true) (upd σ d undef) w) (hd : Nat.blt d n = true := by rfl) (hs : Region.noSelect l.toArray = true := by kernel_rfl) (hf : Region.free .any l.toArray listed i = true := by kernel_rfl)
    (hr : (Region.ready .any l.toArray listed).contains i = true := by kernel_rfl) : AN P n l S k (fuel + 1) listed σ w := AN.skipU i hi hj hu hd hs hf hr hS h
theorem AD (h : k σ w) (hr : Region.ready .any l.toArray listed = [] := by kernel_rfl) : AN P n l S k fuel listed σ w := AN.done hr h
theorem A1 (i : Nat) (h : AO P n l S k fuel listed σ w i) (hr : Region.ready .any l.toArray listed = [i] := by kernel_rfl) : AN P n l S k (fuel + 1) listed σ w := AN.one i hr h
theorem SR {id : Nat} {y : Code} (h : RL P n l.toArray (fun σ w => CW P n y k xs r σ w) l σ w) : CW P n (.seq (.region id l.toArray false) y) k xs r σ w := CW.seq (CW.region h)
theorem fA {x : Operand} {s i m b o : Nat} {fs : Array Field} {f : Field} (hu : P.underlying s = some (.struct fs)) (off : Nat) (hf : fs[i]? = some f) (hs : ∀ w, (sizeOf f.type).run P w = .ok m w) (hx : ev σ x = .pointer (some ⟨b, o, none⟩)) (ho : f.offset = off := by rfl) (hn : m ≠ 0 := by decide) :
    (execOp (ev σ) ⟨dst, .fieldAddr s x i, ty, pos, aft, g⟩).run P w = .ok (.value (.pointer (some ⟨b, o + off, none⟩))) w := run_fieldAddr hu hf ho hs hn hx
end
theorem sQ {α : Type} {a : α} {l l' : List α} (h : l.Sublist l') : l.Sublist (a :: l') := .cons _ h
theorem sP {α : Type} {a : α} {l l' : List α} (h : l.Sublist l') : (a :: l).Sublist (a :: l') := .cons_cons _ h
theorem sR {α : Type} {l : List α} : l.Sublist l := .refl _
theorem sA {α : Type} {l l' m : List α} (h : l.Sublist l') : l.Sublist (m ++ l') := List.sublist_append_of_sublist_right h
theorem pC {α : Type} {a : α} {l l' : List α} (h : l.Perm l') : (a :: l).Perm (a :: l') := .cons _ h
theorem pR {α : Type} {l : List α} : l.Perm l := .refl _
theorem pS {α : Type} {a b : α} {l : List α} : (b :: a :: l).Perm (a :: b :: l) := .swap _ _ _
theorem z0 {α : Type} {a b : α} {l : List α} : (a :: l).set 0 b = b :: l := rfl
theorem z1 {α : Type} {a b : α} {l : List α} {i : Nat} : (a :: l).set (i + 1) b = a :: l.set i b := rfl
theorem mT {α : Type} {a b : α} {l : List α} (h : a ∈ l) : a ∈ b :: l := List.mem_cons_of_mem _ h
section
variable {ws : List Nat} {σ σ' : Env} {d d1 d2 d3 : Nat} {v v1 v2 v3 : Value}
theorem Fr.u1 (h : Fr ws σ σ') (hd : ws.contains d = true := by rfl) : Fr ws σ (upd σ' d v) := h.u hd
theorem Fr.u4 (h : Fr ws σ σ') (hd : ws.contains d = true := by rfl) (h1 : ws.contains d1 = true := by rfl) (h2 : ws.contains d2 = true := by rfl) (h3 : ws.contains d3 = true := by rfl) : Fr ws σ (upd (upd (upd (upd σ' d v) d1 v1) d2 v2) d3 v3) := (((h.u hd).u h1).u h2).u h3
end
end Go.Proofs.YtieckcbckgalhaaGreatDoor.E
