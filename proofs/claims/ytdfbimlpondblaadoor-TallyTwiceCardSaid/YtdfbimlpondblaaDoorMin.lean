/-
  Short names for what the walks say most.
-/
import Derived.Test.YtdfbimlpondblaaDoorRec
namespace Go.Proofs.YtdfbimlpondblaaDoor.E
open Go Go.RowKit Go.Proofs.YtdfbimlpondblaaDoor.M
set_option linter.unusedVariables false
section
variable {P : Program} {n : Nat} {l : List Oper} {S : World → Prop} {k : K} {xs : List (Nat × K)} {r : K} {σ : Env} {w : World} {fuel i d : Nat} {listed : Array Bool} {op : Op} {ty : TypeId} {pos : String} {aft : Array Edge} {g : Option (Nat × Bool)} {v : Value} {dst : Option Tmp}
theorem V {ops : Array Oper} {rest : List Oper} {w' : World} (hr : (execOp (ev σ) ⟨some d, op, ty, pos, aft, none⟩).run P w = .ok (.value v) w') (hk : RL P n ops k rest (upd σ d v) w') (hd : Nat.blt d n = true := by rfl) : RL P n ops k (⟨some d, op, ty, pos, aft, none⟩ :: rest) σ w := RL.val hd hr hk
abbrev Pn (b o : Nat) : Value := .pointer (some ⟨b, o, none⟩)
theorem mV {x : Operand} (v : Value) (hx : ev σ x = v) : (execOp (ev σ) ⟨dst, .move x, ty, pos, aft, g⟩).run P w = .ok (.value v) w := run_move hx
theorem aV {x : Operand} (v : Value) (hx : ev σ x = v) : (execOp (ev σ) ⟨dst, .assign x, ty, pos, aft, g⟩).run P w = .ok (.value v) w := run_assign hx
theorem AT (i : Nat) (hi : l[i]? = some ⟨some d, op, ty, pos, aft, none⟩) (hS : S w) (hy : ∀ w, S w → (execOp (ev σ) ⟨some d, op, ty, pos, aft, none⟩).run P w = .ok (.value v) w)
    (h : AN P n l S k fuel (listed.setIfInBounds i true) (upd σ d v) w) (hd : Nat.blt d n = true := by rfl) (hs : Region.noSelect l.toArray = true := by kernel_rfl) (hf : Region.free .any l.toArray listed i = true := by kernel_rfl)
    (hr : (Region.ready .any l.toArray listed).contains i = true := by kernel_rfl) : AN P n l S k (fuel + 1) listed σ w := AN.take i hi hd hs hf hr hS hy h
theorem AG (i : Nat) {j dj : Nat} {want : Bool} (hi : l[i]? = some ⟨some d, op, ty, pos, aft, some (j, want)⟩) (hj : (l[j]?).bind (·.dst) = some dj) (hb : σ dj = .bool want)
    (hS : S w) (hy : ∀ w, S w → (execOp (ev σ) ⟨some d, op, ty, pos, aft, some (j, want)⟩).run P w = .ok (.value v) w)
    (h : AN P n l S k fuel (listed.setIfInBounds i true) (upd σ d v) w) (hd : Nat.blt d n = true := by rfl) (hs : Region.noSelect l.toArray = true := by kernel_rfl) (hf : Region.free .any l.toArray listed i = true := by kernel_rfl)
    (hr : (Region.ready .any l.toArray listed).contains i = true := by kernel_rfl) : AN P n l S k (fuel + 1) listed σ w := AN.takeG i hi hj hb hd hs hf hr hS hy h
theorem AD (h : k σ w) (hr : Region.ready .any l.toArray listed = [] := by kernel_rfl) : AN P n l S k fuel listed σ w := AN.done hr h
theorem A1 (i : Nat) (h : AO P n l S k fuel listed σ w i) (hr : Region.ready .any l.toArray listed = [i] := by kernel_rfl) : AN P n l S k (fuel + 1) listed σ w := AN.one i hr h
theorem SR {id : Nat} {y : Code} (h : RL P n l.toArray (fun σ w => CW P n y k xs r σ w) l σ w) : CW P n (.seq (.region id l.toArray false) y) k xs r σ w := CW.seq (CW.region h)
theorem fA {x : Operand} {s i m b o : Nat} {fs : Array Field} {f : Field} (hu : P.underlying s = some (.struct fs)) (off : Nat) (hf : fs[i]? = some f) (hs : ∀ w, (sizeOf f.type).run P w = .ok m w) (hx : ev σ x = .pointer (some ⟨b, o, none⟩)) (ho : f.offset = off := by rfl) (hn : m ≠ 0 := by decide) :
    (execOp (ev σ) ⟨dst, .fieldAddr s x i, ty, pos, aft, g⟩).run P w = .ok (.value (.pointer (some ⟨b, o + off, none⟩))) w := run_fieldAddr hu hf ho hs hn hx
end
theorem sQ {α : Type} {a : α} {l l' : List α} (h : l.Sublist l') : l.Sublist (a :: l') := .cons _ h
theorem sP {α : Type} {a : α} {l l' : List α} (h : l.Sublist l') : (a :: l).Sublist (a :: l') := .cons_cons _ h
theorem sR {α : Type} {l : List α} : l.Sublist l := .refl _
theorem sA {α : Type} {l l' m : List α} (h : l.Sublist l') : l.Sublist (m ++ l') := List.sublist_append_of_sublist_right h
theorem pC {α : Type} {a : α} {l l' : List α} (h : l.Perm l') : (a :: l).Perm (a :: l') := .cons _ h
theorem pR {α : Type} {l : List α} : l.Perm l := .refl _
theorem pS {α : Type} {a b : α} {l : List α} : (b :: a :: l).Perm (a :: b :: l) := .swap _ _ _
theorem z0 {α : Type} {a b : α} {l : List α} : (a :: l).set 0 b = b :: l := rfl
theorem z1 {α : Type} {a b : α} {l : List α} {i : Nat} : (a :: l).set (i + 1) b = a :: l.set i b := rfl
theorem mT {α : Type} {a b : α} {l : List α} (h : a ∈ l) : a ∈ b :: l := List.mem_cons_of_mem _ h
section
variable {ws : List Nat} {σ σ' : Env} {d d1 d2 d3 : Nat} {v v1 v2 v3 : Value}
theorem Fr.u1 (h : Fr ws σ σ') (hd : ws.contains d = true := by rfl) : Fr ws σ (upd σ' d v) := h.u hd
theorem Fr.u4 (h : Fr ws σ σ') (hd : ws.contains d = true := by rfl) (h1 : ws.contains d1 = true := by rfl) (h2 : ws.contains d2 = true := by rfl) (h3 : ws.contains d3 = true := by rfl) : Fr ws σ (upd (upd (upd (upd σ' d v) d1 v1) d2 v2) d3 v3) := (((h.u hd).u h1).u h2).u h3
end
section
variable {P : Program} {n : Nat} {l : List Oper} {S : World → Prop} {k : K} {xs : List (Nat × K)} {r : K} {σ σ' : Env} {w : World} {fuel i d : Nat} {listed : Array Bool} {op : Op} {ty : TypeId} {pos : String} {aft : Array Edge} {g : Option (Nat × Bool)} {v : Value} {dst : Option Tmp} {ops : Array Oper} {rest : List Oper} {x : Operand}
theorem va {v : Value} (hx : ev σ x = v) (hk : RL P n ops k rest (upd σ d v) w) (hd : Nat.blt d n = true := by rfl) : RL P n ops k (⟨some d, .assign x, ty, pos, aft, none⟩ :: rest) σ w := RL.val hd (run_assign hx) hk
theorem vm {v : Value} (hx : ev σ x = v) (hk : RL P n ops k rest (upd σ d v) w) (hd : Nat.blt d n = true := by rfl) : RL P n ops k (⟨some d, .move x, ty, pos, aft, none⟩ :: rest) σ w := RL.val hd (run_move hx) hk
theorem aI {a : Int} (hx : ev σ x = I a) (hk : RL P n ops k rest (upd σ d (I a)) w) (hd : Nat.blt d n = true := by rfl) : RL P n ops k (⟨some d, .assign x, ty, pos, aft, none⟩ :: rest) σ w := va hx hk hd
theorem aB {a : Bool} (hx : ev σ x = B a) (hk : RL P n ops k rest (upd σ d (B a)) w) (hd : Nat.blt d n = true := by rfl) : RL P n ops k (⟨some d, .assign x, ty, pos, aft, none⟩ :: rest) σ w := va hx hk hd
theorem aU {a : BitVec 64} (hx : ev σ x = U a) (hk : RL P n ops k rest (upd σ d (U a)) w) (hd : Nat.blt d n = true := by rfl) : RL P n ops k (⟨some d, .assign x, ty, pos, aft, none⟩ :: rest) σ w := va hx hk hd
theorem mI {a : Int} (hx : ev σ x = I a) (hk : RL P n ops k rest (upd σ d (I a)) w) (hd : Nat.blt d n = true := by rfl) : RL P n ops k (⟨some d, .move x, ty, pos, aft, none⟩ :: rest) σ w := vm hx hk hd
theorem mB {a : Bool} (hx : ev σ x = B a) (hk : RL P n ops k rest (upd σ d (B a)) w) (hd : Nat.blt d n = true := by rfl) : RL P n ops k (⟨some d, .move x, ty, pos, aft, none⟩ :: rest) σ w := vm hx hk hd
theorem mU {a : BitVec 64} (hx : ev σ x = U a) (hk : RL P n ops k rest (upd σ d (U a)) w) (hd : Nat.blt d n = true := by rfl) : RL P n ops k (⟨some d, .move x, ty, pos, aft, none⟩ :: rest) σ w := vm hx hk hd
theorem gT {j dj : Nat} {want : Bool} (hj : (ops[j]?).bind (·.dst) = some dj) (hb : σ dj = .bool want) (hk : RL P n ops k (⟨dst, op, ty, pos, aft, none⟩ :: rest) σ w) : RL P n ops k (⟨dst, op, ty, pos, aft, some (j, want)⟩ :: rest) σ w := RL.gT hj hb hk
theorem gF {j dj : Nat} {b want : Bool} (hj : (ops[j]?).bind (·.dst) = some dj) (hb : σ dj = .bool b) (hk : RL P n ops k rest (upd σ d undef) w) (hd : Nat.blt d n = true := by rfl) (hne : (b == want) = false := by rfl) : RL P n ops k (⟨some d, op, ty, pos, aft, some (j, want)⟩ :: rest) σ w := RL.gF hd hj hb hne hk
theorem AQ (i : Nat) (hi : l[i]? = some ⟨some d, op, ty, pos, aft, none⟩) (hS : S w) (hy : ∀ {w}, (execOp (ev σ) ⟨some d, op, ty, pos, aft, none⟩).run P w = .ok (.value v) w)
    (h : AN P n l S k fuel (listed.setIfInBounds i true) (upd σ d v) w) (hd : Nat.blt d n = true := by rfl) (hs : Region.noSelect l.toArray = true := by kernel_rfl) (hf : Region.free .any l.toArray listed i = true := by kernel_rfl)
    (hr : (Region.ready .any l.toArray listed).contains i = true := by kernel_rfl) : AN P n l S k (fuel + 1) listed σ w := AN.take i hi hd hs hf hr hS (fun _ _ => hy) h
theorem Fr.pp {ws : List Nat} (h : Fr ws σ σ') (i : Nat) {b o : Nat} (hc : ws.contains i = false) (hv : σ i = Pn b o) : σ' i = Pn b o := (h i hc).trans hv
theorem Fr.ii {ws : List Nat} (h : Fr ws σ σ') (i : Nat) {a : Int} (hc : ws.contains i = false) (hv : σ i = E.I a) : σ' i = E.I a := (h i hc).trans hv
theorem Fr.bb {ws : List Nat} (h : Fr ws σ σ') (i : Nat) {a : Bool} (hc : ws.contains i = false) (hv : σ i = E.B a) : σ' i = E.B a := (h i hc).trans hv
theorem Fr.uu {ws : List Nat} (h : Fr ws σ σ') (i : Nat) {a : BitVec 64} (hc : ws.contains i = false) (hv : σ i = E.U a) : σ' i = E.U a := (h i hc).trans hv
theorem Fr.aa {ws : List Nat} (h : Fr ws σ σ') (i : Nat) {a : Array Value} (hc : ws.contains i = false) (hv : σ i = .agg a) : σ' i = .agg a := (h i hc).trans hv
theorem Fr.vv {ws : List Nat} (h : Fr ws σ σ') (i : Nat) {a : Value} (hc : ws.contains i = false) (hv : σ i = a) : σ' i = a := (h i hc).trans hv
end
def rg : Nat → Nat → List Nat → List Nat
  | _, 0, l => l
  | a, n + 1, l => a :: rg (a + 1) n l
theorem clX : (∀ (k : IntKind) (n : Int), (Value.int k n).cells.toList = [Value.int k n]) ∧ (∀ b : Bool, (Value.bool b).cells.toList = [Value.bool b]) ∧ (∀ b : ByteArray, (Value.string b).cells.toList = [Value.string b]) ∧ (∀ a : Option Addr, (Value.pointer a).cells.toList = [Value.pointer a]) ∧ (∀ (a : Option Addr) (n c : Nat), (Value.slice a n c).cells.toList = [Value.slice a n c]) ∧ (∀ l : List Value, (Value.agg l.toArray).cells.toList = l) ∧ (∀ (f : Value → List Value) (a : Value) (l : List Value), (a :: l).flatMap f = f a ++ l.flatMap f) ∧ (∀ f : Value → List Value, ([] : List Value).flatMap f = []) ∧ (∀ l : List Value, [] ++ l = l) ∧ (∀ l : List Value, l ++ [] = l) ∧ (∀ (a : Value) (l m : List Value), a :: l ++ m = a :: (l ++ m)) :=
  ⟨clI, clB, clS, clP, clL, clA, fun _ _ _ => List.flatMap_cons, fun _ => List.flatMap_nil, fun _ => List.nil_append _, fun _ => List.append_nil _, fun _ _ _ => List.cons_append⟩
theorem z2 {α : Type} : (∀ (a b : α) (l : List α), (a :: l).set 0 b = b :: l) ∧ (∀ (a b : α) (l : List α) (i : Nat), (a :: l).set (i + 1) b = a :: l.set i b) := ⟨fun _ _ _ => rfl, fun _ _ _ _ => rfl⟩
end Go.Proofs.YtdfbimlpondblaaDoor.E
