/-
  Records: how they are read, written and laid in rows, whatever their cells are.
-/
import Derived.Test.YtphknfjaellkjaaCut
namespace Go.Proofs.Ytphknfjaellkjaa.E
open Go Go.RowKit Go.Proofs.Ytphknfjaellkjaa.M
set_option linter.unusedVariables false
section runs
variable {P : Program} {σ : Env} {w : World} {dst : Option Tmp} {ty t u e : TypeId} {pos : String} {aft : Array Edge} {g : Option (Nat × Bool)} {x y : Operand} {b : Nat} {fr : Nat × Nat}
variable {α : Type} {cl : α → List Value} {sz : Nat}
end runs
/-! ### Records are compared -/
structure FldE (P : Program) (d : Nat) (xs ys : Array Value) (f : Field) (b : Bool) : Prop where
  nm : f.name ≠ "_"
  run : ∃ u v, (∀ w, (part f.type xs f.offset).run P w = .ok u w) ∧ (∀ w, (part f.type ys f.offset).run P w = .ok v w) ∧ ∀ w, (Op.equalIn d f.type u v).run P w = .ok b w
inductive FldsE (P : Program) (d : Nat) (xs ys : Array Value) : List Field → List Bool → Prop
  | nil : FldsE P d xs ys [] []
  | cons {f : Field} {fs : List Field} {b : Bool} {bs : List Bool} (h : FldE P d xs ys f b) (hs : FldsE P d xs ys fs bs) : FldsE P d xs ys (f :: fs) (b :: bs)
theorem FldsE.eq {P : Program} {d : Nat} {xs ys : Array Value} {fs : List Field} {bs : List Bool} (h : FldsE P d xs ys fs bs) (w : World) : (Op.eqFields d xs ys fs).run P w = .ok (bs.all id) w := by
  induction h with
  | nil => rfl
  | cons h _ ih =>
    obtain ⟨u, v, h1, h2, h3⟩ := h.run
    rename_i b bs _
    simp only [Op.eqFields, h.nm, ne_eq, not_false_eq_true, if_true, Sem.run_bind, h1, h2, h3, Result.andThen_ok]
    cases b with
    | true => simpa using ih
    | false => simp
structure EqT (P : Program) (t : TypeId) (xs ys : Array Value) (c : Bool) : Prop where
  eg : P.eqGuardType P.depth t = false
  eq : ∀ w, (Op.equalIn 10000 t (.agg xs) (.agg ys)).run P w = .ok c w
theorem EqT.conv {P : Program} {t : TypeId} {xs ys : Array Value} {c c' : Bool} (h : EqT P t xs ys c) (e : c = c') : EqT P t xs ys c' := e ▸ h
section
variable {P : Program} {d : Nat} {xs ys : Array Value} {f : Field}
end
section
variable {P : Program} {σ : Env} {w : World} {dst : Option Tmp} {ty t u : TypeId} {pos : String} {aft : Array Edge} {g : Option (Nat × Bool)} {x y : Operand} {xs ys : Array Value} {c : Bool}
end
theorem CW.cutG {P : Program} {n : Nat} {k : K} {xs : List (Nat × K)} {r : K} {σ : Env} {w0 w : World} {x y : Code} {L : List Ent} {G : Type} (_hH : Hp w0 w L) (ws : List Nat) (up : List Ent → G → List Ent) (Q : G → Env → Prop)
    (h : CW P n x (fun s w' => Fr ws σ s ∧ ∃ g, Hp w0 w' (up L g) ∧ Q g s) xs r σ w) (h' : ∀ g s w', Fr ws σ s → Hp w0 w' (up L g) → Q g s → CW P n y k xs r s w') : CW P n (.seq x y) k xs r σ w :=
  CW.cut _ h fun s w' ⟨a, g, b, c⟩ => h' g s w' a b c
theorem Le.zin {K : Vu} {Z Y : List Ent} : Le (Kz K Z) (Kz K (Y ++ Z)) := Le.zz fun x hx => List.mem_append_right _ hx
def Turn (q : Value → World → Prop) (e : Ending) (w : World) : Prop := Ret q e w
section calls
variable {P : Program} {n : Nat} {ops : Array Oper} {k : K} {rest : List Oper} {σ : Env} {w0 w : World} {L : List Ent} {op : Op} {ty : TypeId} {pos : String} {aft : Array Edge} {d : Nat} {q : Value → World → Prop}
theorem RL.callT {f : FuncId} {args : Array Value} (hd : Nat.blt d n = true) (hc : Calls P f args w (Ret q))
    (hr : (execOp (ev σ) ⟨some d, op, ty, pos, aft, none⟩).run P w = .ok (.enter f args) w)
    (hk : ∀ v w', q v w' → RL P n ops k rest (upd σ d v) w') : RL P n ops k (⟨some d, op, ty, pos, aft, none⟩ :: rest) σ w :=
  RL.call hd hr hc hk
variable {l : List Oper} {i fuel : Nat} {listed : Array Bool} {g : Option (Nat × Bool)} {L' : List Ent}
theorem AO.callT {f : FuncId} {args : Array Value} (hi : l[i]? = some ⟨some d, op, ty, pos, aft, g⟩) (hg : ∀ a, Is n σ a → Region.wanted ⟨some d, op, ty, pos, aft, g⟩ (yielded l.toArray a.tmps) = true) (hd : Nat.blt d n = true)
    (hc : Calls P f args w (Ret q)) (hr : (execOp (ev σ) ⟨some d, op, ty, pos, aft, g⟩).run P w = .ok (.enter f args) w)
    (hs : ∀ v w', q v w' → Hp w0 w' L)
    (h : ∀ v w', q v w' → AN P n l (fun w => Hp w0 w L) k fuel (listed.setIfInBounds i true) (upd σ d v) w') : AO P n l (fun w => Hp w0 w L) k fuel listed σ w i :=
  AO.call hi hg hd hc hr fun u w' hq => ⟨hs u w' hq, h u w' hq⟩
end calls
end Go.Proofs.Ytphknfjaellkjaa.E
