/-
  Records: how they are read, written and laid in rows, whatever their cells are.
-/
import Derived.Test.YtdfbimlpondblaaDoorCut
namespace Go.Proofs.YtdfbimlpondblaaDoor.E
open Go Go.RowKit Go.Proofs.YtdfbimlpondblaaDoor.M
set_option linter.unusedVariables false
section runs
variable {P : Program} {σ : Env} {w : World} {dst : Option Tmp} {ty t u e : TypeId} {pos : String} {aft : Array Edge} {g : Option (Nat × Bool)} {x y : Operand} {b : Nat} {fr : Nat × Nat}
theorem run_ldSub {d : TypeDesc} {o : Nat} {cs : Array Value} {sub : List Value} (hu : P.underlying t = some d) (hd : d.isRow = true) (hi : (P.info? t).map (·.size) = some sub.length) (hx : ev σ x = .pointer (some ⟨b, o, none⟩))
    (hg : w.heap[b]? = some (.cells cs e fr)) (hc : (cs.toList.drop o).take sub.length = sub) : (execOp (ev σ) ⟨dst, .load t x, ty, pos, aft, g⟩).run P w = .ok (.value (.agg sub.toArray)) w := by
  refine run_ldA hu hd hi hx fun j c hj => ?_
  rw [cell_of_row w _ _ _ _ _ hg]
  have hl := (List.getElem?_eq_some_iff.1 hj).1
  rw [← hc, List.getElem?_take, if_pos hl, List.getElem?_drop] at hj
  simpa using hj
variable {α : Type} {cl : α → List Value} {sz : Nat}
theorem run_mkRecs {len : Nat} {ps : List (Nat × Operand)} {l : List α} {ie : TypeInfo} {z : Value} (hcl : ∀ a, (cl a).length = sz)
    (hu : P.underlying t = some (.slice e)) (hie : P.info? e = some ie) (hz : ie.zero = some z) (hsz : ie.size = sz) (hl : l.length = len) (hsmall : ¬ len * sz > 2 ^ 24) (hpos : ¬ len * sz = 0)
    (h : ps.map (fun p => (p.1, ev σ p.2)) = ((l.map fun f => Value.agg (cl f).toArray).zipIdx.map fun p => (p.2, p.1))) :
    (execOp (ev σ) ⟨dst, .buildSlice t len ps.toArray, ty, pos, aft, g⟩).run P w = .ok (.value (.slice (some ⟨w.heap.size, 0, none⟩) len len)) (w.alloc (.cells (l.flatMap cl).toArray e)) := by
  have h2 := run_mkL (P := P) (σ := σ) (w := w) (dst := dst) (ty := ty) (pos := pos) (aft := aft) (g := g) (vs := l.map fun f => Value.agg (cl f).toArray) (sz := sz) hu hie hz hsz (by rw [List.length_map]; exact hl) hsmall hpos h (by
    rw [List.all_eq_true]; intro v hv
    rw [List.mem_map] at hv
    obtain ⟨r, _, rfl⟩ := hv
    simp [Value.cells, hcl])
  have h3 : (l.map fun f => Value.agg (cl f).toArray).flatMap (·.cells.toList) = l.flatMap cl := by
    rw [List.flatMap_map]
    show (l.flatMap fun f => (cl f).toArray.toList) = _
    simp
  rw [h3] at h2; exact h2
theorem run_ldV {w1 : World} {v : Value} {n1 n2 : Nat} {cells : List Value} {d : TypeDesc} {o : Nat} (_hS : Sl w1 v n1 n2 cells) (hu : P.underlying t = some d) (hd : d.isRow = false) (hx : ev σ x = .pointer (some ⟨b, o, none⟩)) (hc : w.cell? ⟨b, o, none⟩ = some v) :
    (execOp (ev σ) ⟨dst, .load t x, ty, pos, aft, g⟩).run P w = .ok (.value v) w := run_ld hu hd hx hc
end runs
/-! ### Records are compared -/
structure FldE (P : Program) (d : Nat) (xs ys : Array Value) (f : Field) (b : Bool) : Prop where
  nm : f.name ≠ "_"
  run : ∃ u v, (∀ w, (part f.type xs f.offset).run P w = .ok u w) ∧ (∀ w, (part f.type ys f.offset).run P w = .ok v w) ∧ ∀ w, (Op.equalIn d f.type u v).run P w = .ok b w
inductive FldsE (P : Program) (d : Nat) (xs ys : Array Value) : List Field → List Bool → Prop
  | nil : FldsE P d xs ys [] []
  | cons {f : Field} {fs : List Field} {b : Bool} {bs : List Bool} (h : FldE P d xs ys f b) (hs : FldsE P d xs ys fs bs) : FldsE P d xs ys (f :: fs) (b :: bs)
theorem FldsE.eq {P : Program} {d : Nat} {xs ys : Array Value} {fs : List Field} {bs : List Bool} (h : FldsE P d xs ys fs bs) (w : World) : (Op.eqFields d xs ys fs).run P w = .ok (bs.all id) w := by
  induction h with
  | nil => rfl
  | cons h _ ih =>
    obtain ⟨u, v, h1, h2, h3⟩ := h.run
    rename_i b bs _
    simp only [Op.eqFields, h.nm, ne_eq, not_false_eq_true, if_true, Sem.run_bind, h1, h2, h3, Result.andThen_ok]
    cases b with
    | true => simpa using ih
    | false => simp
structure EqT (P : Program) (t : TypeId) (xs ys : Array Value) (c : Bool) : Prop where
  eg : P.eqGuardType P.depth t = false
  eq : ∀ w, (Op.equalIn 10000 t (.agg xs) (.agg ys)).run P w = .ok c w
theorem EqT.conv {P : Program} {t : TypeId} {xs ys : Array Value} {c c' : Bool} (h : EqT P t xs ys c) (e : c = c') : EqT P t xs ys c' := e ▸ h
theorem eqT {P : Program} {t : TypeId} {xs ys : Array Value} {fs : Array Field} {bs : List Bool} (hu : P.underlying t = some (.struct fs)) (st : P.stoodInHeld t = false) (eg : P.eqGuardType P.depth t = false) (h : FldsE P 9999 xs ys fs.toList bs) : EqT P t xs ys (bs.all id) := by
  have hf : P.fieldsOf t = fs := by unfold Program.fieldsOf; rw [hu]
  refine ⟨eg, fun w => ?_⟩
  rw [run_equalIn_struct w 9999 t _ _ (by rw [hf]; exact hu) st, hf]
  exact h.eq w
section
variable {P : Program} {d : Nat} {xs ys : Array Value} {f : Field}
theorem fldI {k : IntKind} {a b : Int} (hn : f.name ≠ "_") (hu : P.underlying f.type = some (.int k)) (ha : ∀ w, (isAgg f.type).run P w = .ok false w) (hx : xs[f.offset]? = some (.int k a)) (hy : ys[f.offset]? = some (.int k b)) : FldE P (d + 1) xs ys f (a == b) :=
  ⟨hn, .int k a, .int k b, fun w => by simp [part, ha, hx], fun w => by simp [part, ha, hy], fun w => run_equalIn_int w d _ k k _ _ hu⟩
theorem fldB {a b : Bool} (hn : f.name ≠ "_") (hu : P.underlying f.type = some .bool) (ha : ∀ w, (isAgg f.type).run P w = .ok false w) (hx : xs[f.offset]? = some (B a)) (hy : ys[f.offset]? = some (B b)) : FldE P (d + 1) xs ys f (a == b) :=
  ⟨hn, B a, B b, fun w => by simp [part, ha, hx], fun w => by simp [part, ha, hy], fun w => run_equalIn_bool w d _ _ _ hu⟩
end
section
variable {P : Program} {σ : Env} {w : World} {dst : Option Tmp} {ty t u : TypeId} {pos : String} {aft : Array Edge} {g : Option (Nat × Bool)} {x y : Operand} {xs ys : Array Value} {c : Bool}
theorem run_eqlT (T : EqT P t xs ys c) (hx : ev σ x = .agg xs) (hy : ev σ y = .agg ys) : (execOp (ev σ) ⟨dst, .binOp .eql t x y u, ty, pos, aft, g⟩).run P w = .ok (.value (.bool c)) w := by
  have h := run_eql_struct (P := P) w t xs ys
  rw [T.eq] at h
  simp only [execOp, hx, hy, Sem.run_bind, run_eqGuard_agg w .eql t x y _ _ T.eg, Result.andThen_ok]
  simp [h]
theorem run_neqT (T : EqT P t xs ys c) (hx : ev σ x = .agg xs) (hy : ev σ y = .agg ys) : (execOp (ev σ) ⟨dst, .binOp .neq t x y u, ty, pos, aft, g⟩).run P w = .ok (.value (.bool (!c))) w := by
  have h := run_neq_struct (P := P) w t xs ys
  rw [T.eq] at h
  simp only [execOp, hx, hy, Sem.run_bind, run_eqGuard_agg w .neq t x y _ _ T.eg, Result.andThen_ok]
  simp [h]
end
theorem CW.cutG {P : Program} {n : Nat} {k : K} {xs : List (Nat × K)} {r : K} {σ : Env} {w0 w : World} {x y : Code} {L : List Ent} {G : Type} (_hH : Hp w0 w L) (ws : List Nat) (up : List Ent → G → List Ent) (Q : G → Env → Prop)
    (h : CW P n x (fun s w' => Fr ws σ s ∧ ∃ g, Hp w0 w' (up L g) ∧ Q g s) xs r σ w) (h' : ∀ g s w', Fr ws σ s → Hp w0 w' (up L g) → Q g s → CW P n y k xs r s w') : CW P n (.seq x y) k xs r σ w :=
  CW.cut _ h fun s w' ⟨a, g, b, c⟩ => h' g s w' a b c
theorem Le.zin {K : Vu} {Z Y : List Ent} : Le (Kz K Z) (Kz K (Y ++ Z)) := Le.zz fun x hx => List.mem_append_right _ hx
def Turn (q : Value → World → Prop) (e : Ending) (w : World) : Prop := Ret q e w
section calls
variable {P : Program} {n : Nat} {ops : Array Oper} {k : K} {rest : List Oper} {σ : Env} {w0 w : World} {L : List Ent} {op : Op} {ty : TypeId} {pos : String} {aft : Array Edge} {d : Nat} {q : Value → World → Prop}
theorem RL.callT {f : FuncId} {args : Array Value} (hd : Nat.blt d n = true) (hc : Calls P f args w (Ret q))
    (hr : (execOp (ev σ) ⟨some d, op, ty, pos, aft, none⟩).run P w = .ok (.enter f args) w)
    (hk : ∀ v w', q v w' → RL P n ops k rest (upd σ d v) w') : RL P n ops k (⟨some d, op, ty, pos, aft, none⟩ :: rest) σ w :=
  RL.call hd hr hc hk
variable {l : List Oper} {i fuel : Nat} {listed : Array Bool} {g : Option (Nat × Bool)} {L' : List Ent}
theorem AO.callT {f : FuncId} {args : Array Value} (hi : l[i]? = some ⟨some d, op, ty, pos, aft, g⟩) (hg : ∀ a, Is n σ a → Region.wanted ⟨some d, op, ty, pos, aft, g⟩ (yielded l.toArray a.tmps) = true) (hd : Nat.blt d n = true)
    (hc : Calls P f args w (Ret q)) (hr : (execOp (ev σ) ⟨some d, op, ty, pos, aft, g⟩).run P w = .ok (.enter f args) w)
    (hs : ∀ v w', q v w' → Hp w0 w' L)
    (h : ∀ v w', q v w' → AN P n l (fun w => Hp w0 w L) k fuel (listed.setIfInBounds i true) (upd σ d v) w') : AO P n l (fun w => Hp w0 w L) k fuel listed σ w i :=
  AO.call hi hg hd hc hr fun u w' hq => ⟨hs u w' hq, h u w' hq⟩
end calls
end Go.Proofs.YtdfbimlpondblaaDoor.E
