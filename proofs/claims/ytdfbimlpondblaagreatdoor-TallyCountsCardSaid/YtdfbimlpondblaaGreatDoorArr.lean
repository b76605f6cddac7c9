/-
  The logic over arrays of numbers, lists of relations, and blocks that were there ahead of the call.
-/
import Derived.Test.YtdfbimlpondblaaGreatDoorRel
import Derived.Test.YtdfbimlpondblaaGreatDoorCov
namespace Go.Proofs.YtdfbimlpondblaaGreatDoor.E
open Go Go.RowKit Go.Proofs.YtdfbimlpondblaaGreatDoor.M
set_option linter.unusedVariables false
/-! ### Blocks that were there ahead of the call -/
section ext
variable {w0 w : World} {L : List Ent} {b off : Nat} {c : Array Value} {e : TypeId} {fr : Nat × Nat} {v : Value} {o : Obj}
theorem keep {o : Obj} (hb : Below w0.heap.size w0 w) (h : w0.heap[b]? = some o) : w.heap[b]? = some o := by
  rw [hb.block b (Array.getElem?_eq_some_iff.1 h).1]; exact h
theorem Hp.ext (h : Hp w0 w L) (hb : w0.heap[b]? = some o) : w.heap[b]? = some o := by
  rw [h.below.block b (Array.getElem?_eq_some_iff.1 hb).1]; exact hb
theorem Hp.extCell (h : Hp w0 w L) (hb : w0.heap[b]? = some (.cells c e fr)) (hc : c[off]? = some v) : w.cell? ⟨b, off, none⟩ = some v := by
  rw [cell_of_row w b off c e fr (h.ext hb)]; exact hc
end ext
/-! ### Arrays of 64 numbers -/
def arrL (f : Nat → Int) : List Value := (List.range 64).map fun i => I (f i)
@[irreducible] def arrC (f : Nat → Int) : Array Value := (arrL f).toArray
section runs
variable {P : Program} {σ : Env} {w : World} {dst : Option Tmp} {ty t u : TypeId} {pos : String} {aft : Array Edge} {g : Option (Nat × Bool)} {x y : Operand} {b : Nat} {e : TypeId} {r : Rl} {fr : Nat × Nat}
theorem run_mkE {sz : Nat} (hu : P.underlying t = some (.slice e)) (hs : ∀ w, (sizeOf e).run P w = .ok sz w) :
    (execOp (ev σ) ⟨dst, .buildSlice t 0 #[], ty, pos, aft, g⟩).run P w = .ok (.value (.slice (some ⟨w.heap.size, 0, none⟩) 0 0)) (w.alloc (.cells #[] e)) := by
  have h : (Instr.buildSlice t 0 #[]).run P w = .ok (.slice (some ⟨w.heap.size, 0, none⟩) 0 0) (w.alloc (.cells #[] e)) := by
    simp [Instr.buildSlice, run_underlying hu, hs, Instr.fill, newRow, newObj, Sem.run, show Array.range 0 = #[] by decide]
  simp [execOp, h]
/-! ### Lists of relations -/
def rlL (l : List Rl) : List Value := l.flatMap relL
theorem run_callCL {f : FuncId} {cs vs : List Value} {as : List Operand} {ats : Array TypeId} (hf : ∀ args w, (callFunc f args).run P w = .ok (.enter f args) w) (hx : ev σ x = .func (.func f) #[] cs.toArray) (h : as.map (ev σ) = vs) :
    (execOp (ev σ) ⟨dst, .call { callee := .value x, args := as.toArray, argTypes := ats }, ty, pos, aft, g⟩).run P w = .ok (.enter f (vs ++ cs).toArray) w := by
  have := run_callV (P := P) (w := w) (dst := dst) (ty := ty) (pos := pos) (aft := aft) (g := g) (ats := ats) hf hx h
  rw [this, List.append_toArray]
theorem run_callC1 {f : FuncId} {cs : List Value} {v1 : Value} {x1 : Operand} {ats : Array TypeId} (hf : ∀ args w, (callFunc f args).run P w = .ok (.enter f args) w) (hx : ev σ x = .func (.func f) #[] cs.toArray) (h1 : ev σ x1 = v1) :
    (execOp (ev σ) ⟨dst, .call { callee := .value x, args := #[x1], argTypes := ats }, ty, pos, aft, g⟩).run P w = .ok (.enter f (v1 :: cs).toArray) w := run_callCL (as := [x1]) (vs := [v1]) hf hx (by simp [h1])
theorem run_callC2 {f : FuncId} {cs : List Value} {v1 v2 : Value} {x1 x2 : Operand} {ats : Array TypeId} (hf : ∀ args w, (callFunc f args).run P w = .ok (.enter f args) w) (hx : ev σ x = .func (.func f) #[] cs.toArray) (h1 : ev σ x1 = v1) (h2 : ev σ x2 = v2) :
    (execOp (ev σ) ⟨dst, .call { callee := .value x, args := #[x1, x2], argTypes := ats }, ty, pos, aft, g⟩).run P w = .ok (.enter f (v1 :: v2 :: cs).toArray) w := run_callCL (as := [x1, x2]) (vs := [v1, v2]) hf hx (by simp [h1, h2])
end runs
section aoapp
variable {P : Program} {n : Nat} {l : List Oper} {k : K} {σ : Env} {w w0 : World} {L' L'' : List Ent} {fuel i d : Nat} {listed : Array Bool} {ty : TypeId} {pos : String} {aft : Array Edge} {g : Option (Nat × Bool)} {x y : Operand}
theorem AO.app {t e : TypeId} {j : Nat} {ie : TypeInfo} {z : Value} {size bytes : Nat} {v u : Value} {m m' : Nat} {xs news : List Value} (hi : l[i]? = some ⟨some d, .call { callee := .builtin .append, args := #[x, y], argTypes := #[t, t] }, ty, pos, aft, g⟩)
    (hg : ∀ a, Is n σ a → Region.wanted ⟨some d, .call { callee := .builtin .append, args := #[x, y], argTypes := #[t, t] }, ty, pos, aft, g⟩ (yielded l.toArray a.tmps) = true) (hd : Nat.blt d n = true) (hH : Hp w0 w L'') (hL : L''[j]? = some (.row v e size m xs))
    (hs : ∀ v', L'.Sublist (L''.set j (.row v' e size (m + m') (xs ++ news)))) (hS : Sl w u size m' news)
    (hx : ev σ x = v) (hy : ev σ y = u) (ht : P.underlying t = some (.slice e)) (hie : P.info? e = some ie) (hz : ie.zero = some z)
    (hsize : ie.size = size) (hby : ie.bytes = bytes) (hzs : z.cells.size = size) (hsz : 0 < size) (h1 : ∀ u ∈ news, u.oneCell' = true)
    (hbytes : (m + m') * bytes ≤ 140737488355328) (h63 : m + m' ≤ maxLen)
    (hk : ∀ v' w', Hp w0 w' (L''.set j (.row v' e size (m + m') (xs ++ news))) → AN P n l (fun w => Hp w0 w L') k fuel (listed.setIfInBounds i true) (upd σ d v') w') : AO P n l (fun w => Hp w0 w L') k fuel listed σ w i := by
  obtain ⟨v', w', hr, h2, h3, h4⟩ := run_appendE (P := P) (ty := ty) ht hie hz hsize hby hzs hsz (hH.get hL) hS h1 h63 hbytes hH.size
  have hH' := hH.appended hL h2 h3 h4
  exact AO.val hi hg hd (run_app hx hy hr) (hH'.sub (hs v')) (hk v' w' hH')
end aoapp
end Go.Proofs.YtdfbimlpondblaaGreatDoor.E
