/-
  The logic over arrays of numbers, lists of relations, and blocks that were there ahead of the call.
-/
import Derived.Test.YtphknfjaellkjaaRel
import Derived.Test.YtphknfjaellkjaaCov
namespace Go.Proofs.Ytphknfjaellkjaa.E
open Go Go.RowKit Go.Proofs.Ytphknfjaellkjaa.M
set_option linter.unusedVariables false
/-! ### Blocks that were there ahead of the call -/
section ext
variable {w0 w : World} {L : List Ent} {b off : Nat} {c : Array Value} {e : TypeId} {fr : Nat × Nat} {v : Value} {o : Obj}
theorem keep {o : Obj} (hb : Below w0.heap.size w0 w) (h : w0.heap[b]? = some o) : w.heap[b]? = some o := by
  rw [hb.block b (Array.getElem?_eq_some_iff.1 h).1]; exact h
theorem Hp.ext (h : Hp w0 w L) (hb : w0.heap[b]? = some o) : w.heap[b]? = some o := by
  rw [h.below.block b (Array.getElem?_eq_some_iff.1 hb).1]; exact hb
theorem Hp.extCell (h : Hp w0 w L) (hb : w0.heap[b]? = some (.cells c e fr)) (hc : c[off]? = some v) : w.cell? ⟨b, off, none⟩ = some v := by
  rw [cell_of_row w b off c e fr (h.ext hb)]; exact hc
end ext
/-! ### Arrays of 64 numbers -/
def arrL (f : Nat → Int) : List Value := (List.range 64).map fun i => I (f i)
@[irreducible] def arrC (f : Nat → Int) : Array Value := (arrL f).toArray
section runs
variable {P : Program} {σ : Env} {w : World} {dst : Option Tmp} {ty t u : TypeId} {pos : String} {aft : Array Edge} {g : Option (Nat × Bool)} {x y : Operand} {b : Nat} {e : TypeId} {r : Rl} {fr : Nat × Nat}
/-! ### Lists of relations -/
def rlL (l : List Rl) : List Value := l.flatMap relL
end runs
section aoapp
variable {P : Program} {n : Nat} {l : List Oper} {k : K} {σ : Env} {w w0 : World} {L' L'' : List Ent} {fuel i d : Nat} {listed : Array Bool} {ty : TypeId} {pos : String} {aft : Array Edge} {g : Option (Nat × Bool)} {x y : Operand}
theorem AO.app {t e : TypeId} {j : Nat} {ie : TypeInfo} {z : Value} {size bytes : Nat} {v u : Value} {m m' : Nat} {xs news : List Value} (hi : l[i]? = some ⟨some d, .call { callee := .builtin .append, args := #[x, y], argTypes := #[t, t] }, ty, pos, aft, g⟩)
    (hg : ∀ a, Is n σ a → Region.wanted ⟨some d, .call { callee := .builtin .append, args := #[x, y], argTypes := #[t, t] }, ty, pos, aft, g⟩ (yielded l.toArray a.tmps) = true) (hd : Nat.blt d n = true) (hH : Hp w0 w L'') (hL : L''[j]? = some (.row v e size m xs))
    (hs : ∀ v', L'.Sublist (L''.set j (.row v' e size (m + m') (xs ++ news)))) (hS : Sl w u size m' news)
    (hx : ev σ x = v) (hy : ev σ y = u) (ht : P.underlying t = some (.slice e)) (hie : P.info? e = some ie) (hz : ie.zero = some z)
    (hsize : ie.size = size) (hby : ie.bytes = bytes) (hzs : z.cells.size = size) (hsz : 0 < size) (h1 : ∀ u ∈ news, u.oneCell' = true)
    (hbytes : (m + m') * bytes ≤ 140737488355328) (h63 : m + m' ≤ maxLen)
    (hk : ∀ v' w', Hp w0 w' (L''.set j (.row v' e size (m + m') (xs ++ news))) → AN P n l (fun w => Hp w0 w L') k fuel (listed.setIfInBounds i true) (upd σ d v') w') : AO P n l (fun w => Hp w0 w L') k fuel listed σ w i := by
  obtain ⟨v', w', hr, h2, h3, h4⟩ := run_appendE (P := P) (ty := ty) ht hie hz hsize hby hzs hsz (hH.get hL) hS h1 h63 hbytes hH.size
  have hH' := hH.appended hL h2 h3 h4
  exact AO.val hi hg hd (run_app hx hy hr) (hH'.sub (hs v')) (hk v' w' hH')
end aoapp
end Go.Proofs.Ytphknfjaellkjaa.E
