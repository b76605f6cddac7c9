/-
  The logic over arrays of numbers, lists of relations, and blocks that were there ahead of the call.
-/
import Derived.Test.YtieckcbckgalhaaGreatDoorRel
import Derived.Test.YtieckcbckgalhaaGreatDoorCov
namespace Go.Proofs.YtieckcbckgalhaaGreatDoor.E
open Go Go.RowKit Go.Proofs.YtieckcbckgalhaaGreatDoor.M
set_option linter.unusedVariables false

/-! ### Blocks that were there ahead of the call -/
section ext
variable {w0 w : World} {L : List Ent} {b off : Nat} {c : Array Value} {e : TypeId} {fr : Nat × Nat} {v : Value} {o : Obj}
theorem keep {o : Obj} (hb : Below w0.heap.size w0 w) (h : w0.heap[b]? = some o) : w.heap[b]? = some o := by
  rw [hb.block b (Array.getElem?_eq_some_iff.1 h).1]; exact h
theorem Hp.ext (h : Hp w0 w L) (hb : w0.heap[b]? = some o) : w.heap[b]? = some o := by
  rw [h.below.block b (Array.getElem?_eq_some_iff.1 hb).1]; exact hb
theorem Hp.extCell (h : Hp w0 w L) (hb : w0.heap[b]? = some (.cells c e fr)) (hc : c[off]? = some v) : w.cell? ⟨b, off, none⟩ = some v := by
  rw [cell_of_row w b off c e fr (h.ext hb)]; exact hc
end ext
/-! ### Arrays of 64 numbers -/
def arrL (f : Nat → Int) : List Value := (List.range 64).map fun i => I (f i)
@[irreducible] def arrC (f : Nat → Int) : Array Value := (arrL f).toArray
theorem arrC_def (f : Nat → Int) : arrC f = (arrL f).toArray := by unfold arrC; rfl
theorem arrC_size (f : Nat → Int) : (arrC f).size = 64 := by rw [arrC_def]; simp [arrL]
theorem arrC_at (f : Nat → Int) {i : Nat} (h : i < 64) : (arrC f)[0 + i * 1]? = some (I (f i)) := by
  rw [arrC_def, show 0 + i * 1 = i by omega]; simp [arrL, h]
theorem arrC_put (f : Nat → Int) (i : Nat) (x : Int) : (arrC f).setIfInBounds (0 + i * 1) (I x) = arrC (putF f i x) := by
  rw [arrC_def, arrC_def]
  apply Array.ext_getElem?
  intro j
  rw [Array.getElem?_setIfInBounds]
  simp only [List.getElem?_toArray, List.size_toArray]
  have hl : (arrL f).length = 64 := by simp [arrL]
  rw [hl]
  simp only [arrL, List.getElem?_map]
  by_cases h : i = j
  · subst h
    rw [if_pos (by omega)]
    by_cases h2 : i < 64
    · rw [if_pos (by omega)]; simp [h2, putF]
    · rw [if_neg (by omega)]; simp [h2]
  · rw [if_neg (by omega)]
    by_cases h2 : j < 64
    · have h3 : ¬ j = i := fun e => h e.symm
      simp [h2, putF, h3]
    · simp [h2]
theorem arrC_zero : arrC (fun _ => 0) = Array.replicate 64 (I 0) := by
  rw [arrC_def]; rfl
theorem map_atU {xs : List (BitVec 64)} {k : Int} (h : 0 ≤ k ∧ k < xs.length) : (xs.map U)[k.toNat * 1]? = some (U (xs.getD k.toNat 0#64)) := by
  have hk : k.toNat < xs.length := by omega
  simp [hk, List.getD_eq_getElem?_getD]
theorem arr3_at {a b c k : Int} (h : 0 ≤ k ∧ k < 3) : (#[I a, I b, I c] : Array Value)[k.toNat]? = some (I ([a, b, c].getD k.toNat 0)) := by
  have : k = 0 ∨ k = 1 ∨ k = 2 := by omega
  rcases this with rfl | rfl | rfl <;> rfl
section runs
variable {P : Program} {σ : Env} {w : World} {dst : Option Tmp} {ty t u : TypeId} {pos : String} {aft : Array Edge} {g : Option (Nat × Bool)} {x y : Operand} {b : Nat} {e : TypeId} {r : Rl} {fr : Nat × Nat}
/-- A slice literal without elements. -/
theorem run_mkE {sz : Nat} (hu : P.underlying t = some (.slice e)) (hs : ∀ w, (sizeOf e).run P w = .ok sz w) :
    (execOp (ev σ) ⟨dst, .buildSlice t 0 #[], ty, pos, aft, g⟩).run P w = .ok (.value (.slice (some ⟨w.heap.size, 0, none⟩) 0 0)) (w.alloc (.cells #[] e)) := by
  have h : (Instr.buildSlice t 0 #[]).run P w = .ok (.slice (some ⟨w.heap.size, 0, none⟩) 0 0) (w.alloc (.cells #[] e)) := by
    simp [Instr.buildSlice, run_underlying hu, hs, Instr.fill, newRow, newObj, Sem.run, show Array.range 0 = #[] by decide]
  simp [execOp, h]
/-! ### Lists of relations -/
def rlL (l : List Rl) : List Value := l.flatMap relL
theorem rlL_at : ∀ (l : List Rl) (k : Nat) (r : Rl), l[k]? = some r → ∀ j v, (relL r)[j]? = some v → (rlL l)[k * 65 + j]? = some v
  | [], k, r, h => by simp at h
  | p :: l, 0, r, h => fun j v hj => by
    simp at h; subst h
    rw [rlL, List.flatMap_cons, List.getElem?_append_left (by have := (List.getElem?_eq_some_iff.1 hj).1; omega), Nat.zero_mul, Nat.zero_add]; exact hj
  | p :: l, k + 1, r, h => fun j v hj => by
    have := rlL_at l k r (by simpa using h) j v hj
    rw [rlL, List.flatMap_cons, List.getElem?_append_right (by rw [relL_len]; omega), relL_len, show (k + 1) * 65 + j - 65 = k * 65 + j by omega]; exact this
theorem rlL_len (l : List Rl) : (rlL l).length = l.length * 65 := by
  induction l with
  | nil => rfl
  | cons p l ih => rw [rlL, List.flatMap_cons, List.length_append, relL_len, List.length_cons]; rw [rlL] at ih; omega
theorem run_ldRelS {d : TypeDesc} {v : Value} {l : List Rl} {k : Int} (hS : Sl w v 65 l.length (rlL l)) (hu : P.underlying t = some d) (hd : d.isRow = true) (hi : (P.info? t).map (·.size) = some 65)
    (hx : ev σ x = .pointer (some ⟨sb v, so v + k.toNat * 65, none⟩)) (hk : 0 ≤ k ∧ k < l.length) :
    (execOp (ev σ) ⟨dst, .load t x, ty, pos, aft, g⟩).run P w = .ok (.value (.agg (relC (l.getD k.toNat Rl.none)))) w := by
  rw [relC_def]
  refine run_ldA hu hd (by rw [relL_len]; exact hi) hx fun j c hj => ?_
  have h1 : l[k.toNat]? = some (l.getD k.toNat Rl.none) := by
    rw [List.getD_eq_getElem?_getD, List.getElem?_eq_getElem (by omega)]; rfl
  have := hS.cell _ _ (rlL_at l k.toNat _ h1 j c hj)
  rw [Nat.add_assoc]; exact this
theorem Hp.slRels {w0 w : World} {L : List Ent} {i b : Nat} {l : List Rl} {e : TypeId} (h : Hp w0 w L) (hi : L[i]? = some (.blk b (.cells (rlL l).toArray e (0, 0)))) (hs : l.length ≤ maxLen) :
    Sl w (.slice (some ⟨b, 0, none⟩) l.length l.length) 65 l.length (rlL l) := by
  have h2 := h.slBlk (n := l.length) (sz := 65) hi (by rw [List.size_toArray, rlL_len]) hs
  exact h2
/-- A literal of relations. -/
theorem run_mkRels {len : Nat} {ps : List (Nat × Operand)} {l : List Rl} {ie : TypeInfo} {z : Value}
    (hu : P.underlying t = some (.slice e)) (hie : P.info? e = some ie) (hz : ie.zero = some z) (hsz : ie.size = 65) (hl : l.length = len) (hsmall : ¬ len * 65 > 2 ^ 24) (hpos : ¬ len * 65 = 0)
    (h : ps.map (fun p => (p.1, ev σ p.2)) = ((l.map fun r => Value.agg (relC r)).zipIdx.map fun p => (p.2, p.1))) :
    (execOp (ev σ) ⟨dst, .buildSlice t len ps.toArray, ty, pos, aft, g⟩).run P w = .ok (.value (.slice (some ⟨w.heap.size, 0, none⟩) len len)) (w.alloc (.cells (rlL l).toArray e)) := by
  have h2 := run_mkL (P := P) (σ := σ) (w := w) (dst := dst) (ty := ty) (pos := pos) (aft := aft) (g := g) (vs := l.map fun r => Value.agg (relC r)) (sz := 65) hu hie hz hsz (by rw [List.length_map]; exact hl) hsmall hpos h (by
    rw [List.all_eq_true]; intro v hv
    rw [List.mem_map] at hv
    obtain ⟨r, _, rfl⟩ := hv
    simp [Value.cells, relC_size])
  have h3 : (l.map fun r => Value.agg (relC r)).flatMap (·.cells.toList) = rlL l := by
    rw [List.flatMap_map, rlL]
    congr 1
    funext r
    rw [relC_def]; rfl
  rw [h3] at h2; exact h2
/-- A call of a function that carries what it caught. -/
theorem run_callCL {f : FuncId} {cs vs : List Value} {as : List Operand} {ats : Array TypeId} (hf : ∀ args w, (callFunc f args).run P w = .ok (.enter f args) w) (hx : ev σ x = .func (.func f) #[] cs.toArray) (h : as.map (ev σ) = vs) :
    (execOp (ev σ) ⟨dst, .call { callee := .value x, args := as.toArray, argTypes := ats }, ty, pos, aft, g⟩).run P w = .ok (.enter f (vs ++ cs).toArray) w := by
  have := run_callV (P := P) (w := w) (dst := dst) (ty := ty) (pos := pos) (aft := aft) (g := g) (ats := ats) hf hx h
  rw [this, List.append_toArray]
theorem run_callC0 {f : FuncId} {cs : List Value} {ats : Array TypeId} (hf : ∀ args w, (callFunc f args).run P w = .ok (.enter f args) w) (hx : ev σ x = .func (.func f) #[] cs.toArray) :
    (execOp (ev σ) ⟨dst, .call { callee := .value x, args := #[], argTypes := ats }, ty, pos, aft, g⟩).run P w = .ok (.enter f cs.toArray) w := run_callCL (as := []) hf hx rfl
theorem run_callC1 {f : FuncId} {cs : List Value} {v1 : Value} {x1 : Operand} {ats : Array TypeId} (hf : ∀ args w, (callFunc f args).run P w = .ok (.enter f args) w) (hx : ev σ x = .func (.func f) #[] cs.toArray) (h1 : ev σ x1 = v1) :
    (execOp (ev σ) ⟨dst, .call { callee := .value x, args := #[x1], argTypes := ats }, ty, pos, aft, g⟩).run P w = .ok (.enter f (v1 :: cs).toArray) w := run_callCL (as := [x1]) (vs := [v1]) hf hx (by simp [h1])
theorem run_callC2 {f : FuncId} {cs : List Value} {v1 v2 : Value} {x1 x2 : Operand} {ats : Array TypeId} (hf : ∀ args w, (callFunc f args).run P w = .ok (.enter f args) w) (hx : ev σ x = .func (.func f) #[] cs.toArray) (h1 : ev σ x1 = v1) (h2 : ev σ x2 = v2) :
    (execOp (ev σ) ⟨dst, .call { callee := .value x, args := #[x1, x2], argTypes := ats }, ty, pos, aft, g⟩).run P w = .ok (.enter f (v1 :: v2 :: cs).toArray) w := run_callCL (as := [x1, x2]) (vs := [v1, v2]) hf hx (by simp [h1, h2])
theorem prL_cell (l : List (Int × Int)) : ∀ u ∈ prL l, u.oneCell' = true := fun u hu => by
  rw [prL, List.mem_flatMap] at hu
  obtain ⟨p, _, hu⟩ := hu
  simp at hu
  rcases hu with rfl | rfl <;> rfl
end runs
section aoapp
variable {P : Program} {n : Nat} {l : List Oper} {k : K} {σ : Env} {w w0 : World} {L' L'' : List Ent} {fuel i d : Nat} {listed : Array Bool} {ty : TypeId} {pos : String} {aft : Array Edge} {g : Option (Nat × Bool)} {x y : Operand}
theorem AO.app {t e : TypeId} {j : Nat} {ie : TypeInfo} {z : Value} {size bytes : Nat} {v u : Value} {m m' : Nat} {xs news : List Value} (hi : l[i]? = some ⟨some d, .call { callee := .builtin .append, args := #[x, y], argTypes := #[t, t] }, ty, pos, aft, g⟩)
    (hg : ∀ a, Is n σ a → Region.wanted ⟨some d, .call { callee := .builtin .append, args := #[x, y], argTypes := #[t, t] }, ty, pos, aft, g⟩ (yielded l.toArray a.tmps) = true) (hd : Nat.blt d n = true) (hH : Hp w0 w L'') (hL : L''[j]? = some (.row v e size m xs))
    (hs : ∀ v', L'.Sublist (L''.set j (.row v' e size (m + m') (xs ++ news)))) (hS : Sl w u size m' news)
    (hx : ev σ x = v) (hy : ev σ y = u) (ht : P.underlying t = some (.slice e)) (hie : P.info? e = some ie) (hz : ie.zero = some z)
    (hsize : ie.size = size) (hby : ie.bytes = bytes) (hzs : z.cells.size = size) (hsz : 0 < size) (h1 : ∀ u ∈ news, u.oneCell' = true)
    (hbytes : (m + m') * bytes ≤ 140737488355328) (h63 : m + m' ≤ maxLen)
    (hk : ∀ v' w', Hp w0 w' (L''.set j (.row v' e size (m + m') (xs ++ news))) → AN P n l (fun w => Hp w0 w L') k fuel (listed.setIfInBounds i true) (upd σ d v') w') : AO P n l (fun w => Hp w0 w L') k fuel listed σ w i := by
  obtain ⟨v', w', hr, h2, h3, h4⟩ := run_appendE (P := P) (ty := ty) ht hie hz hsize hby hzs hsz (hH.get hL) hS h1 h63 hbytes hH.size
  have hH' := hH.appended hL h2 h3 h4
  exact AO.val hi hg hd (run_app hx hy hr) (hH'.sub (hs v')) (hk v' w' hH')
end aoapp
end Go.Proofs.YtieckcbckgalhaaGreatDoor.E
