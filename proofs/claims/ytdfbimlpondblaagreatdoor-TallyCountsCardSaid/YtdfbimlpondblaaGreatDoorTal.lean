/-
  Tables of joins (ch. 17): what they hold; how they lie in memory.
-/
import Derived.Test.YtdfbimlpondblaaGreatDoorHas
import Derived.Test.YtdfbimlpondblaaGreatDoorCel
namespace Go.Proofs.YtdfbimlpondblaaGreatDoor.M
open Go
set_option linter.unusedVariables false
set_option linter.unusedSimpArgs false
theorem point_val (r : Rl) (w : BitVec 64) : (∃ k : Int, pointV r w = (k, true) ∧ 0 ≤ k ∧ k < pts r ∧ belowR r k = w) ∨ pointV r w = (0, false) := by
  rcases first_cases (fun i => decide (belowR r i = w)) (pts r) with ⟨k, h0, h1, h2, -, h4⟩ | ⟨-, h⟩
  · exact .inl ⟨k, h4, h0, h1, of_decide_eq_true h2⟩
  · exact .inr h
theorem joinV_is (r : Rl) (i j : Int) : (joinV r i j).2 = true → 0 ≤ (joinV r i j).1 ∧ (joinV r i j).1 < pts r := by
  rcases first_cases (nearP (aboveR r) i j) (pts r) with ⟨k, h0, h1, -, -, h4⟩ | ⟨-, h⟩
  · intro _; unfold joinV nearV; rw [h4]; exact ⟨h0, h1⟩
  · intro q; unfold joinV nearV at q; rw [h] at q; cases q
def plW (r : Rl) (w : BitVec 64) : Int := if (pointV r w).2 = true then (pointV r w).1 else -1
theorem pl_yes {r : Rl} {w : BitVec 64} {k : Int} (h0 : 0 ≤ k) (hk : k < pts r) (h : belowR r k = w) (hf : ∀ j : Int, 0 ≤ j → j < k → belowR r j ≠ w) : plW r w = k := by
  rw [plW, point_yes h0 hk h hf]; rfl
theorem pl_no {r : Rl} {w : BitVec 64} {k : Int} (hk : ¬ k < pts r) (hf : ∀ j : Int, 0 ≤ j → j < k → belowR r j ≠ w) : plW r w = -1 := by
  rw [plW, point_no hk hf]; rfl
theorem pl_is (r : Rl) (w : BitVec 64) : (0 ≤ plW r w ∧ plW r w < pts r ∧ belowR r (plW r w) = w ∧ pointV r w = (plW r w, true)) ∨ (plW r w = -1 ∧ (pointV r w).2 = false) := by
  unfold plW
  rcases point_val r w with ⟨k, h, h0, h1, h2⟩ | h
  · rw [h]; exact .inl ⟨h0, h1, h2, rfl⟩
  · rw [h]; exact .inr ⟨rfl, rfl⟩
def joinT (r : Rl) (i j : Int) : BitVec 64 := if (joinV r (plW r (belowR r i)) (plW r (belowR r j))).2 = true then belowR r (joinV r (plW r (belowR r i)) (plW r (belowR r j))).1 else belowR r i ||| belowR r j
theorem joinT_yes {r : Rl} {i j : Int} (h : (joinV r (plW r (belowR r i)) (plW r (belowR r j))).2 = true) : joinT r i j = belowR r (joinV r (plW r (belowR r i)) (plW r (belowR r j))).1 := if_pos h
theorem joinT_no {r : Rl} {i j : Int} (h : (joinV r (plW r (belowR r i)) (plW r (belowR r j))).2 = false) : joinT r i j = belowR r i ||| belowR r j := if_neg (by rw [h]; exact Bool.false_ne_true)
theorem raise_out {r : Rl} {a b : BitVec 64} (h : plW r a < 0 ∨ plW r b < 0) : a ||| b = raiseV r a b := by
  rcases h with h | h
  · rcases pl_is r a with q | q
    · omega
    · exact (raise_no1 q.2).symm
  · rcases pl_is r b with q | q
    · omega
    · exact (raise_no2 q.2).symm
theorem raise_in {r : Rl} {a b : BitVec 64} (h : ¬ (plW r a < 0 ∨ plW r b < 0)) : joinT r (plW r a) (plW r b) = raiseV r a b := by
  rcases pl_is r a with ⟨a0, a1, a2, a3⟩ | q
  · rcases pl_is r b with ⟨b0, b1, b2, b3⟩ | q
    · unfold joinT raiseV
      rw [a2, b2, a3, b3]; simp
    · omega
  · omega
def wordsT (r : Rl) (k : Nat) : List (BitVec 64) := (List.range k).map fun (i : Nat) => belowR r (i : Int)
theorem wordsT_len {r : Rl} {k : Nat} : (wordsT r k).length = k := by simp [wordsT]
theorem wordsT_at {r : Rl} {k : Nat} {i : Int} (h : 0 ≤ i ∧ i < k) : (wordsT r k).getD i.toNat 0 = belowR r i := by
  unfold wordsT
  rw [List.getD_eq_getElem?_getD, List.getElem?_map, List.getElem?_range (by omega), Option.map_some, Option.getD_some, Int.toNat_of_nonneg h.1]
theorem wordsT_next {r : Rl} {k : Int} (h : 0 ≤ k) : wordsT r (k + 1).toNat = wordsT r k.toNat ++ [belowR r k] := by
  rw [wordsT, show (k + 1).toNat = k.toNat + 1 by omega, List.range_succ, List.map_append, List.map_singleton, Int.toNat_of_nonneg h]; rfl
def rowJ (r : Rl) (i : Int) (n k : Nat) : List (BitVec 64) := (List.range n).map fun (j : Nat) => if j < k then joinT r i (j : Int) else 0
theorem rowJ_len {r : Rl} {i : Int} {n k : Nat} : (rowJ r i n k).length = n := by simp [rowJ]
theorem rowJ_zero {r : Rl} {i : Int} {n : Nat} : List.replicate n (0#64) = rowJ r i n 0 := by
  apply List.ext_getElem (by simp [rowJ])
  intro j h1 h2
  simp [rowJ]
theorem rowJ_set {r : Rl} {i : Int} {n : Nat} {k : Int} {x : BitVec 64} (h : 0 ≤ k ∧ k < n) (hx : x = joinT r i k) : (rowJ r i n k.toNat).set k.toNat x = rowJ r i n (k + 1).toNat := by
  apply List.ext_getElem (by simp [rowJ])
  intro j h1 h2
  rw [List.length_set, rowJ_len] at h1
  rw [List.getElem_set]
  simp only [rowJ, List.getElem_map, List.getElem_range]
  by_cases e : k.toNat = j
  · subst e
    rw [if_pos rfl, if_pos (by omega), hx, Int.toNat_of_nonneg h.1]
  · rw [if_neg e]
    by_cases q : j < k.toNat
    · rw [if_pos q, if_pos (by omega)]
    · rw [if_neg q, if_neg (by omega)]
theorem rowJ_set2 {r : Rl} {i : Int} {n : Nat} {k : Int} {x y : BitVec 64} (h : 0 ≤ k ∧ k < n) (hx : y = joinT r i k) : ((rowJ r i n k.toNat).set k.toNat x).set k.toNat y = rowJ r i n (k + 1).toNat := by
  rw [List.set_set]; exact rowJ_set h hx
theorem rowJ_at {r : Rl} {i : Int} {n : Nat} {j : Int} (h : 0 ≤ j ∧ j < n) : (rowJ r i n n).getD j.toNat 0 = joinT r i j := by
  unfold rowJ
  rw [List.getD_eq_getElem?_getD, List.getElem?_map, List.getElem?_range (by omega), Option.map_some, Option.getD_some, if_pos (by omega), Int.toNat_of_nonneg h.1]
end Go.Proofs.YtdfbimlpondblaaGreatDoor.M
namespace Go.Proofs.YtdfbimlpondblaaGreatDoor.E
open Go Go.RowKit Go.Proofs.YtdfbimlpondblaaGreatDoor.M
set_option linter.unusedVariables false
set_option linter.unusedSimpArgs false
def tabL (r : Rl) (d s : Int) (vw vj : Value) : List Value := relL r ++ [.int .u32 d, .int .i32 s, .int .u32 0, vw, vj]
section
variable {r : Rl} {d s : Int} {vw vj v : Value}
theorem tabL_len : (tabL r d s vw vj).length = 70 := by simp [tabL, relL_len]
theorem tab_n : (tabL r d s vw vj).toArray[0]? = some (I r.n) := by simp [tabL, relL]
theorem tab_at {k : Nat} (hk : k < 5) : (tabL r d s vw vj).toArray[65 + k]? = ([.int .u32 d, .int .i32 s, .int .u32 0, vw, vj] : List Value)[k]? := by
  rw [List.getElem?_toArray, tabL, List.getElem?_append_right (by rw [relL_len]; omega), relL_len, show 65 + k - 65 = k by omega]
theorem tab_d : (tabL r d s vw vj).toArray[65]? = some (.int .u32 d) := tab_at (k := 0) (by omega)
theorem tab_s : (tabL r d s vw vj).toArray[66]? = some (.int .i32 s) := tab_at (k := 1) (by omega)
theorem tab_w : (tabL r d s vw vj).toArray[68]? = some vw := tab_at (k := 3) (by omega)
theorem tab_j : (tabL r d s vw vj).toArray[69]? = some vj := tab_at (k := 4) (by omega)
theorem tab_set {k : Nat} : (tabL r d s vw vj).toArray.setIfInBounds (65 + k) v = (relL r ++ ([.int .u32 d, .int .i32 s, .int .u32 0, vw, vj] : List Value).set k v).toArray := by
  rw [List.setIfInBounds_toArray, tabL, List.set_append_right _ _ (by rw [relL_len]; omega), relL_len, show 65 + k - 65 = k by omega]
theorem tab_setw : (tabL r d s vw vj).toArray.setIfInBounds 68 v = (tabL r d s v vj).toArray := tab_set (k := 3)
theorem tab_setj : (tabL r d s vw vj).toArray.setIfInBounds 69 v = (tabL r d s vw v).toArray := tab_set (k := 4)
theorem tab_setd {e : Int} : (tabL r d s vw vj).toArray.setIfInBounds 65 (.int .u32 e) = (tabL r e s vw vj).toArray := tab_set (k := 0)
theorem tab_sets {e : Int} : (tabL r d s vw vj).toArray.setIfInBounds 66 (.int .i32 e) = (tabL r d e vw vj).toArray := tab_set (k := 1)
theorem tab_rel : ((tabL r d s vw vj).toArray.toList.drop 0).take (relL r).length = relL r := by simp [tabL]
end
structure RwU where
  v : Value
  l : List (BitVec 64)
def ru0 : RwU := ⟨.slice none 0 0, []⟩
theorem rus_at {rs : List RwU} {k : Int} (h : 0 ≤ k ∧ k < rs.length) : (rs.map RwU.v)[k.toNat * 1]? = some (rs.getD k.toNat ru0).v := by
  rw [Nat.mul_one, List.getElem?_map, List.getD_eq_getElem?_getD, List.getElem?_eq_getElem (by omega)]; rfl
def joinsT (r : Rl) (n k : Nat) : List (List (BitVec 64)) := (List.range k).map fun (i : Nat) => rowJ r (i : Int) n n
theorem joins_next {r : Rl} {n : Nat} {k : Int} (h : 0 ≤ k) : joinsT r n (k + 1).toNat = joinsT r n k.toNat ++ [rowJ r k n n] := by
  rw [joinsT, show (k + 1).toNat = k.toNat + 1 by omega, List.range_succ, List.map_append, List.map_singleton, Int.toNat_of_nonneg h]; rfl
structure TabV (K : Vu) (r : Rl) (vw vj : Value) (rs : List RwU) : Prop where
  words : SlV K vw 1 (wordsT r (pts r).toNat).length ((wordsT r (pts r).toNat).map U)
  joins : SlV K vj 1 rs.length (rs.map RwU.v)
  each : ∀ x ∈ rs, SlV K x.v 1 x.l.length (x.l.map U)
  rs : rs.map RwU.l = joinsT r (pts r).toNat (pts r).toNat
section
variable {K K' : Vu} {r : Rl} {vw vj : Value} {rs : List RwU}
theorem TabV.mono (h : TabV K r vw vj rs) (hl : Le K K') : TabV K' r vw vj rs := ⟨h.words.mono hl, h.joins.mono hl, fun x hx => (h.each x hx).mono hl, h.rs⟩
theorem TabV.len (h : TabV K r vw vj rs) : rs.length = (pts r).toNat := by
  have := congrArg List.length h.rs
  simpa [joinsT] using this
theorem TabV.row (h : TabV K r vw vj rs) {i : Int} (hi : 0 ≤ i ∧ i < pts r) : (rs.getD i.toNat ru0).l = rowJ r i (pts r).toNat (pts r).toNat ∧ SlV K (rs.getD i.toNat ru0).v 1 (rs.getD i.toNat ru0).l.length ((rs.getD i.toNat ru0).l.map U) := by
  have hl := h.len
  have hm : i.toNat < rs.length := by omega
  have e : rs.getD i.toNat ru0 = rs[i.toNat] := by rw [List.getD_eq_getElem?_getD, List.getElem?_eq_getElem hm]; rfl
  rw [e]
  refine ⟨?_, h.each _ (List.getElem_mem hm)⟩
  have h2 : (rs.map RwU.l)[i.toNat]? = some (rowJ r i (pts r).toNat (pts r).toNat) := by
    rw [h.rs, joinsT, List.getElem?_map, List.getElem?_range (by omega), Option.map_some, Int.toNat_of_nonneg hi.1]
  rw [List.getElem?_map, List.getElem?_eq_getElem hm] at h2
  simpa using h2
end
end Go.Proofs.YtdfbimlpondblaaGreatDoor.E
namespace Go.Proofs.YtdfbimlpondblaaGreatDoor.E
open Go Go.RowKit Go.Proofs.YtdfbimlpondblaaGreatDoor.M
set_option linter.unusedVariables false
set_option linter.unusedSimpArgs false
section
variable {P : Program} {σ : Env} {w0 w : World} {L : List Ent} {dst : Option Tmp} {ty t : TypeId} {pos : String} {aft : Array Edge} {g : Option (Nat × Bool)} {x y : Operand} {v u : Value} {i b o m : Nat} {xs : List Value} {r : Rl}
theorem Hp.setCell {c : Array Value} {e : TypeId} (h : Hp w0 w L) (hi : L[i]? = some (.blk b (.cells c e (0, 0)))) : Hp w0 (w.setCell ⟨b, o, none⟩ v) (L.set i (.blk b (.cells (c.setIfInBounds o v) e (0, 0)))) := by
  have e1 : w.setCell ⟨b, o, none⟩ v = w.setRow b (c.setIfInBounds o v) := by
    unfold World.setCell World.setRow
    congr 1
    have hg := h.blk hi
    have hlt : b < w.heap.size := (Array.getElem?_eq_some_iff.1 hg).1
    have hv : w.heap[b] = .cells c e (0, 0) := (Array.getElem?_eq_some_iff.1 hg).2
    apply Array.ext (by simp)
    intro k h1 h2
    rw [Array.getElem_modify, Array.getElem_modify]
    by_cases q : b = k
    · subst q; simp [hv]
    · rw [if_neg q, if_neg q]
  rw [e1]; exact h.set hi
theorem Hp.fz {c : Array Value} {e : TypeId} (h : Hp w0 w L) (hi : L[i]? = some (.blk b (.cells c e (0, 0)))) : w.frozen? ⟨b, o, none⟩ = false := by
  have hg := h.blk hi
  unfold World.frozen?
  simp only [hg]
  simp
theorem run_ldTab {d : TypeDesc} {a s : Int} {vw vj : Value} {fr : Nat × Nat} {e : TypeId} (hu : P.underlying t = some d) (hd : d.isRow = true) (hi : (P.info? t).map (·.size) = some 65) (hx : ev σ x = .pointer (some ⟨b, 0, none⟩)) (hg : w.heap[b]? = some (.cells (tabL r a s vw vj).toArray e fr)) :
    (execOp (ev σ) ⟨dst, .load t x, ty, pos, aft, g⟩).run P w = .ok (.value (.agg (relC r))) w := by
  rw [relC_def]
  exact run_ldSub (sub := relL r) hu hd (by rw [relL_len]; exact hi) hx hg tab_rel
theorem words_cell {n : Nat} {k : Int} (h : Sl w v 1 (wordsT r n).length ((wordsT r n).map U)) (hk : 0 ≤ k ∧ k < n) : w.cell? ⟨sb v, so v + k.toNat * 1, none⟩ = some (U (belowR r k)) := by
  rw [← wordsT_at hk]
  refine h.cell _ _ ?_
  rw [Nat.mul_one, List.getElem?_map, List.getD_eq_getElem?_getD, List.getElem?_eq_getElem (by rw [wordsT_len]; omega)]; rfl
theorem mk_zero {i : Int} {n : Nat} : (List.replicate n (0#64)).flatMap (fun x : BitVec 64 => [U x]) = (rowJ r i n 0).map U := by
  rw [← rowJ_zero]
  induction n with
  | zero => rfl
  | succ n ih => rw [List.replicate_succ, List.flatMap_cons, List.map_cons, ih]; rfl
end
def KN : Vu := fun _ _ => False
theorem KN.le {K : Vu} : Le KN K := fun _ _ h => h.elim
end Go.Proofs.YtdfbimlpondblaaGreatDoor.E
namespace Go.Proofs.YtdfbimlpondblaaGreatDoor.E
open Go Go.RowKit Go.Proofs.YtdfbimlpondblaaGreatDoor.M
def TbZ (TT : TypeId) (r : Rl) (b : Nat) (Z : List Ent) : Prop :=
  Z = [.blk b (.cells (tabL r 0 0 (.slice none 0 0) (.slice none 0 0)).toArray TT (0, 0))] ∨
  ∃ (v1 v2 : Value) (rs : List RwU) (Zr : List Ent), Z = .blk b (.cells (tabL r 1 0 v1 v2).toArray TT (0, 0)) :: Zr ∧ TabV (Kz KN Zr) r v1 v2 rs
theorem rus_more {K : Vu} {Zr z : List Ent} {rs : List RwU} {v : Value} {n : Nat} {l : List (BitVec 64)} (h : ∀ x ∈ rs, SlV (Kz K Zr) x.v 1 x.l.length (x.l.map U)) (hv : SlV (Kz K z) v 1 n (l.map U)) (hn : n = l.length := by first | rfl | (rw [rowJ_len])) : ∀ x ∈ rs ++ [RwU.mk v l], SlV (Kz K (z ++ Zr)) x.v 1 x.l.length (x.l.map U) := fun x hx => by
  rcases List.mem_append.1 hx with q | q
  · exact (h x q).mono (Le.zz fun e he => List.mem_append_right _ he)
  · rw [List.mem_singleton.1 q]; subst hn; exact hv.mono (Le.zz fun e he => List.mem_append_left _ he)
end Go.Proofs.YtdfbimlpondblaaGreatDoor.E
/-! ### Parts of the tail -/
namespace Go.Proofs.YtdfbimlpondblaaGreatDoor.E
open Go Go.RowKit Go.Proofs.YtdfbimlpondblaaGreatDoor.M
set_option linter.unusedVariables false
set_option linter.unusedSimpArgs false
theorem Hp.frontZ {w0 w : World} {A Zf R : List Ent} (h : Hp w0 w (A ++ (Zf ++ R))) : Hp w0 w (Zf ++ (A ++ R)) := h.perm (by
  rw [← List.append_assoc, ← List.append_assoc]
  exact List.perm_append_comm.append_right R)
theorem run_mkM1 {P : Program} {σ : Env} {w : World} {dst : Option Tmp} {ty : TypeId} {pos : String} {aft : Array Edge} {g : Option (Nat × Bool)} {x : Operand} {fn : Fn} {v : Value} (hx : ev σ x = v) :
    (execOp (ev σ) ⟨dst, .makeFunc fn #[x] #[], ty, pos, aft, g⟩).run P w = .ok (.value (.func fn #[v] #[])) w := by
  simp [execOp, hx, Instr.makeFunc]
theorem pl_bd (r : Rl) (w : BitVec 64) : -1 ≤ plW r w ∧ (plW r w < 0 ∨ plW r w < pts r) := by
  rcases pl_is r w with ⟨a, b, -, -⟩ | ⟨a, -⟩ <;> omega
abbrev TbM := Nat → Option (Nat × Rl)
def ptrT (o : Option (Nat × Rl)) : Value := .pointer (o.map fun p => ⟨p.1, 0, none⟩)
def tbL (tb : TbM) : List Value := (List.range 8).map fun i => ptrT (tb i)
theorem tbL_len (tb : TbM) : (tbL tb).length = 8 := by simp [tbL]
def tb0 : TbM := fun _ => none
def putT (tb : TbM) (k : Nat) (p : Nat × Rl) : TbM := fun i => if i = k then some p else tb i
theorem tbL_at (tb : TbM) {k : Nat} (h : k < 8) : (tbL tb).toArray[0 + k * 1]? = some (ptrT (tb k)) := by
  rw [Nat.zero_add, Nat.mul_one, List.getElem?_toArray, tbL, List.getElem?_map, List.getElem?_range h]; rfl
theorem tbL_put (tb : TbM) {k : Nat} {p : Nat × Rl} : (tbL tb).toArray.setIfInBounds (0 + k * 1) (.pointer (some ⟨p.1, 0, none⟩)) = (tbL (putT tb k p)).toArray := by
  rw [Nat.zero_add, Nat.mul_one, List.setIfInBounds_toArray]
  congr 1
  apply List.ext_getElem (by simp [tbL])
  intro j h1 h2
  rw [List.getElem_set]
  simp only [tbL, List.getElem_map, List.getElem_range, putT]
  by_cases e : k = j
  · subst e; rw [if_pos rfl, if_pos rfl]; rfl
  · rw [if_neg e, if_neg (fun q => e q.symm)]
def joinTb (tb : TbM) (a c : El) : El := fun i => match tb i with
  | some p => raiseV p.2 (a i) (c i)
  | none => a i ||| c i
def TblZ (TT : TypeId) : List (Nat × Rl) → List Ent → Prop
  | [], Z => Z = []
  | p :: tl, Z => ∃ z Y, Z = z ++ Y ∧ TbZ TT p.2 p.1 z ∧ TblZ TT tl Y
theorem TblZ.one {TT : TypeId} {b : Nat} {r : Rl} {z : List Ent} (h : TbZ TT r b z) : TblZ TT [(b, r)] z := ⟨z, [], by simp, h, rfl⟩
theorem TblZ.app {TT : TypeId} {tl tm : List (Nat × Rl)} {Z Y : List Ent} (h : TblZ TT tl Z) (k : TblZ TT tm Y) : TblZ TT (tl ++ tm) (Z ++ Y) := by
  induction tl generalizing Z with
  | nil => have e : Z = [] := h; subst e; exact k
  | cons p tl ih =>
    obtain ⟨z, X, rfl, h1, h2⟩ := h
    exact ⟨z, X ++ Y, by simp, h1, ih h2⟩
theorem TblZ.pick {TT : TypeId} {tl : List (Nat × Rl)} {Z : List Ent} {b : Nat} {r : Rl} (h : TblZ TT tl Z) (hm : (b, r) ∈ tl) : ∃ z Y, TbZ TT r b z ∧ Z.Perm (z ++ Y) ∧ ∀ z', TbZ TT r b z' → ∃ Z', TblZ TT tl Z' ∧ (z' ++ Y).Perm Z' := by
  induction tl generalizing Z with
  | nil => cases hm
  | cons p tl ih =>
    obtain ⟨z, X, rfl, h1, h2⟩ := h
    rcases List.mem_cons.1 hm with e | hm
    · subst e
      exact ⟨z, X, h1, List.Perm.refl _, fun z' hz' => ⟨z' ++ X, ⟨z', X, rfl, hz', h2⟩, List.Perm.refl _⟩⟩
    · obtain ⟨z1, Y, k1, k2, k3⟩ := ih h2 hm
      refine ⟨z1, z ++ Y, k1, ?_, fun z' hz' => ?_⟩
      · refine (List.Perm.append_left z k2).trans ?_
        rw [← List.append_assoc, ← List.append_assoc]
        exact List.perm_append_comm.append_right Y
      · obtain ⟨Z', q1, k5⟩ := k3 z' hz'
        refine ⟨z ++ Z', ⟨z, Z', rfl, h1, q1⟩, ?_⟩
        refine List.Perm.trans ?_ (List.Perm.append_left z k5)
        rw [← List.append_assoc, ← List.append_assoc]
        exact List.perm_append_comm.append_right Y
end Go.Proofs.YtdfbimlpondblaaGreatDoor.E
namespace Go.Proofs.YtdfbimlpondblaaGreatDoor.E
open Go Go.RowKit Go.Proofs.YtdfbimlpondblaaGreatDoor.M
set_option linter.unusedVariables false
set_option linter.unusedSimpArgs false
theorem cellK {w : World} {b off : Nat} {cs : Array Value} {te : TypeId} {fr : Nat × Nat} {v : Value} (h : w.heap[b]? = some (.cells cs te fr)) (hc : cs[off]? = some v) : w.cell? ⟨b, off, none⟩ = some v := by
  rw [cell_of_row w b off cs te fr h]; exact hc
theorem tbL_ix (tb : TbM) {k : Int} (h : 0 ≤ k ∧ k < 8) : (tbL tb).toArray[k.toNat]? = some (ptrT (tb k.toNat)) := by
  have := tbL_at tb (k := k.toNat) (by omega)
  rwa [Nat.zero_add, Nat.mul_one] at this
theorem run_neqTb {P : Program} {σ : Env} {w : World} {dst : Option Tmp} {t te ty u : TypeId} {pos : String} {aft : Array Edge} {g : Option (Nat × Bool)} {x y : Operand} {o : Option (Nat × Rl)} (ht : P.underlying t = some (.pointer te)) (hx : ev σ x = ptrT o) (hy : ev σ y = .pointer none) :
    (execOp (ev σ) ⟨dst, .binOp .neq t x y u, ty, pos, aft, g⟩).run P w = .ok (.value (.bool o.isSome)) w := by
  cases o with
  | none =>
    have h : (binOp .neq t (.pointer none) (.pointer none)).run P w = .ok (.bool false) w := by
      simp only [binOp]; simp [Op.equal, Op.maxDepth, run_ptrEq1 9999 ht]
    have he : (eqGuard .neq t x y (.pointer none) (.pointer none)) = pure () := rfl
    have hx' : ev σ x = .pointer none := hx
    simp only [execOp, hx', hy, he]; simp [h]
  | some p =>
    have h : (binOp .neq t (.pointer (some ⟨p.1, 0, none⟩)) (.pointer none)).run P w = .ok (.bool true) w := by
      simp only [binOp]; simp [Op.equal, Op.maxDepth, run_ptrEq0 9999 ht]
    have he : (eqGuard .neq t x y (.pointer (some ⟨p.1, 0, none⟩)) (.pointer none)) = pure () := rfl
    have hx' : ev σ x = .pointer (some ⟨p.1, 0, none⟩) := hx
    simp only [execOp, hx', hy, he]; simp [h]
theorem Hp.pickT {w0 w : World} {A Zt R z Y : List Ent} (h : Hp w0 w (A ++ (Zt ++ R))) (hp : Zt.Perm (z ++ Y)) : Hp w0 w (z ++ (Y ++ (A ++ R))) := by
  refine h.frontZ.perm ?_
  rw [← List.append_assoc z]
  exact hp.append_right _
theorem Hp.backT {w0 w : World} {A Z' R z Y : List Ent} (h : Hp w0 w (z ++ (Y ++ (A ++ R)))) (hp : (z ++ Y).Perm Z') : Hp w0 w (A ++ (Z' ++ R)) := by
  refine h.perm ?_
  rw [← List.append_assoc z]
  refine (hp.append_right _).trans ?_
  rw [← List.append_assoc, ← List.append_assoc]
  exact List.perm_append_comm.append_right R
theorem jt_yes {tb : TbM} {a c : El} {k : Int} {e : El} {b : Nat} {r : Rl} (hr : e = mixE (joinTb tb a c) a k) (h0 : 0 ≤ k) (hp : tb k.toNat = some (b, r)) : putE e k.toNat (raiseV r (e k.toNat) (c k.toNat)) = mixE (joinTb tb a c) a (k + 1) := by
  subst hr
  refine mix_put h0 ?_
  have e1 : mixE (joinTb tb a c) a k k.toNat = a k.toNat := if_neg (by omega)
  rw [e1]; simp only [joinTb, hp]
theorem jt_no {tb : TbM} {a c : El} {k : Int} {e : El} (hr : e = mixE (joinTb tb a c) a k) (h0 : 0 ≤ k) (hp : (tb k.toNat).isSome = false) : putE e k.toNat (e k.toNat ||| c k.toNat) = mixE (joinTb tb a c) a (k + 1) := by
  subst hr
  refine mix_put h0 ?_
  have e1 : mixE (joinTb tb a c) a k k.toNat = a k.toNat := if_neg (by omega)
  have hp' : tb k.toNat = none := by cases h : tb k.toNat with
    | none => rfl
    | some p => rw [h] at hp; cases hp
  rw [e1]; simp only [joinTb, hp']
end Go.Proofs.YtdfbimlpondblaaGreatDoor.E
namespace Go.Proofs.YtdfbimlpondblaaGreatDoor.E
open Go Go.RowKit Go.Proofs.YtdfbimlpondblaaGreatDoor.M
set_option linter.unusedVariables false
set_option linter.unusedSimpArgs false
theorem tbL_put2 (tb : TbM) {k b : Nat} (r : Rl) : (tbL tb).toArray.setIfInBounds (0 + k * 1) (.pointer (some ⟨b, 0, none⟩)) = (tbL (putT tb k (b, r))).toArray := tbL_put (p := (b, r)) tb
def TbTo (s : Sh) (k : Int) (tb : TbM) : Prop := ∀ i : Nat, i < 8 → if (i : Int) < k ∧ (i : Int) < s.facs.length ∧ (s.facs.getD i fc0).kind = 4 then ∃ b, tb i = some (b, (s.facs.getD i fc0).rel) else tb i = none
theorem TbTo.start (s : Sh) : TbTo s 0 tb0 := fun i hi => by rw [if_neg (by omega)]; rfl
theorem TbTo.put {s : Sh} {k : Int} {tb : TbM} {b : Nat} {r : Rl} (h : TbTo s k tb) (h0 : 0 ≤ k) (h1 : k < s.facs.length) (h2 : (s.facs.getD k.toNat fc0).kind = 4) (hr : (s.facs.getD k.toNat fc0).rel = r) : TbTo s (k + 1) (putT tb k.toNat (b, r)) := fun i hi => by
  have := h i hi
  unfold putT
  by_cases e : i = k.toNat
  · subst e
    rw [if_pos ⟨by omega, by omega, h2⟩, if_pos rfl, hr]; exact ⟨b, rfl⟩
  · rw [if_neg e]
    by_cases q : (i : Int) < k ∧ (i : Int) < s.facs.length ∧ (s.facs.getD i fc0).kind = 4
    · rw [if_pos q] at this; rw [if_pos ⟨by omega, q.2⟩]; exact this
    · rw [if_neg q] at this; rw [if_neg fun w => q ⟨by omega, w.2⟩]; exact this
theorem TbTo.skip {s : Sh} {k : Int} {tb : TbM} (h : TbTo s k tb) (h0 : 0 ≤ k) (h2 : ¬ (k < 8 ∧ (s.facs.getD k.toNat fc0).kind = 4)) : TbTo s (k + 1) tb := fun i hi => by
  have := h i hi
  by_cases e : i = k.toNat
  · subst e
    rw [if_neg (by omega)] at this
    rw [if_neg fun w => h2 ⟨by omega, w.2.2⟩]; exact this
  · by_cases q : (i : Int) < k ∧ (i : Int) < s.facs.length ∧ (s.facs.getD i fc0).kind = 4
    · rw [if_pos q] at this; rw [if_pos ⟨by omega, q.2⟩]; exact this
    · rw [if_neg q] at this; rw [if_neg fun w => q ⟨by omega, w.2⟩]; exact this
def TbOf (s : Sh) (tb : TbM) : Prop := ∀ i : Nat, i < 8 → if (i : Int) < s.facs.length ∧ (s.facs.getD i fc0).kind = 4 then ∃ b, tb i = some (b, (s.facs.getD i fc0).rel) else tb i = none
theorem TbTo.all {s : Sh} {k : Int} {tb : TbM} (h : TbTo s k tb) (hk : ¬ k < s.facs.length) : TbOf s tb := fun i hi => by
  have := h i hi
  by_cases q : (i : Int) < s.facs.length ∧ (s.facs.getD i fc0).kind = 4
  · rw [if_pos q]; rw [if_pos ⟨by omega, q⟩] at this; exact this
  · rw [if_neg q]; rw [if_neg fun w => q w.2] at this; exact this
theorem joinTb_is {s : Sh} {tb : TbM} (h : TbOf s tb) (a c : El) : eqE (joinTb tb a c) (joinS s a c) := fun i hi => by
  have := h i hi
  unfold joinTb joinS joinW
  by_cases q : (i : Int) < s.facs.length ∧ (s.facs.getD i fc0).kind = 4
  · rw [if_pos q] at this ⊢
    obtain ⟨b, e⟩ := this; simp only [e]
  · rw [if_neg q] at this ⊢
    simp only [this]
theorem mem_put {tb : TbM} {tl : List (Nat × Rl)} {k : Nat} {q : Nat × Rl} (h : ∀ i, i < 8 → ∀ p, tb i = some p → p ∈ tl) : ∀ i, i < 8 → ∀ p, putT tb k q i = some p → p ∈ q :: tl := fun i hi p hp => by
  unfold putT at hp
  by_cases e : i = k
  · rw [if_pos e] at hp; cases hp; simp
  · rw [if_neg e] at hp; exact List.mem_cons_of_mem _ (h i hi p hp)
theorem TblZ.cons {TT : TypeId} {tl : List (Nat × Rl)} {Z : List Ent} {b : Nat} {r : Rl} (h : TblZ TT tl Z) : TblZ TT ((b, r) :: tl) ([.blk b (.cells (tabL r 0 0 (.slice none 0 0) (.slice none 0 0)).toArray TT (0, 0))] ++ Z) := ⟨_, _, rfl, .inl rfl, h⟩
end Go.Proofs.YtdfbimlpondblaaGreatDoor.E
