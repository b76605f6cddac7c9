/-
  The document's forests in memory, and calls on both.
-/
import Derived.Test.YtphknfjaellkjaaFor
namespace Go.Proofs.Ytphknfjaellkjaa.M
open Go
set_option linter.unusedVariables false
set_option linter.unusedSimpArgs false
structure OpR where
  kind : Int
  i : Int
  j : Int
def op0 : OpR := ⟨0, 0, 0⟩
def stepC (cs : List (List Nat)) (o : OpR) : List (List Nat) := if o.kind = 1 then (unionC cs o.i o.j).1 else if o.kind = 2 then (undoC cs o.i).1 else addC cs
def doB (cs as : List (List Nat)) (o : OpR) : Bool :=
  if o.kind = 1 then (unionC cs o.i o.j).2 == (unionC as o.i o.j).2 else if o.kind = 2 then (undoC cs o.i).2 == (undoC as o.i).2 else decide (((nowC cs).length : Int) = (nowC as).length)
end Go.Proofs.Ytphknfjaellkjaa.M
namespace Go.Proofs.Ytphknfjaellkjaa.E
open Go Go.RowKit Go.Proofs.Ytphknfjaellkjaa.M
set_option linter.unusedVariables false
set_option linter.unusedSimpArgs false
def opL (o : OpR) : List Value := [I o.kind, I o.i, I o.j]
theorem opL_len (o : OpR) : (opL o).length = 3 := rfl
theorem opL_one (o : OpR) : ∀ u ∈ (opL o).toArray, u.oneCell' = true := by simp [opL, Value.oneCell']
structure Rw where
  v : Value
  l : List Nat
def rw0 : Rw := ⟨.slice none 0 0, []⟩
def rwI (l : List Nat) : List Int := l.map Int.ofNat
structure RFo where
  v : Value
  rs : List Rw
def IV (K : Vu) (v : Value) (l : List Nat) : Prop := SlV K v 1 (rwI l).length ((rwI l).map I)
structure FoV (K : Vu) (x : RFo) : Prop where
  sl0 : SlV K x.v 1 x.rs.length (x.rs.map Rw.v)
  each : ∀ r ∈ x.rs, SlV K r.v 1 (rwI r.l).length ((rwI r.l).map I)
  ne : 0 < x.rs.length
def RFo.cs (x : RFo) : List (List Nat) := (x.rs.map Rw.l).reverse
def nowR (x : RFo) : Rw := x.rs.getD (x.rs.length - 1) rw0
theorem Hp.swz {w0 w : World} {A z Zf R : List Ent} (h : Hp w0 w (A ++ (z ++ (Zf ++ R)))) : Hp w0 w (A ++ (Zf ++ (z ++ R))) := h.perm (List.Perm.append_left A (by
  rw [← List.append_assoc, ← List.append_assoc]
  exact List.perm_append_comm.append_right R))
theorem Hp.zfront {w0 w : World} {A Zf R : List Ent} (h : Hp w0 w (A ++ (Zf ++ R))) : Hp w0 w (Zf ++ (A ++ R)) := h.perm (by
  rw [← List.append_assoc, ← List.append_assoc]
  exact List.perm_append_comm.append_right R)
theorem Hp.zback {w0 w : World} {A Zf R : List Ent} (h : Hp w0 w (Zf ++ (A ++ R))) : Hp w0 w (A ++ (Zf ++ R)) := h.perm (by
  rw [← List.append_assoc, ← List.append_assoc]
  exact List.perm_append_comm.append_right R)
section
variable {K K' : Vu} {x : RFo} {v : Value} {l : List Nat} {n : Nat} {xs : List Value}
theorem IV.mono (h : IV K v l) (hl : Le K K') : IV K' v l := SlV.mono h hl
theorem IV.of (h : SlV K v 1 n xs) (hn : n = l.length) (hx : xs = (rwI l).map I) : IV K v l := by
  subst hn hx; unfold IV; rw [show (rwI l).length = l.length by simp [rwI]]; exact h
theorem FoV.mono (h : FoV K x) (hl : Le K K') : FoV K' x := ⟨h.sl0.mono hl, fun r hr => (h.each r hr).mono hl, h.ne⟩
theorem FoV.at (h : FoV K x) {k : Int} (h0 : 0 ≤ k) (h1 : k < x.rs.length) : SlV K (x.rs.getD k.toNat rw0).v 1 (rwI (x.rs.getD k.toNat rw0).l).length ((rwI (x.rs.getD k.toNat rw0).l).map I) := h.each _ (List.mem_of_getElem? (getD_at (d := rw0) h0 h1))
theorem FoV.now (h : FoV K x) : SlV K (nowR x).v 1 (rwI (nowR x).l).length ((rwI (nowR x).l).map I) := by
  have := h.ne
  have := h.at (k := ((x.rs.length - 1 : Nat) : Int)) (by omega) (by omega)
  rwa [Int.toNat_natCast] at this
theorem FoV.small (h : FoV K x) : (rwI (nowR x).l).length ≤ 9223372036854775807 ∧ x.rs.length ≤ 9223372036854775807 := by
  have h1 := h.now.small; have h2 := h.sl0.small
  unfold maxLen at h1 h2; omega
theorem rws_at {rs : List Rw} {k : Int} (h : 0 ≤ k ∧ k < rs.length) : (rs.map Rw.v)[k.toNat * 1]? = some (rs.getD k.toNat rw0).v := by
  rw [Nat.mul_one, List.getElem?_map, List.getD_eq_getElem?_getD, List.getElem?_eq_getElem (by omega)]; rfl
theorem rwI_len (l : List Nat) : (rwI l).length = l.length := by simp [rwI]
theorem rwI_snoc (l : List Nat) (c : Nat) : (rwI l).map I ++ [I c] = (rwI (l ++ [c])).map I := by simp [rwI]
theorem now_cs {x : RFo} (h : 0 < x.rs.length) : nowC x.cs = (nowR x).l := by
  unfold nowC RFo.cs nowR
  rw [← List.map_reverse]
  have e : x.rs.getD (x.rs.length - 1) rw0 = x.rs[x.rs.length - 1] := by rw [List.getD_eq_getElem?_getD, List.getElem?_eq_getElem (by omega)]; rfl
  rw [e]
  have : x.rs.reverse.map Rw.l = (x.rs[x.rs.length - 1]).l :: (x.rs.reverse.tail.map Rw.l) := by
    have h2 : x.rs.reverse ≠ [] := by
      intro q
      have q2 := congrArg List.length q
      rw [List.length_reverse, List.length_nil] at q2; omega
    conv => lhs; rw [← List.cons_head_tail h2]
    rw [List.map_cons, List.head_reverse, List.getLast_eq_getElem]
  rw [this]; rfl
theorem cs_len : x.cs.length = x.rs.length := by simp [RFo.cs]
theorem cs_then {v9 : Value} : (RFo.mk v (x.rs ++ [Rw.mk v9 l])).cs = l :: x.cs := by simp [RFo.cs]
theorem cs_take : (RFo.mk v (x.rs.take n)).cs = x.cs.drop (x.rs.length - n) := by
  unfold RFo.cs
  rw [List.map_take, List.reverse_take, List.length_map]
theorem FoV.then_ {v9 : Value} {Z : List Ent} (h : FoV K x) (hl : IV K v9 l) (hz : SlV (Kz K Z) v 1 n xs) (hn : n = x.rs.length + 1) (hx : xs = x.rs.map Rw.v ++ [v9]) : FoV (Kz K Z) ⟨v, x.rs ++ [⟨v9, l⟩]⟩ := by
  subst hn hx
  refine ⟨?_, fun r hr => ?_, by simp⟩
  · show SlV (Kz K Z) v 1 (x.rs ++ [Rw.mk v9 l]).length ((x.rs ++ [Rw.mk v9 l]).map Rw.v)
    rw [List.length_append, List.map_append]; exact hz
  · rcases List.mem_append.1 hr with q | q
    · exact (h.each r q).mono (Le.z _ _)
    · rw [List.mem_singleton.1 q]; exact SlV.mono hl (Le.z _ _)
theorem FoV.take_ {Z : List Ent} {m : Nat} (h : FoV K x) (hz : SlV (Kz K Z) v 1 n xs) (hn : n = m) (hx : xs = (x.rs.map Rw.v).take m) (hm : 0 < m ∧ m ≤ x.rs.length) : FoV (Kz K Z) ⟨v, x.rs.take m⟩ := by
  subst hn hx
  refine ⟨?_, fun r hr => (h.each r (List.mem_of_mem_take hr)).mono (Le.z _ _), by simp; omega⟩
  show SlV (Kz K Z) v 1 (x.rs.take n).length ((x.rs.take n).map Rw.v)
  rw [List.length_take, Nat.min_eq_left hm.2, List.map_take]; exact hz
theorem FoV.new_ {Z : List Ent} (hz : SlV (Kz K Z) v 1 1 [.slice none 0 0]) : FoV (Kz K Z) ⟨v, [rw0]⟩ := ⟨hz, fun r hr => by rw [List.mem_singleton.1 hr]; exact SlV.nil _ _, by simp⟩
theorem undo_no {m : Int} (h : 0 < x.rs.length) (hm : (x.rs.length : Int) ≤ max 0 m) : undoC x.cs m = (x.cs, false) := if_pos (by rw [cs_len]; omega)
theorem undo_yes {m : Int} (hm : ¬ (x.rs.length : Int) ≤ max 0 m) : undoC x.cs m = (x.cs.drop (x.rs.length - ((max 0 m).toNat + 1)), true) := by
  unfold undoC
  rw [cs_len, if_neg (by omega)]; congr 2; omega
theorem FoV.one (h : FoV K x) : ∀ u ∈ #[x.v], u.oneCell' = true := by
  have := (one_slice h.sl0).1
  simpa using this
theorem rws_one (h : FoV K x) {n : Nat} : ∀ u ∈ (x.rs.map Rw.v).take n, u.oneCell' = true := fun u hu => by
  obtain ⟨r, hr, rfl⟩ := List.mem_map.1 (List.mem_of_mem_take hu)
  exact (one_slice (h.each r hr)).1
theorem rwI_at {l : List Nat} {k : Nat} : (rwI l).getD k 0 = ((l.getD k 0 : Nat) : Int) := by
  unfold rwI
  rw [List.getD_eq_getElem?_getD, List.getD_eq_getElem?_getD, List.getElem?_map]
  cases l[k]? <;> rfl
theorem find_at {l : List Nat} {i : Int} (h : 0 ≤ i ∧ i < (rwI l).length) : (rwI l).getD i.toNat 0 = findR l i := by
  rw [rwI_len] at h
  rw [findR_in h, rwI_at]; rfl
theorem find_out {l : List Nat} {i : Int} (h : ¬ (0 ≤ i ∧ i < (rwI l).length)) : (-1 : Int) = findR l i := by
  rw [rwI_len] at h
  rw [findR_out h]
def clsTo (l : List Nat) (i : Int) (k : Nat) : List Nat := (List.range k).filter fun q => findR l i == findR l q
theorem join_to {l : List Nat} {a b : Nat} {k : Int} (h0 : 0 ≤ k) (h1 : k < (rwI l).length) : (l.take (k + 1).toNat).map (mixC a b) = (l.take k.toNat).map (mixC a b) ++ [mixC a b (l.getD k.toNat 0)] := by
  rw [rwI_len] at h1
  rw [show (k + 1).toNat = k.toNat + 1 by omega, List.take_add_one, List.getElem?_eq_getElem (by omega), Option.toList, List.map_append, List.getD_eq_getElem?_getD, List.getElem?_eq_getElem (by omega)]; rfl
theorem ru_no (h : 0 < x.rs.length) {i j : Int} (hn : findR (nowC x.cs) i < 0 ∨ findR (nowC x.cs) j < 0 ∨ findR (nowC x.cs) i = findR (nowC x.cs) j) : unionC x.cs i j = (x.cs, false) := if_pos hn
theorem ru_yes (h : 0 < x.rs.length) {i j : Int} (hn : ¬ (findR (nowC x.cs) i < 0 ∨ findR (nowC x.cs) j < 0 ∨ findR (nowC x.cs) i = findR (nowC x.cs) j)) : unionC x.cs i j = ((nowR x).l.map (mixC (findR (nowR x).l i).toNat (findR (nowR x).l j).toNat) :: x.cs, true) := by
  rw [← now_cs h]; exact if_neg hn
theorem ru_min {a b : Int} (h : 0 ≤ a ∧ 0 ≤ b) : ((min a.toNat b.toNat : Nat) : Int) = min a b := by omega
end
end Go.Proofs.Ytphknfjaellkjaa.E
/-! ### What the laws hold -/
namespace Go.Proofs.Ytphknfjaellkjaa.E
open Go Go.RowKit Go.Proofs.Ytphknfjaellkjaa.M
set_option linter.unusedVariables false
set_option linter.unusedSimpArgs false
theorem Hp.nilZ {w0 w : World} {A Z : List Ent} (h : Hp w0 w (A ++ Z)) : Hp w0 w (A ++ (Z ++ [])) := by rw [List.append_nil]; exact h
theorem Hp.unZ {w0 w : World} {A Z : List Ent} (h : Hp w0 w (A ++ (Z ++ []))) : Hp w0 w (A ++ Z) := by rwa [List.append_nil] at h
theorem Hp.nilT {w0 w : World} {L : List Ent} (h : Hp w0 w L) : Hp w0 w (L ++ []) := by rw [List.append_nil]; exact h
theorem Hp.zdo {w0 w : World} {A Zf R : List Ent} (h : Hp w0 w (A ++ (Zf ++ R))) : Hp w0 w (Zf ++ (R ++ A)) := h.perm (by
  rw [← List.append_assoc Zf R A]; exact List.perm_append_comm)
theorem Hp.zdone {w0 w : World} {A Zf z R : List Ent} (h : Hp w0 w (Zf ++ (z ++ (R ++ A)))) : Hp w0 w (A ++ (Zf ++ (z ++ R))) := h.perm (by
  rw [← List.append_assoc z R A, ← List.append_assoc Zf (z ++ R) A]; exact List.perm_append_comm)
theorem FoZ.small {T : FTy} {F m : Nat} {cs : List (List Nat)} {Z : List Ent} (h : FoZ T F m cs Z) : (nowC cs).length ≤ m ∧ cs.length ≤ m + 1 ∧ 0 < cs.length ∧ (metF (nowC cs)).length = leads (nowC cs) ∧ leads (nowC cs) ≤ m := by
  obtain ⟨vW, vU, vT, cW, cU, W, ul, tn, Lb, rfl, i⟩ := h
  obtain ⟨nd, cl, cs0, rfl, rfl, h2, h3, h4, h5, h6⟩ := i.now
  have := i.lt
  exact ⟨h4, by omega, by simp, count_is h2, h6⟩
def StP (T : FTy) (F m : Nat) (K : Vu) (cs : List (List Nat)) (x : RFo) (Z : List Ent) : Prop := ∃ Zf Zv, Z = Zf ++ Zv ∧ FoZ T F m cs Zf ∧ FoV (Kz K Zv) x ∧ x.cs = cs
def StF (T : FTy) (F m : Nat) (cs : List (List Nat)) (Z : List Ent) : Prop := ∃ Zf Zv, Z = Zf ++ Zv ∧ FoZ T F m cs Zf
theorem do_1 {cs as : List (List Nat)} {o : OpR} (h : o.kind = 1) : doB cs as o = ((unionC cs o.i o.j).2 == (unionC as o.i o.j).2) ∧ stepC cs o = (unionC cs o.i o.j).1 ∧ stepC as o = (unionC as o.i o.j).1 := by simp [doB, stepC, h]
theorem do_2 {cs as : List (List Nat)} {o : OpR} (h1 : ¬ o.kind = 1) (h : o.kind = 2) : doB cs as o = ((undoC cs o.i).2 == (undoC as o.i).2) ∧ stepC cs o = (undoC cs o.i).1 ∧ stepC as o = (undoC as o.i).1 := by simp [doB, stepC, h]
theorem do_3 {cs as : List (List Nat)} {o : OpR} (h1 : ¬ o.kind = 1) (h : ¬ o.kind = 2) : doB cs as o = decide (((nowC cs).length : Int) = (nowC as).length) ∧ stepC cs o = addC cs ∧ stepC as o = addC as := by simp [doB, stepC, h, h1]
end Go.Proofs.Ytphknfjaellkjaa.E
namespace Go.Proofs.Ytphknfjaellkjaa.M
open Go
set_option linter.unusedVariables false
set_option linter.unusedSimpArgs false
def fdTo (cl : List Nat) (k : Nat) : List Int := (List.range k).map fun (q : Nat) => findR cl (q : Int)
theorem fd_next {cl : List Nat} {k : Int} (h : 0 ≤ k) : fdTo cl (k + 1).toNat = fdTo cl k.toNat ++ [findR cl k] := by
  rw [fdTo, show (k + 1).toNat = k.toNat + 1 by omega, List.range_succ, List.map_append, List.map_singleton, Int.toNat_of_nonneg h]; rfl
theorem fd_at {cl : List Nat} {n : Nat} {k : Int} (h : 0 ≤ k ∧ k < n) : findR cl k = (fdTo cl n).getD k.toNat 0 := by
  unfold fdTo
  rw [List.getD_eq_getElem?_getD, List.getElem?_map, List.getElem?_range (by omega), Option.map_some, Option.getD_some, Int.toNat_of_nonneg h.1]
theorem step_pre {cs ds pre : List (List Nat)} {o : OpR} (h : ds = pre ++ cs) (hc : 0 < cs.length) (ho : ¬ o.kind = 2 ∨ (cs.length : Int) - 1 ≤ o.i) : ∃ pre', stepC ds o = pre' ++ cs := by
  subst h
  unfold stepC
  split
  · unfold unionC
    split
    · exact ⟨pre, rfl⟩
    · exact ⟨_ :: pre, rfl⟩
  · split
    · rename_i h2
      unfold undoC
      split
      · exact ⟨pre, rfl⟩
      · rename_i h3
        have h4 : (cs.length : Int) - 1 ≤ o.i := ho.elim (fun q => absurd h2 q) id
        have h5 : (pre ++ cs).length = pre.length + cs.length := List.length_append
        refine ⟨pre.drop ((pre ++ cs).length - 1 - (max 0 o.i).toNat), ?_⟩
        show (pre ++ cs).drop _ = _
        rw [List.drop_append_of_le_length (by omega)]
    · exact ⟨_ :: pre, rfl⟩
theorem undo_pre {cs ds pre : List (List Nat)} (h : ds = pre ++ cs) (hc : 0 < cs.length) : undoC ds ((cs.length : Int) - 1) = (cs, true) := by
  subst h
  have h5 : (pre ++ cs).length = pre.length + cs.length := List.length_append
  unfold undoC
  rw [if_neg (by omega), show (pre ++ cs).length - 1 - (max 0 ((cs.length : Int) - 1)).toNat = pre.length by omega, List.drop_left]
end Go.Proofs.Ytphknfjaellkjaa.M
