/-
  Assignments with their headers: how they are read, compared and opened.
-/
import Derived.Test.YtkdbiooamgnfmaaGreatDoorAsn
import Derived.Test.YtkdbiooamgnfmaaGreatDoorMk
import Derived.Test.YtkdbiooamgnfmaaGreatDoorScp
namespace Go.Proofs.YtkdbiooamgnfmaaGreatDoor.E
open Go Go.RowKit Go.Proofs.YtkdbiooamgnfmaaGreatDoor.M
set_option linter.unusedVariables false
set_option linter.unusedSimpArgs false
def Sorted (l : List ValR) : Prop := l.Pairwise fun a b => lessT a.name b.name = true
/-! ### Whole assignments -/
def shOf (s : Sc) (v : VarR) : Sh := s.lats.getD v.lat.toNat ⟨false, []⟩
section
variable {s : Sc} {a b c : As} (ha : rightA s a = true) (hb : rightA s b = true)
include ha hb
end
/-! ### Texts -/
def joinF (b : Tx) : List Tx → Tx
  | [] => tx0
  | x :: l => l.foldl (fun a y => a ++ b ++ y) x
def fieldT (s : Sh) (v : ValR) : Tx := v.name ++ tc 61 ++ spellF s v.el
def rowT (s : Sh) (l : List ValR) : Tx := tc 91 ++ joinF (tc 44) (l.map (fieldT s)) ++ tc 93
def varT (s : Sc) (v : VarR) (e : El) (l : List ValR) : Tx := v.name ++ tc 61 ++ (if v.kind = 1 then spellF (shOf s v) e else rowT (shOf s v) l)
def varsT (s : Sc) (a : As) (k : Int) : List Tx := (upto k).map fun i => varT s (s.vars.getD i.toNat var0) (a.labels.getD i.toNat el0) (a.rows.getD i.toNat [])
def textA (s : Sc) (a : As) : Tx := if rightA s a then joinF (tc 32) (varsT s a s.vars.length) else tx0
def comS (l : List By) : By := l.flatMap fun y => 32 :: y
def PT (s : Sc) (p : VarR × El × List ValR) : By := bl (varT s p.1 p.2.1 p.2.2)
def trip (s : Sc) (a : As) : List (VarR × El × List ValR) := (upto s.vars.length).map fun i => (s.vars.getD i.toNat var0, a.labels.getD i.toNat el0, a.rows.getD i.toNat [])
end Go.Proofs.YtkdbiooamgnfmaaGreatDoor.E
namespace Go.Proofs.YtkdbiooamgnfmaaGreatDoor.E
open Go Go.RowKit Go.Proofs.YtkdbiooamgnfmaaGreatDoor.M
set_option linter.unusedVariables false
set_option linter.unusedSimpArgs false
theorem val_el (v : ValR) : ∀ (j : Nat) (c : Value), (elL v.el)[j]? = some c → (valL v)[1 + j]? = some c := fun j c h => by
  rw [Nat.add_comm, valL, List.getElem?_cons_succ]; exact h
theorem elL_one (e : El) : ∀ u ∈ elL e, u.oneCell' = true := fun u hu => elC_one e u (by rw [elC_def]; simpa using hu)
theorem valL_one (v : ValR) : ∀ u ∈ (valL v).toArray, u.oneCell' = true := fun u hu => by
  rw [List.mem_toArray, valL] at hu
  rcases List.mem_cons.1 hu with rfl | hu
  · rfl
  · exact elL_one _ u hu
theorem vals_one (l : List ValR) : ∀ u ∈ l.flatMap valL, u.oneCell' = true := fun u hu => by
  rw [List.mem_flatMap] at hu
  obtain ⟨v, -, hu⟩ := hu
  exact valL_one v u (by simpa using hu)
theorem els_one (l : List El) : ∀ u ∈ l.flatMap elL, u.oneCell' = true := fun u hu => by
  rw [List.mem_flatMap] at hu
  obtain ⟨v, -, hu⟩ := hu
  exact elL_one v u hu
structure VrR where
  v : Value
  l : List ValR
def vr0 : VrR := ⟨.slice none 0 0, []⟩
abbrev rowsC (l : List VrR) : List Value := l.map VrR.v
theorem rowsC_at {l : List VrR} {k : Int} (h : 0 ≤ k ∧ k < l.length) : (rowsC l)[k.toNat * 1]? = some (l.getD k.toNat vr0).v := by
  rw [Nat.mul_one, List.getElem?_map, getD_at (d := vr0) h.1 h.2]; rfl
structure RowsV (K : Vu) (l : List VrR) : Prop where
  each : ∀ r ∈ l, SlV K r.v 9 r.l.length (r.l.flatMap valL)
theorem RowsV.mono {K K' : Vu} {l : List VrR} (h : RowsV K l) (hl : Le K K') : RowsV K' l := ⟨fun r hr => (h.each r hr).mono hl⟩
theorem RowsV.at {K : Vu} {l : List VrR} (h : RowsV K l) {k : Int} (h0 : 0 ≤ k) (h1 : k < l.length) : SlV K (l.getD k.toNat vr0).v 9 (l.getD k.toNat vr0).l.length ((l.getD k.toNat vr0).l.flatMap valL) := h.each _ (List.mem_of_getElem? (getD_at (d := vr0) h0 h1))
theorem RowsV.nil (K : Vu) : RowsV K [] := ⟨fun r hr => by simp at hr⟩
theorem RowsV.snoc {K : Vu} {l : List VrR} {r : VrR} (h : RowsV K l) (hr : SlV K r.v 9 r.l.length (r.l.flatMap valL)) : RowsV K (l ++ [r]) := ⟨fun x hx => by
  rcases List.mem_append.1 hx with hx | hx
  · exact h.each x hx
  · rw [List.mem_singleton.1 hx]; exact hr⟩
structure Asg where
  lv : Value
  labels : List El
  rv : Value
  rows : List VrR
def asgL (a : Asg) : List Value := [a.lv, a.rv]
def asg0 : Asg := ⟨.slice none 0 0, [], .slice none 0 0, []⟩
def Asg.as (a : Asg) : As := ⟨a.labels, a.rows.map VrR.l⟩
structure AsgV (K : Vu) (a : Asg) : Prop where
  labels : SlV K a.lv 8 a.labels.length (a.labels.flatMap elL)
  rows : SlV K a.rv 1 a.rows.length (rowsC a.rows)
  each : RowsV K a.rows
theorem AsgV.mono {K K' : Vu} {a : Asg} (h : AsgV K a) (hl : Le K K') : AsgV K' a := ⟨h.labels.mono hl, h.rows.mono hl, h.each.mono hl⟩
theorem AsgV.at {K : Vu} {a : Asg} (h : AsgV K a) {k : Int} (h0 : 0 ≤ k) (h1 : k < a.rows.length) : SlV K (a.rows.getD k.toNat vr0).v 9 (a.rows.getD k.toNat vr0).l.length ((a.rows.getD k.toNat vr0).l.flatMap valL) := h.each.at h0 h1
theorem asgL_one {K : Vu} {a : Asg} (h : AsgV K a) : ∀ u ∈ (asgL a).toArray, u.oneCell' = true := by
  intro u hu
  simp [asgL] at hu
  rcases hu with rfl | rfl
  · exact (one_slice h.labels).1
  · exact (one_slice h.rows).1
structure Asg3 where
  a : Asg
  b : Asg
  c : Asg
def as3L (x : Asg3) : List Value := [x.a.lv, x.a.rv, x.b.lv, x.b.rv, x.c.lv, x.c.rv]
def as30 : Asg3 := ⟨asg0, asg0, asg0⟩
structure Asg3V (K : Vu) (x : Asg3) : Prop where
  a : AsgV K x.a
  b : AsgV K x.b
  c : AsgV K x.c
theorem Asg3V.mono {K K' : Vu} {x : Asg3} (h : Asg3V K x) (hl : Le K K') : Asg3V K' x := ⟨h.a.mono hl, h.b.mono hl, h.c.mono hl⟩
theorem as_rows_len (a : Asg) : a.as.rows.length = a.rows.length := List.length_map ..
theorem as_row (a : Asg) (k : Nat) : a.as.rows.getD k [] = (a.rows.getD k vr0).l := by
  show (a.rows.map VrR.l).getD k [] = _
  rw [List.getD_eq_getElem?_getD, List.getD_eq_getElem?_getD, List.getElem?_map]
  cases a.rows[k]? <;> rfl
def Scp.sc (s : Scp) : Sc := ⟨s.lats.map fun l => l.shp.sh, s.vars⟩
theorem sc_len (s : Scp) : s.sc.lats.length = s.lats.length := List.length_map ..
theorem sc_lat (s : Scp) (k : Nat) : s.sc.lats.getD k ⟨false, []⟩ = (s.lats.getD k lat0).shp.sh := by
  show (s.lats.map fun l => l.shp.sh).getD k ⟨false, []⟩ = _
  rw [List.getD_eq_getElem?_getD, List.getD_eq_getElem?_getD, List.getElem?_map]
  cases s.lats[k]? <;> rfl
section
variable {P : Program} {σ : Env} {w : World} {dst : Option Tmp} {ty t u e : TypeId} {pos : String} {aft : Array Edge} {g : Option (Nat × Bool)} {x y : Operand} {b : Nat} {fr : Nat × Nat}
theorem run_ldVE {d : TypeDesc} {v : Value} {l : List ValR} {k : Int} (hS : Sl w v 9 l.length (l.flatMap valL)) (hu : P.underlying t = some d) (hd : d.isRow = true) (hi : (P.info? t).map (·.size) = some 8)
    (hx : ev σ x = .pointer (some ⟨sb v, so v + k.toNat * 9 + 1, none⟩)) (hk : 0 ≤ k ∧ k < l.length) : (execOp (ev σ) ⟨dst, .load t x, ty, pos, aft, g⟩).run P w = .ok (.value (.agg (elC (l.getD k.toNat val0).el))) w := by
  rw [elC_def]; exact run_ldEA valL_len hS hu hd (by rw [elL_len]; exact hi) hx hk (val_el _)
theorem run_ldVB {d : TypeDesc} {v : ValR} (hu : P.underlying t = some d) (hd : d.isRow = true) (hi : (P.info? t).map (·.size) = some 8) (hx : ev σ x = .pointer (some ⟨b, 0 + 1, none⟩)) (hg : w.heap[b]? = some (.cells (valL v).toArray e fr)) :
    (execOp (ev σ) ⟨dst, .load t x, ty, pos, aft, g⟩).run P w = .ok (.value (.agg (elC v.el))) w := by
  rw [elC_def]
  refine run_ldA hu hd (by rw [elL_len]; exact hi) hx fun j c hj => ?_
  rw [cell_of_row w _ _ _ _ _ hg]
  have := val_el v j c hj
  simpa using this
end
theorem fldEl {P : Program} {d : Nat} {xs ys : Array Value} {f : Field} {a b : El} {e : TypeId} (hn : f.name ≠ "_") (T : ElT P f.type e) (ha : ∀ w, (isAgg f.type).run P w = .ok true w) (hs : ∀ w, (sizeOf f.type).run P w = .ok 8 w)
    (hx : xs.extract f.offset (f.offset + 8) = elC a) (hy : ys.extract f.offset (f.offset + 8) = elC b) : FldE P (d + 1 + 1) xs ys f (decide (eqE a b)) :=
  ⟨hn, .agg (elC a), .agg (elC b), fun w => by simp [part, ha, hs, hx], fun w => by simp [part, ha, hs, hy], fun w => by
    rw [elC_def, elC_def]; exact eqArr d a b T.u T.ue T.se T.ae⟩
theorem val_ext (v : ValR) : (valL v).toArray.extract 1 (1 + 8) = elC v.el := by
  rw [elC_def]; exact Array.ext' (by simp [valL, elL]; exact List.take_of_length_le (by simp))
end Go.Proofs.YtkdbiooamgnfmaaGreatDoor.E
