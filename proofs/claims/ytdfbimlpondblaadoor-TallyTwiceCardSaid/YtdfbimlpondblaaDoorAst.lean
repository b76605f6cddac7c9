/-
  Assignments: what the walks lean on.
-/
import Derived.Test.YtdfbimlpondblaaDoorAsr
namespace Go.Proofs.YtdfbimlpondblaaDoor.E
open Go Go.RowKit Go.Proofs.YtdfbimlpondblaaDoor.M
set_option linter.unusedVariables false
set_option linter.unusedSimpArgs false
/-! ### Looked up -/
def latAt (l : List LatR) (i : Int) : LatR := if 0 ≤ i ∧ i < l.length then l.getD i.toNat lat0 else lat0
theorem RowsV.or {K : Vu} {l : List VrR} (h : RowsV K l) (k : Nat) : SlV K (l.getD k vr0).v 9 (l.getD k vr0).l.length ((l.getD k vr0).l.flatMap valL) := by
  by_cases hk : k < l.length
  · have := h.at (k := (k : Int)) (by omega) (by omega)
    simpa using this
  · rw [List.getD_eq_getElem?_getD, List.getElem?_eq_none (by omega)]; exact SlV.nil _ _
section
variable {s : Scp} {v : VarR} {e : El} {l : List ValR} {a : Asg} {k : Int}
abbrev shG (s : Scp) (v : VarR) : Sh := (s.lats.getD v.lat.toNat lat0).shp.sh
abbrev okG (s : Scp) (a : Asg) (k : Int) : Bool := okV s.sc (s.vars.getD k.toNat var0) (a.labels.getD k.toNat el0) (a.rows.getD k.toNat vr0).l
end
section
variable {a b : Asg} {k j : Int}
end
/-! ### Big ones -/
def rsum (l : List VrR) : Nat := (l.map fun r => r.l.length).sum
def bigNm (v : ValR) : Bool := decide (40 < v.name.size)
def bigR (r : VrR) : Bool := r.l.any bigNm
def bigA (a : Asg) : Bool := decide (100 < a.labels.length ∨ 100 < a.rows.length) || a.rows.any bigR || decide (200 < (rsum a.rows : Int))
/-! ### Joined texts -/
def joinTo (b : Tx) (l : List Tx) (k : Int) : Tx := joinF b (l.take k.toNat)
def szJ (b : Tx) (l : List Tx) : Nat := (l.map fun x => x.size + b.size).sum
section
variable {s : Scp} {a : Asg} {k : Int}
end
section
variable {P m : Tx} {sh : Sh} {l : List ValR} {q : Int}
end
abbrev VS (s : Scp) (a : Asg) : List Tx := varsT s.sc a.as s.vars.length
section
variable {s : Scp} {a : Asg} {k : Int}
end
/-! ### Rows -/
abbrev tupE (p : El × Bool) : Value := .tuple #[.agg (elC p.1), B p.2]
section
variable {P : Program} {σ : Env} {w : World} {dst : Option Tmp} {ty t e : TypeId} {pos : String} {aft : Array Edge} {g : Option (Nat × Bool)} {x : Operand}
theorem run_mkEl1 {a : El} {ie : TypeInfo} {z : Value} (hu : P.underlying t = some (.slice e)) (hie : P.info? e = some ie) (hz : ie.zero = some z) (hsz : ie.size = 8) (hx : ev σ x = .agg (elC a)) :
    (execOp (ev σ) ⟨dst, .buildSlice t 1 #[(0, x)], ty, pos, aft, g⟩).run P w = .ok (.value (.slice (some ⟨w.heap.size, 0, none⟩) 1 1)) (w.alloc (.cells ([a].flatMap elL).toArray e)) :=
  run_mkRecs (ps := [(0, x)]) (l := [a]) elL_len hu hie hz hsz rfl (by decide) (by decide) (by rw [elC_def] at hx; simp [hx])
theorem run_mkSl1 {v : Value} {ie : TypeInfo} {z : Value} (h1 : v.cells = #[v]) (hu : P.underlying t = some (.slice e)) (hie : P.info? e = some ie) (hz : ie.zero = some z) (hsz : ie.size = 1) (hx : ev σ x = v) :
    (execOp (ev σ) ⟨dst, .buildSlice t 1 #[(0, x)], ty, pos, aft, g⟩).run P w = .ok (.value (.slice (some ⟨w.heap.size, 0, none⟩) 1 1)) (w.alloc (.cells ([v] : List Value).toArray e)) := by
  have := run_mkL (P := P) (σ := σ) (w := w) (dst := dst) (ty := ty) (pos := pos) (aft := aft) (g := g) (ps := [(0, x)]) (vs := [v]) (sz := 1) hu hie hz hsz rfl (by simp) (by simp) (by simp [hx]) (by simp [h1])
  simpa [h1] using this
end
/-! ### Made ones -/
section
variable {a b : Asg} {ls : List El} {gr : List VrR} {v0 v1 : Value} {k j : Int}
end
section
variable {s : Scp} {ls : List El} {v0 v1 : Value} {k : Int}
end
/-! ### Rows that are made at once -/
theorem flat_take {α : Type} {cl : α → List Value} {sz : Nat} (hcl : ∀ a, (cl a).length = sz) (l : List α) (k : Nat) : (l.flatMap cl).take (k * sz) = (l.take k).flatMap cl := by
  by_cases h : k ≤ l.length
  · conv => lhs; rw [← List.take_append_drop k l, List.flatMap_append]
    exact List.take_left' (by rw [flat_length hcl, List.length_take, Nat.min_eq_left h])
  · rw [List.take_of_length_le (by rw [flat_length hcl]; exact Nat.mul_le_mul_right _ (by omega)), List.take_of_length_le (by omega)]
theorem flat_drop {α : Type} {cl : α → List Value} {sz : Nat} (hcl : ∀ a, (cl a).length = sz) (l : List α) (k : Nat) (h : k ≤ l.length) : (l.flatMap cl).drop (k * sz) = (l.drop k).flatMap cl := by
  conv => lhs; rw [← List.take_append_drop k l, List.flatMap_append]
  exact List.drop_left' (by rw [flat_length hcl, List.length_take, Nat.min_eq_left h])
def lsK (s : Scp) (k : Int) : List El := (s.vars.take k.toNat).map (botV s.sc) ++ List.replicate (s.vars.length - k.toNat) el0
section
variable {s : Scp} {k : Int}
end
/-! ### A row with a field -/
section
variable {l : List ValR} {f : Tx} {e : El} {k : Int}
end
/-! ### The example -/
def exLH : List Tx := [⟨#[108, 111]⟩, ⟨#[104, 105]⟩]
def exSl : Sh := ⟨false, [⟨1, exLH, Rl.none⟩]⟩
def exS : Sc := ⟨[exSl], [⟨⟨#[120]⟩, 1, 0⟩, ⟨⟨#[114]⟩, 2, 0⟩]⟩
def exA : As := ⟨[putE el0 0 1#64, el0], [[], [⟨⟨#[102]⟩, el0⟩]]⟩
section
variable {P : Program} {σ : Env} {w : World} {dst : Option Tmp} {ty t e : TypeId} {pos : String} {aft : Array Edge} {g : Option (Nat × Bool)} {x y : Operand}
end
end Go.Proofs.YtdfbimlpondblaaDoor.E
