/-
  Trees, words and commands: their records, and how they are opened.
-/
import Derived.Test.YtkdbiooamgnfmaaGreatDoorScp
import Derived.Test.YtkdbiooamgnfmaaGreatDoorSho
namespace Go.Proofs.YtkdbiooamgnfmaaGreatDoor.E
open Go Go.RowKit Go.ChangeShapes Go.WideShapes Go.ChangeAt Go.Deep Go.Proofs.YtkdbiooamgnfmaaGreatDoor.M
set_option linter.unusedVariables false
structure VarTT (P : Program) (t tx ti : TypeId) : Prop where
  u : ∃ f0 f1 f2 : Field, P.underlying t = some (.struct #[f0, f1, f2]) ∧ (f0.type = tx ∧ f0.offset = 0) ∧ (f1.type = ti ∧ f1.offset = 1) ∧ (f2.type = ti ∧ f2.offset = 2)
  x : P.underlying tx = some .string
  cx : P.cellsOf tx = 1
  i : P.underlying ti = some (.int .i64)
  ci : P.cellsOf ti = 1
  z : P.cellsOf t = 3
structure FltTT (P : Program) (t ti : TypeId) : Prop where
  u : ∃ f0 f1 : Field, P.underlying t = some (.struct #[f0, f1]) ∧ (f0.type = ti ∧ f0.offset = 0) ∧ (f1.type = ti ∧ f1.offset = 1)
  i : P.underlying ti = some (.int .i64)
  ci : P.cellsOf ti = 1
  z : P.cellsOf t = 2
structure LatTT (P : Program) (t tsh tb tfs tf tk ts tx tr ti ta te : TypeId) : Prop where
  s : ShpTT P tsh tb tfs tf tk ts tx tr ti ta te
  u : ∃ f0 f1 : Field, P.underlying t = some (.struct #[f0, f1]) ∧ (f0.type = tx ∧ f0.offset = 0) ∧ (f1.type = tsh ∧ f1.offset = 1)
  z : P.cellsOf t = 3
structure ScpTT (P : Program) (t tls tvs tv tl tsh tb tfs tf tk ts tx tr ti ta te : TypeId) : Prop where
  l : LatTT P tl tsh tb tfs tf tk ts tx tr ti ta te
  v : VarTT P tv tx ti
  u : ∃ f0 f1 : Field, P.underlying t = some (.struct #[f0, f1]) ∧ (f0.type = tls ∧ f0.offset = 0) ∧ (f1.type = tvs ∧ f1.offset = 1)
  ls : P.underlying tls = some (.slice tl)
  vs : P.underlying tvs = some (.slice tv)
  cls : P.cellsOf tls = 1
  cvs : P.cellsOf tvs = 1
  z : P.cellsOf t = 2
section
variable {H : Type} {enc : TypeId × Value → H} {P : Program} {w : World} {base : Nat} {sp : Nat → Bool} {held : Bool} {fuel : Nat} {cs : List Value} {x : DataW H × List MemPlace} {t tls tvs tv tl tsh tb tfs tf tk ts tx tr ti ta te : TypeId}
theorem trod_var (T : VarTT P t tx ti) (h : DataW.trod enc P w base sp held fuel t cs = some x) : ∃ v : VarR, cs = varL v ∧ True := by
  obtain ⟨f0, f1, f2, ht, h0, h1, h2⟩ := T.u
  obtain ⟨y0, y1, y2, n, -, hl, h3, h4, h5⟩ := trod_struct3 ht h
  rw [h0.1, h0.2, T.cx] at h3
  rw [h1.1, h1.2, T.ci] at h4
  rw [h2.1, h2.2, T.ci] at h5
  obtain ⟨a, e3, -⟩ := DataW.trod_string T.x h3
  obtain ⟨b, e4, -⟩ := DataW.trod_int T.i h4
  obtain ⟨c, e5, -⟩ := DataW.trod_int T.i h5
  rw [T.z] at hl
  match cs, hl with
  | [u, v, z], _ =>
    simp at e3 e4 e5
    exact ⟨⟨a, b, c⟩, by rw [e3, e4, e5]; rfl, trivial⟩
theorem trod_lat (T : LatTT P t tsh tb tfs tf tk ts tx tr ti ta te) (h : DataW.trod enc P w base sp held fuel t cs = some x) : ∃ l : LatR, cs = latL l ∧ ShpV (Kw w) l.shp := by
  obtain ⟨f0, f1, ht, h0, h1⟩ := T.u
  obtain ⟨y0, y1, n, -, hl, h3, h4⟩ := trod_struct2 ht h
  rw [h0.1, h0.2, T.s.f.cx] at h3
  rw [h1.1, h1.2, T.s.z] at h4
  obtain ⟨a, e3, -⟩ := DataW.trod_string T.s.f.x h3
  obtain ⟨s, e4, hs⟩ := trod_shp T.s h4
  rw [T.z] at hl
  refine ⟨⟨a, s⟩, ?_, hs⟩
  match cs, hl with
  | [u, v, z], _ =>
    simp at e3 e4
    rw [e3, e4.1, e4.2]; rfl
theorem trod_scp (T : ScpTT P t tls tvs tv tl tsh tb tfs tf tk ts tx tr ti ta te) (h : DataW.trod enc P w base sp held fuel t cs = some x) : ∃ s : Scp, cs = [s.lv, s.vv] ∧ ScpV (Kw w) s := by
  obtain ⟨f0, f1, ht, h0, h1⟩ := T.u
  obtain ⟨y0, y1, n, -, hl, h3, h4⟩ := trod_struct2 ht h
  rw [h0.1, h0.2, T.cls] at h3
  rw [h1.1, h1.2, T.cvs] at h4
  obtain ⟨v, l, e3, hs, hok, -⟩ := open_cells (sz := 3) latL (fun l => ShpV (Kw w) l.shp) latL_len (by omega) T.ls T.l.z (fun _ _ _ hx => trod_lat T.l hx) h3
  obtain ⟨v2, l2, e4, hs2, -, -⟩ := open_cells (sz := 3) varL (fun _ => True) varL_len (by omega) T.vs T.v.z (fun _ _ _ hx => trod_var T.v hx) h4
  rw [T.z] at hl
  refine ⟨⟨v, l, v2, l2⟩, ?_, ⟨hs.slv, hs2.slv, hok⟩⟩
  match cs, hl with
  | [a, b], _ =>
    simp at e3 e4
    rw [e3, e4]
end
end Go.Proofs.YtkdbiooamgnfmaaGreatDoor.E
namespace Go.Proofs.YtkdbiooamgnfmaaGreatDoor.E
open Go Go.RowKit Go.ChangeShapes Go.WideShapes Go.ChangeAt Go.Deep Go.Proofs.YtkdbiooamgnfmaaGreatDoor.M
set_option linter.unusedVariables false
structure WdTT (P : Program) (t tx ti : TypeId) : Prop where
  u : ∃ f0 f1 : Field, P.underlying t = some (.struct #[f0, f1]) ∧ (f0.type = tx ∧ f0.offset = 0) ∧ (f1.type = ti ∧ f1.offset = 1)
  x : P.underlying tx = some .string
  cx : P.cellsOf tx = 1
  i : P.underlying ti = some (.int .i64)
  ci : P.cellsOf ti = 1
  z : P.cellsOf t = 2
structure NodeTT (P : Program) (t tws tns tw tx ti : TypeId) : Prop where
  w : WdTT P tw tx ti
  u : ∃ f0 f1 f2 f3 f4 : Field, P.underlying t = some (.struct #[f0, f1, f2, f3, f4]) ∧ (f0.type = ti ∧ f0.offset = 0) ∧ (f1.type = ti ∧ f1.offset = 1) ∧ (f2.type = tx ∧ f2.offset = 2) ∧ (f3.type = tws ∧ f3.offset = 3) ∧ (f4.type = tns ∧ f4.offset = 4)
  ws : P.underlying tws = some (.slice tw)
  ns : P.underlying tns = some (.slice t)
  cws : P.cellsOf tws = 1
  cns : P.cellsOf tns = 1
  z : P.cellsOf t = 5
section
variable {H : Type} {enc : TypeId × Value → H} {P : Program} {w : World} {base : Nat} {sp : Nat → Bool} {held : Bool} {fuel : Nat} {cs : List Value} {x : DataW H × List MemPlace} {t tws tns tw tx ti : TypeId}
end
end Go.Proofs.YtkdbiooamgnfmaaGreatDoor.E
