/-
  Row terms, assertions and problems, as arguments, are opened.
-/
import Derived.Test.YtkdbiooamgnfmaaGreatDoorTre
import Derived.Test.YtkdbiooamgnfmaaGreatDoorIns
namespace Go.Proofs.YtkdbiooamgnfmaaGreatDoor.E
open Go Go.RowKit Go.ChangeShapes Go.WideShapes Go.ChangeAt Go.Deep Go.Proofs.YtkdbiooamgnfmaaGreatDoor.M
set_option linter.unusedVariables false
set_option linter.unusedSimpArgs false
structure AtomTT (P : Program) (t ti te tu : TypeId) : Prop where
  u : ∃ f0 f1 : Field, P.underlying t = some (.struct #[f0, f1]) ∧ (f0.type = ti ∧ f0.offset = 0) ∧ (f1.type = te ∧ f1.offset = 1)
  i : P.underlying ti = some (.int .i64)
  ci : P.cellsOf ti = 1
  e : P.underlying te = some (.array 8 tu)
  hu : P.underlying tu = some (.int .u64)
  cu : P.cellsOf tu = 1
  ce : P.cellsOf te = 8
  z : P.cellsOf t = 9
structure FieldTT (P : Program) (t ta tx ti te tu : TypeId) : Prop where
  a : AtomTT P ta ti te tu
  u : ∃ f0 f1 : Field, P.underlying t = some (.struct #[f0, f1]) ∧ (f0.type = tx ∧ f0.offset = 0) ∧ (f1.type = ta ∧ f1.offset = 1)
  x : P.underlying tx = some .string
  cx : P.cellsOf tx = 1
  z : P.cellsOf t = 10
structure RowTT (P : Program) (t tfs tf ta tx ti te tu : TypeId) : Prop where
  f : FieldTT P tf ta tx ti te tu
  u : ∃ f0 f1 : Field, P.underlying t = some (.struct #[f0, f1]) ∧ (f0.type = tfs ∧ f0.offset = 0) ∧ (f1.type = ti ∧ f1.offset = 1)
  fs : P.underlying tfs = some (.slice tf)
  cfs : P.cellsOf tfs = 1
  z : P.cellsOf t = 2
structure InsTT (P : Program) (t ti te tu : TypeId) : Prop where
  u : ∃ f0 f1 f2 : Field, P.underlying t = some (.struct #[f0, f1, f2]) ∧ (f0.type = ti ∧ f0.offset = 0) ∧ (f1.type = ti ∧ f1.offset = 1) ∧ (f2.type = te ∧ f2.offset = 2)
  z : P.cellsOf t = 10
structure AssTT (P : Program) (t tcs tn tr tfs tf ta tx ti te tu : TypeId) : Prop where
  r : RowTT P tr tfs tf ta tx ti te tu
  n : InsTT P tn ti te tu
  u : ∃ f0 f1 f2 f3 f4 f5 f6 f7 : Field, P.underlying t = some (.struct #[f0, f1, f2, f3, f4, f5, f6, f7]) ∧ (f0.type = ti ∧ f0.offset = 0) ∧ (f1.type = ti ∧ f1.offset = 1) ∧ (f2.type = tcs ∧ f2.offset = 2) ∧ (f3.type = ta ∧ f3.offset = 3) ∧ (f4.type = tr ∧ f4.offset = 12) ∧ (f5.type = tr ∧ f5.offset = 14) ∧ (f6.type = ti ∧ f6.offset = 16) ∧ (f7.type = tx ∧ f7.offset = 17)
  cs : P.underlying tcs = some (.slice tn)
  ccs : P.cellsOf tcs = 1
  z : P.cellsOf t = 18
structure PrbTT (P : Program) (t tas tss tss1 tss2 tss3 tss4 tss5 tss6 tss7 tss8 tss9 tss10 tss11 tss12 tss13 tss14 tas1 tcs tn tr tfs tf ta tx ti te tu : TypeId) : Prop where
  a : AssTT P tas1 tcs tn tr tfs tf ta tx ti te tu
  s : ScpTT P tss tss1 tss2 tss3 tss4 tss5 tss6 tss7 tss8 tss9 tss10 tss11 tss12 tss13 tss14 tu
  u : ∃ f0 f1 : Field, P.underlying t = some (.struct #[f0, f1]) ∧ (f0.type = tss ∧ f0.offset = 0) ∧ (f1.type = tas ∧ f1.offset = 2)
  as : P.underlying tas = some (.slice tas1)
  cas : P.cellsOf tas = 1
  z : P.cellsOf t = 3
section
variable {H : Type} {enc : TypeId × Value → H} {P : Program} {w : World} {base : Nat} {sp : Nat → Bool} {held : Bool} {fuel : Nat} {cs : List Value} {x : DataW H × List MemPlace} {t tas tas1 tcs tn tr tfs tf ta tx ti te tu tss tss1 tss2 tss3 tss4 tss5 tss6 tss7 tss8 tss9 tss10 tss11 tss12 tss13 tss14 : TypeId}
theorem trod_atom (T : AtomTT P t ti te tu) (h : DataW.trod enc P w base sp held fuel t cs = some x) : ∃ a : AtomR, cs = atomL a ∧ True := by
  obtain ⟨f0, f1, ht, h0, h1⟩ := T.u
  obtain ⟨y0, y1, n, -, hl, h3, h4⟩ := trod_struct2 ht h
  rw [h0.1, h0.2, T.ci] at h3
  rw [h1.1, h1.2, T.ce] at h4
  obtain ⟨b, e3, -⟩ := DataW.trod_int T.i h3
  obtain ⟨c, e4, -⟩ := trod_el T.e T.hu T.cu T.ce h4
  rw [T.z] at hl
  match cs, hl with
  | u :: cs, hl =>
    simp at e3 hl
    refine ⟨⟨b, c⟩, ?_, trivial⟩
    rw [List.drop_succ_cons, List.drop_zero, List.take_of_length_le (by omega)] at e4
    rw [e3, e4]; rfl
theorem trod_field (T : FieldTT P t ta tx ti te tu) (h : DataW.trod enc P w base sp held fuel t cs = some x) : ∃ a : FieldR, cs = fieldL a ∧ True := by
  obtain ⟨f0, f1, ht, h0, h1⟩ := T.u
  obtain ⟨y0, y1, n, -, hl, h3, h4⟩ := trod_struct2 ht h
  rw [h0.1, h0.2, T.cx] at h3
  rw [h1.1, h1.2, T.a.z] at h4
  obtain ⟨b, e3, -⟩ := DataW.trod_string T.x h3
  obtain ⟨c, e4, -⟩ := trod_atom T.a h4
  rw [T.z] at hl
  match cs, hl with
  | u :: cs, hl =>
    simp at e3 hl
    refine ⟨⟨b, c⟩, ?_, trivial⟩
    rw [List.drop_succ_cons, List.drop_zero, List.take_of_length_le (by omega)] at e4
    rw [e3, e4]; rfl
theorem trod_rowt (T : RowTT P t tfs tf ta tx ti te tu) (h : DataW.trod enc P w base sp held fuel t cs = some x) : ∃ r : RowR, cs = rtmL r ∧ RowV (Kw w) r := by
  obtain ⟨f0, f1, ht, h0, h1⟩ := T.u
  obtain ⟨y0, y1, n, -, hl, h3, h4⟩ := trod_struct2 ht h
  rw [h0.1, h0.2, T.cfs] at h3
  rw [h1.1, h1.2, T.f.a.ci] at h4
  obtain ⟨v, l, e3, hs, -, -⟩ := open_cells (sz := 10) fieldL (fun _ => True) fieldL_len (by omega) T.fs T.f.z (fun _ _ _ hx => trod_field T.f hx) h3
  obtain ⟨b, e4, -⟩ := DataW.trod_int T.f.a.i h4
  rw [T.z] at hl
  refine ⟨⟨v, l, b⟩, ?_, ⟨hs.slv⟩⟩
  match cs, hl with
  | [a, c], _ =>
    simp at e3 e4
    rw [e3, e4]; rfl
theorem trod_ins (A : AtomTT P ta ti te tu) (T : InsTT P t ti te tu) (h : DataW.trod enc P w base sp held fuel t cs = some x) : ∃ a : InsR, cs = insL a ∧ True := by
  obtain ⟨f0, f1, f2, ht, h0, h1, h2⟩ := T.u
  obtain ⟨y0, y1, y2, n, -, hl, h3, h4, h5⟩ := trod_struct3 ht h
  rw [h0.1, h0.2, A.ci] at h3
  rw [h1.1, h1.2, A.ci] at h4
  rw [h2.1, h2.2, A.ce] at h5
  obtain ⟨a, e3, -⟩ := DataW.trod_int A.i h3
  obtain ⟨b, e4, -⟩ := DataW.trod_int A.i h4
  obtain ⟨c, e5, -⟩ := trod_el A.e A.hu A.cu A.ce h5
  rw [T.z] at hl
  match cs, hl with
  | u :: v :: cs, hl =>
    simp at e3 e4 hl
    refine ⟨⟨a, b, c⟩, ?_, trivial⟩
    rw [List.drop_succ_cons, List.drop_succ_cons, List.drop_zero, List.take_of_length_le (by omega)] at e5
    rw [e3, e4, e5]; rfl
theorem trod_ass (T : AssTT P t tcs tn tr tfs tf ta tx ti te tu) (h : DataW.trod enc P w base sp held fuel t cs = some x) : ∃ a : AssR, cs = assL a ∧ AssV (Kw w) a := by
  obtain ⟨f0, f1, f2, f3, f4, f5, f6, f7, ht, h0, h1, h2, h3, h4, h5, h6, h7⟩ := T.u
  obtain ⟨xs, n, hfu, rfl, hl, hlen, hf⟩ := DataW.trod_struct ht h
  have g0 := hf 0 f0 rfl
  have g1 := hf 1 f1 rfl
  have g2 := hf 2 f2 rfl
  have g3 := hf 3 f3 rfl
  have g4 := hf 4 f4 rfl
  have g5 := hf 5 f5 rfl
  have g6 := hf 6 f6 rfl
  have g7 := hf 7 f7 rfl
  match xs, hlen with
  | [y0, y1, y2, y3, y4, y5, y6, y7], _ =>
    simp only [List.getElem?_cons_zero, List.getElem?_cons_succ] at g0 g1 g2 g3 g4 g5 g6 g7
    rw [h0.1, h0.2, T.r.f.a.ci] at g0
    rw [h1.1, h1.2, T.r.f.a.ci] at g1
    rw [h2.1, h2.2, T.ccs] at g2
    rw [h3.1, h3.2, T.r.f.a.z] at g3
    rw [h4.1, h4.2, T.r.z] at g4
    rw [h5.1, h5.2, T.r.z] at g5
    rw [h6.1, h6.2, T.r.f.a.ci] at g6
    rw [h7.1, h7.2, T.r.f.cx] at g7
    obtain ⟨op, e0, -⟩ := DataW.trod_int T.r.f.a.i g0
    obtain ⟨lat, e1, -⟩ := DataW.trod_int T.r.f.a.i g1
    obtain ⟨cv, code, e2, hc, -, -⟩ := open_cells (sz := 10) insL (fun _ => True) insL_len (by omega) T.cs T.n.z (fun _ _ _ hx => trod_ins T.r.f.a T.n hx) g2
    obtain ⟨to, e3, -⟩ := trod_atom T.r.f.a g3
    obtain ⟨a, e4, ha⟩ := trod_rowt T.r g4
    obtain ⟨b, e5, hb⟩ := trod_rowt T.r g5
    obtain ⟨var, e6, -⟩ := DataW.trod_int T.r.f.a.i g6
    obtain ⟨field, e7, -⟩ := DataW.trod_string T.r.f.x g7
    rw [T.z] at hl
    refine ⟨⟨op, lat, cv, code, to, a, b, var, field⟩, ?_, ⟨hc.slv, ha, hb⟩⟩
    match cs, hl with
    | [u0, u1, u2, v0, v1, v2, v3, v4, v5, v6, v7, v8, a0, a1, b0, b1, z0, z1], _ =>
      simp [rtmL] at e0 e1 e2 e3 e4 e5 e6 e7
      rw [e0, e1, e2, e4.1, e4.2, e5.1, e5.2, e6, e7]
      show _ = I op :: I lat :: cv :: (atomL to ++ _)
      rw [← e3]; rfl
theorem trod_prob (T : PrbTT P t tas tss tss1 tss2 tss3 tss4 tss5 tss6 tss7 tss8 tss9 tss10 tss11 tss12 tss13 tss14 tas1 tcs tn tr tfs tf ta tx ti te tu) (h : DataW.trod enc P w base sp held fuel t cs = some x) : ∃ p : ProbR, cs = probL p ∧ ProbV (Kw w) p := by
  obtain ⟨f0, f1, ht, h0, h1⟩ := T.u
  obtain ⟨y0, y1, n, -, hl, h3, h4⟩ := trod_struct2 ht h
  rw [h0.1, h0.2, T.s.z] at h3
  rw [h1.1, h1.2, T.cas] at h4
  obtain ⟨s, e3, hs⟩ := trod_scp T.s h3
  obtain ⟨v, l, e4, ha, hok, -⟩ := open_cells (sz := 18) assL (fun x => AssV (Kw w) x) assL_len (by omega) T.as T.a.z (fun _ _ _ hx => trod_ass T.a hx) h4
  rw [T.z] at hl
  refine ⟨⟨s, v, l⟩, ?_, ⟨hs, ha.slv, hok⟩⟩
  match cs, hl with
  | [a, b, c], _ =>
    simp at e3 e4
    rw [e3.1, e3.2, e4]; rfl
theorem open_prob {r : Reach} {b0 : Nat} {v : Value} {d : DataW H} {ps : List MemPlace} (T : PrbTT P t tas tss tss1 tss2 tss3 tss4 tss5 tss6 tss7 tss8 tss9 tss10 tss11 tss12 tss13 tss14 tas1 tcs tn tr tfs tf ta tx ti te tu) (hval : Value.okWide P w r b0 t v) (hd : DataW.Trod enc P w base sp held t v d ps) : ∃ p : ProbR, v = .agg (probL p).toArray ∧ ProbV (Kw w) p := by
  obtain ⟨f0, f1, ht, -⟩ := T.u
  obtain ⟨cs, rfl, -⟩ := okWide_struct ht hval
  obtain ⟨fuel, h⟩ := hd
  obtain ⟨s, h1, h2⟩ := trod_prob T h
  refine ⟨s, ?_, h2⟩
  congr 1
  exact Array.ext' h1
end
end Go.Proofs.YtkdbiooamgnfmaaGreatDoor.E
