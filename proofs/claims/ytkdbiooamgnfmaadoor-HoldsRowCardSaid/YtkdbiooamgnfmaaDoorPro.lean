/-
  Row terms, assertions and problems, as arguments, are opened.
-/
import Derived.Test.YtkdbiooamgnfmaaDoorTre
import Derived.Test.YtkdbiooamgnfmaaDoorIns
namespace Go.Proofs.YtkdbiooamgnfmaaDoor.E
open Go Go.RowKit Go.ChangeShapes Go.WideShapes Go.ChangeAt Go.Deep Go.Proofs.YtkdbiooamgnfmaaDoor.M
set_option linter.unusedVariables false
set_option linter.unusedSimpArgs false
structure AtomTT (P : Program) (t ti te tu : TypeId) : Prop where
  u : ∃ f0 f1 : Field, P.underlying t = some (.struct #[f0, f1]) ∧ (f0.type = ti ∧ f0.offset = 0) ∧ (f1.type = te ∧ f1.offset = 1)
  i : P.underlying ti = some (.int .i64)
  ci : P.cellsOf ti = 1
  e : P.underlying te = some (.array 8 tu)
  hu : P.underlying tu = some (.int .u64)
  cu : P.cellsOf tu = 1
  ce : P.cellsOf te = 8
  z : P.cellsOf t = 9
structure FieldTT (P : Program) (t ta tx ti te tu : TypeId) : Prop where
  a : AtomTT P ta ti te tu
  u : ∃ f0 f1 : Field, P.underlying t = some (.struct #[f0, f1]) ∧ (f0.type = tx ∧ f0.offset = 0) ∧ (f1.type = ta ∧ f1.offset = 1)
  x : P.underlying tx = some .string
  cx : P.cellsOf tx = 1
  z : P.cellsOf t = 10
structure RowTT (P : Program) (t tfs tf ta tx ti te tu : TypeId) : Prop where
  f : FieldTT P tf ta tx ti te tu
  u : ∃ f0 f1 : Field, P.underlying t = some (.struct #[f0, f1]) ∧ (f0.type = tfs ∧ f0.offset = 0) ∧ (f1.type = ti ∧ f1.offset = 1)
  fs : P.underlying tfs = some (.slice tf)
  cfs : P.cellsOf tfs = 1
  z : P.cellsOf t = 2
structure InsTT (P : Program) (t ti te tu : TypeId) : Prop where
  u : ∃ f0 f1 f2 : Field, P.underlying t = some (.struct #[f0, f1, f2]) ∧ (f0.type = ti ∧ f0.offset = 0) ∧ (f1.type = ti ∧ f1.offset = 1) ∧ (f2.type = te ∧ f2.offset = 2)
  z : P.cellsOf t = 10
structure AssTT (P : Program) (t tcs tn tr tfs tf ta tx ti te tu : TypeId) : Prop where
  r : RowTT P tr tfs tf ta tx ti te tu
  n : InsTT P tn ti te tu
  u : ∃ f0 f1 f2 f3 f4 f5 f6 f7 : Field, P.underlying t = some (.struct #[f0, f1, f2, f3, f4, f5, f6, f7]) ∧ (f0.type = ti ∧ f0.offset = 0) ∧ (f1.type = ti ∧ f1.offset = 1) ∧ (f2.type = tcs ∧ f2.offset = 2) ∧ (f3.type = ta ∧ f3.offset = 3) ∧ (f4.type = tr ∧ f4.offset = 12) ∧ (f5.type = tr ∧ f5.offset = 14) ∧ (f6.type = ti ∧ f6.offset = 16) ∧ (f7.type = tx ∧ f7.offset = 17)
  cs : P.underlying tcs = some (.slice tn)
  ccs : P.cellsOf tcs = 1
  z : P.cellsOf t = 18
structure PrbTT (P : Program) (t tas tss tss1 tss2 tss3 tss4 tss5 tss6 tss7 tss8 tss9 tss10 tss11 tss12 tss13 tss14 tas1 tcs tn tr tfs tf ta tx ti te tu : TypeId) : Prop where
  a : AssTT P tas1 tcs tn tr tfs tf ta tx ti te tu
  s : ScpTT P tss tss1 tss2 tss3 tss4 tss5 tss6 tss7 tss8 tss9 tss10 tss11 tss12 tss13 tss14 tu
  u : ∃ f0 f1 : Field, P.underlying t = some (.struct #[f0, f1]) ∧ (f0.type = tss ∧ f0.offset = 0) ∧ (f1.type = tas ∧ f1.offset = 2)
  as : P.underlying tas = some (.slice tas1)
  cas : P.cellsOf tas = 1
  z : P.cellsOf t = 3
section
variable {H : Type} {enc : TypeId × Value → H} {P : Program} {w : World} {base : Nat} {sp : Nat → Bool} {held : Bool} {fuel : Nat} {cs : List Value} {x : DataW H × List MemPlace} {t tas tas1 tcs tn tr tfs tf ta tx ti te tu tss tss1 tss2 tss3 tss4 tss5 tss6 tss7 tss8 tss9 tss10 tss11 tss12 tss13 tss14 : TypeId}
theorem trod_atom (T : AtomTT P t ti te tu) (h : DataW.trod enc P w base sp held fuel t cs = some x) : ∃ a : AtomR, cs = atomL a ∧ True := by
  obtain ⟨f0, f1, ht, h0, h1⟩ := T.u
  obtain ⟨y0, y1, n, -, hl, h3, h4⟩ := trod_struct2 ht h
  rw [h0.1, h0.2, T.ci] at h3
  rw [h1.1, h1.2, T.ce] at h4
  obtain ⟨b, e3, -⟩ := DataW.trod_int T.i h3
  obtain ⟨c, e4, -⟩ := trod_el T.e T.hu T.cu T.ce h4
  rw [T.z] at hl
  match cs, hl with
  | u :: cs, hl =>
    simp at e3 hl
    refine ⟨⟨b, c⟩, ?_, trivial⟩
    rw [List.drop_succ_cons, List.drop_zero, List.take_of_length_le (by omega)] at e4
    rw [e3, e4]; rfl
theorem trod_field (T : FieldTT P t ta tx ti te tu) (h : DataW.trod enc P w base sp held fuel t cs = some x) : ∃ a : FieldR, cs = fieldL a ∧ True := by
  obtain ⟨f0, f1, ht, h0, h1⟩ := T.u
  obtain ⟨y0, y1, n, -, hl, h3, h4⟩ := trod_struct2 ht h
  rw [h0.1, h0.2, T.cx] at h3
  rw [h1.1, h1.2, T.a.z] at h4
  obtain ⟨b, e3, -⟩ := DataW.trod_string T.x h3
  obtain ⟨c, e4, -⟩ := trod_atom T.a h4
  rw [T.z] at hl
  match cs, hl with
  | u :: cs, hl =>
    simp at e3 hl
    refine ⟨⟨b, c⟩, ?_, trivial⟩
    rw [List.drop_succ_cons, List.drop_zero, List.take_of_length_le (by omega)] at e4
    rw [e3, e4]; rfl
theorem trod_rowt (T : RowTT P t tfs tf ta tx ti te tu) (h : DataW.trod enc P w base sp held fuel t cs = some x) : ∃ r : RowR, cs = rtmL r ∧ RowV (Kw w) r := by
  obtain ⟨f0, f1, ht, h0, h1⟩ := T.u
  obtain ⟨y0, y1, n, -, hl, h3, h4⟩ := trod_struct2 ht h
  rw [h0.1, h0.2, T.cfs] at h3
  rw [h1.1, h1.2, T.f.a.ci] at h4
  obtain ⟨v, l, e3, hs, -, -⟩ := open_cells (sz := 10) fieldL (fun _ => True) fieldL_len (by omega) T.fs T.f.z (fun _ _ _ hx => trod_field T.f hx) h3
  obtain ⟨b, e4, -⟩ := DataW.trod_int T.f.a.i h4
  rw [T.z] at hl
  refine ⟨⟨v, l, b⟩, ?_, ⟨hs.slv⟩⟩
  match cs, hl with
  | [a, c], _ =>
    simp at e3 e4
    rw [e3, e4]; rfl
theorem open_rowt {r : Reach} {b0 : Nat} {v : Value} {d : DataW H} {ps : List MemPlace} (T : RowTT P t tfs tf ta tx ti te tu) (hval : Value.okWide P w r b0 t v) (hd : DataW.Trod enc P w base sp held t v d ps) : ∃ r : RowR, v = .agg (rtmL r).toArray ∧ RowV (Kw w) r := by
  obtain ⟨f0, f1, ht, -⟩ := T.u
  obtain ⟨cs, rfl, -⟩ := okWide_struct ht hval
  obtain ⟨fuel, h⟩ := hd
  obtain ⟨s, h1, h2⟩ := trod_rowt T h
  refine ⟨s, ?_, h2⟩
  congr 1
  exact Array.ext' h1
end
end Go.Proofs.YtkdbiooamgnfmaaDoor.E
