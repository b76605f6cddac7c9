/-
  Calls of a shape's operations, as arguments, are opened.
-/
import Derived.Test.YtdfbimlpondblaaGreatDoorSho
import Derived.Test.YtdfbimlpondblaaGreatDoorCal
namespace Go.Proofs.YtdfbimlpondblaaGreatDoor.E
open Go Go.RowKit Go.ChangeShapes Go.WideShapes Go.ChangeAt Go.Deep Go.Proofs.YtdfbimlpondblaaGreatDoor.M
set_option linter.unusedVariables false
set_option linter.unusedSimpArgs false
structure CalTT (P : Program) (t tis tn tvs te tu ti : TypeId) : Prop where
  u : ∃ f0 f1 f2 f3 f4 : Field, P.underlying t = some (.struct #[f0, f1, f2, f3, f4]) ∧ (f0.type = ti ∧ f0.offset = 0) ∧ (f1.type = tis ∧ f1.offset = 1) ∧ (f2.type = tvs ∧ f2.offset = 2) ∧ (f3.type = te ∧ f3.offset = 3) ∧ (f4.type = te ∧ f4.offset = 11)
  n : ∃ f0 f1 f2 : Field, P.underlying tn = some (.struct #[f0, f1, f2]) ∧ (f0.type = ti ∧ f0.offset = 0) ∧ (f1.type = ti ∧ f1.offset = 1) ∧ (f2.type = te ∧ f2.offset = 2)
  i : P.underlying ti = some (.int .i64)
  ci : P.cellsOf ti = 1
  is : P.underlying tis = some (.slice tn)
  cis : P.cellsOf tis = 1
  vs : P.underlying tvs = some (.slice te)
  cvs : P.cellsOf tvs = 1
  e : P.underlying te = some (.array 8 tu)
  hu : P.underlying tu = some (.int .u64)
  cu : P.cellsOf tu = 1
  ce : P.cellsOf te = 8
  zn : P.cellsOf tn = 10
  z : P.cellsOf t = 19
section
variable {H : Type} {enc : TypeId × Value → H} {P : Program} {w : World} {base : Nat} {sp : Nat → Bool} {held : Bool} {fuel : Nat} {cs : List Value} {x : DataW H × List MemPlace} {t tis tn tvs te tu ti : TypeId}
theorem trod_cin (T : CalTT P t tis tn tvs te tu ti) (h : DataW.trod enc P w base sp held fuel tn cs = some x) : ∃ a : InsR, cs = insL a ∧ True := by
  obtain ⟨f0, f1, f2, ht, h0, h1, h2⟩ := T.n
  obtain ⟨y0, y1, y2, n, -, hl, h3, h4, h5⟩ := trod_struct3 ht h
  rw [h0.1, h0.2, T.ci] at h3
  rw [h1.1, h1.2, T.ci] at h4
  rw [h2.1, h2.2, T.ce] at h5
  obtain ⟨a, e3, -⟩ := DataW.trod_int T.i h3
  obtain ⟨b, e4, -⟩ := DataW.trod_int T.i h4
  obtain ⟨c, e5, -⟩ := trod_el T.e T.hu T.cu T.ce h5
  rw [T.zn] at hl
  match cs, hl with
  | u :: v :: cs, hl =>
    simp at e3 e4 hl
    refine ⟨⟨a, b, c⟩, ?_, trivial⟩
    rw [List.drop_succ_cons, List.drop_succ_cons, List.drop_zero, List.take_of_length_le (by omega)] at e5
    rw [e3, e4, e5]; rfl
theorem trod_cal (T : CalTT P t tis tn tvs te tu ti) (h : DataW.trod enc P w base sp held fuel t cs = some x) : ∃ a : CalR, cs = calL a ∧ CalV (Kw w) a := by
  obtain ⟨f0, f1, f2, f3, f4, ht, h0, h1, h2, h3, h4⟩ := T.u
  obtain ⟨xs, n, hfu, rfl, hl, hlen, hf⟩ := DataW.trod_struct ht h
  have g0 := hf 0 f0 rfl
  have g1 := hf 1 f1 rfl
  have g2 := hf 2 f2 rfl
  have g3 := hf 3 f3 rfl
  have g4 := hf 4 f4 rfl
  match xs, hlen with
  | [y0, y1, y2, y3, y4], _ =>
    simp only [List.getElem?_cons_zero, List.getElem?_cons_succ] at g0 g1 g2 g3 g4
    rw [h0.1, h0.2, T.ci] at g0
    rw [h1.1, h1.2, T.cis] at g1
    rw [h2.1, h2.2, T.cvs] at g2
    rw [h3.1, h3.2, T.ce] at g3
    rw [h4.1, h4.2, T.ce] at g4
    obtain ⟨k, e0, -⟩ := DataW.trod_int T.i g0
    obtain ⟨lv, l, e1, hc, -, -⟩ := open_cells (sz := 10) insL (fun _ => True) insL_len (by omega) T.is T.zn (fun _ _ _ hx => trod_cin T hx) g1
    obtain ⟨vv, v, e2, hd, -, -⟩ := open_cells (sz := 8) elL (fun _ => True) elL_len (by omega) T.vs T.ce (fun _ _ _ hx => trod_el T.e T.hu T.cu T.ce hx) g2
    obtain ⟨a, e3, -⟩ := trod_el T.e T.hu T.cu T.ce g3
    obtain ⟨b, e4, -⟩ := trod_el T.e T.hu T.cu T.ce g4
    rw [T.z] at hl
    refine ⟨⟨k, lv, l, vv, v, a, b⟩, ?_, ⟨hc.slv, hd.slv⟩⟩
    match cs, hl with
    | [u0, u1, u2, a0, a1, a2, a3, a4, a5, a6, a7, b0, b1, b2, b3, b4, b5, b6, b7], _ =>
      simp at e0 e1 e2 e3 e4
      rw [e0, e1, e2]
      show _ = I k :: lv :: vv :: (elL a ++ elL b)
      rw [← e3, ← e4]; rfl
theorem open_cals {r : Reach} {b0 : Nat} {v : Value} {d : DataW H} {ps : List MemPlace} {ts : TypeId} (T : CalTT P t tis tn tvs te tu ti) (hts : P.underlying ts = some (.slice t)) (hval : Value.okWide P w r b0 ts v) (hd : DataW.Trod enc P w base sp held ts v d ps) : ∃ l : List CalR, Sl w v 19 l.length (l.flatMap calL) ∧ CalsV (Kw w) l := by
  obtain ⟨l, h, h2⟩ := open_slice calL (fun x => CalV (Kw w) x) calL_len (by omega) hts T.z (fun _ _ _ hx => trod_cal T hx) hval hd
  exact ⟨l, h, h2⟩
end
end Go.Proofs.YtdfbimlpondblaaGreatDoor.E
