/-
  Values, rows and assignments are opened, with what they weigh.
-/
import Derived.Test.YtkdbiooamgnfmaaGreatDoorTrz
import Derived.Test.YtkdbiooamgnfmaaGreatDoorAsr
namespace Go.Proofs.YtkdbiooamgnfmaaGreatDoor.E
open Go Go.RowKit Go.ChangeShapes Go.WideShapes Go.ChangeAt Go.Deep Go.Proofs.YtkdbiooamgnfmaaGreatDoor.M
set_option linter.unusedVariables false
set_option linter.unusedSimpArgs false
structure ValTT (P : Program) (t tx te tu : TypeId) : Prop where
  u : ∃ f0 f1 : Field, P.underlying t = some (.struct #[f0, f1]) ∧ (f0.type = tx ∧ f0.offset = 0) ∧ (f1.type = te ∧ f1.offset = 1)
  x : P.underlying tx = some .string
  cx : P.cellsOf tx = 1
  e : P.underlying te = some (.array 8 tu)
  hu : P.underlying tu = some (.int .u64)
  cu : P.cellsOf tu = 1
  ce : P.cellsOf te = 8
  z : P.cellsOf t = 9
  b : P.bytesOf t = 80
structure AsgTT (P : Program) (t tls trs tr tv tx te tu : TypeId) : Prop where
  v : ValTT P tv tx te tu
  u : ∃ f0 f1 : Field, P.underlying t = some (.struct #[f0, f1]) ∧ (f0.type = tls ∧ f0.offset = 0) ∧ (f1.type = trs ∧ f1.offset = 1)
  ls : P.underlying tls = some (.slice te)
  rs : P.underlying trs = some (.slice tr)
  r : P.underlying tr = some (.slice tv)
  cls : P.cellsOf tls = 1
  crs : P.cellsOf trs = 1
  cr : P.cellsOf tr = 1
  z : P.cellsOf t = 2
theorem rows_flat (l : List VrR) : (l.flatMap fun r => [r.v]) = rowsC l := by
  induction l with
  | nil => rfl
  | cons a l ih => rw [List.flatMap_cons, ih]; rfl
section
variable {H : Type} {enc : TypeId × Value → H} {P : Program} {w : World} {base : Nat} {sp : Nat → Bool} {held : Bool} {fuel : Nat} {cs : List Value} {x : DataW H × List MemPlace} {t tls trs tr tv tx te tu : TypeId}
theorem trod_val (T : ValTT P t tx te tu) (h : DataW.trod enc P w base sp held fuel t cs = some x) : ∃ v : ValR, cs = valL v ∧ True := by
  obtain ⟨f0, f1, ht, h0, h1⟩ := T.u
  obtain ⟨y0, y1, n, -, hl, h3, h4⟩ := trod_struct2 ht h
  rw [h0.1, h0.2, T.cx] at h3
  rw [h1.1, h1.2, T.ce] at h4
  obtain ⟨b, e3, -⟩ := DataW.trod_string T.x h3
  obtain ⟨c, e4, -⟩ := trod_el T.e T.hu T.cu T.ce h4
  rw [T.z] at hl
  match cs, hl with
  | u :: cs, hl =>
    simp at e3 hl
    refine ⟨⟨b, c⟩, ?_, trivial⟩
    rw [List.drop_succ_cons, List.drop_zero, List.take_of_length_le (by omega)] at e4
    rw [e3, e4]; rfl
theorem trod_vals (T : ValTT P tv tx te tu) (hr : P.underlying tr = some (.slice tv)) (h : DataW.trod enc P w base sp held fuel tr cs = some x) (hw : (x.1.weights P tr).all (· ≤ reachBytes) = true) :
    ∃ r : VrR, cs = [r.v] ∧ SlV (Kw w) r.v 9 r.l.length (r.l.flatMap valL) ∧ r.l.length ≤ 1759218604390 := by
  obtain ⟨v, l, e, hs, -, -, hz⟩ := open_cellsW (sz := 9) valL (fun _ => True) valL_len (by omega) hr T.z (fun _ _ _ _ hx _ => trod_val T hx) h hw
  refine ⟨⟨v, l⟩, e, hs.slv, ?_⟩
  rw [T.b] at hz
  have : reachBytes = 140737488351232 := by decide
  show l.length ≤ _
  omega
theorem trod_asg (T : AsgTT P t tls trs tr tv tx te tu) (h : DataW.trod enc P w base sp held fuel t cs = some x) (hw : (x.1.weights P t).all (· ≤ reachBytes) = true) :
    ∃ a : Asg, cs = asgL a ∧ AsgV (Kw w) a ∧ ∀ r ∈ a.rows, r.l.length ≤ 1759218604390 := by
  obtain ⟨f0, f1, ht, h0, h1⟩ := T.u
  obtain ⟨xs, n, hfu, rfl, hl, hlen, hf⟩ := DataW.trod_struct ht h
  have g0 := hf 0 f0 rfl
  have g1 := hf 1 f1 rfl
  match xs, hlen with
  | [y0, y1], _ =>
    simp only [List.getElem?_cons_zero, List.getElem?_cons_succ] at g0 g1
    simp only [DataW.weights, ht, List.map_cons, List.map_nil, DataW.weightsEach, List.all_append, Bool.and_eq_true, h0.1, h1.1] at hw
    rw [h0.1, h0.2, T.cls] at g0
    rw [h1.1, h1.2, T.crs] at g1
    obtain ⟨lv, labels, e0, hs, -, -⟩ := open_cells (sz := 8) elL (fun _ => True) elL_len (by omega) T.ls T.v.ce (fun _ _ _ hx => trod_el T.v.e T.v.hu T.v.cu T.v.ce hx) g0
    obtain ⟨rv, rows, e1, hk, hok, -, -⟩ := open_cellsW (sz := 1) (fun r : VrR => [r.v]) (fun r => SlV (Kw w) r.v 9 r.l.length (r.l.flatMap valL) ∧ r.l.length ≤ 1759218604390) (fun _ => rfl) (by omega) T.rs T.cr (fun _ _ _ _ hx hwx => trod_vals T.v T.r hx hwx) g1 hw.2.1
    rw [T.z] at hl
    rw [rows_flat] at hk
    refine ⟨⟨lv, labels, rv, rows⟩, ?_, ⟨hs.slv, hk.slv, ⟨fun r hr => (hok r hr).1⟩⟩, fun r hr => (hok r hr).2⟩
    match cs, hl with
    | [u0, u1], _ =>
      simp at e0 e1
      rw [e0, e1]; rfl
theorem open_asg {v : Value} {d : DataW H} {p : List MemPlace} (T : AsgTT P t tls trs tr tv tx te tu) (hv : Value.okWide P w .any base t v) (h : DataW.Trod enc P w 0 sp held t v d p) (hw : (d.weights P t).all (· ≤ reachBytes) = true) :
    ∃ a : Asg, v = .agg (asgL a).toArray ∧ AsgV (Kw w) a ∧ ∀ r ∈ a.rows, r.l.length ≤ 1759218604390 := by
  obtain ⟨fuel, h⟩ := h
  obtain ⟨f0, f1, ht, -⟩ := T.u
  obtain ⟨n, h1, h2, h3⟩ := trod_asg T h hw
  unfold Value.okWide at hv
  rw [ht] at hv
  obtain ⟨cs, rfl, -, -⟩ := hv
  refine ⟨n, ?_, h2, h3⟩
  have h4 : cs.toList = asgL n := h1
  rw [← h4]
end
end Go.Proofs.YtkdbiooamgnfmaaGreatDoor.E
