/-
  Values, rows and assignments are opened, with what they weigh.
-/
import Derived.Test.YtieckcbckgalhaaDoorTrz
import Derived.Test.YtieckcbckgalhaaDoorAsr
namespace Go.Proofs.YtieckcbckgalhaaDoor.E
open Go Go.RowKit Go.ChangeShapes Go.WideShapes Go.ChangeAt Go.Deep Go.Proofs.YtieckcbckgalhaaDoor.M
set_option linter.unusedVariables false
set_option linter.unusedSimpArgs false
structure ValTT (P : Program) (t tx te tu : TypeId) : Prop where
  u : ∃ f0 f1 : Field, P.underlying t = some (.struct #[f0, f1]) ∧ (f0.type = tx ∧ f0.offset = 0) ∧ (f1.type = te ∧ f1.offset = 1)
  x : P.underlying tx = some .string
  cx : P.cellsOf tx = 1
  e : P.underlying te = some (.array 8 tu)
  hu : P.underlying tu = some (.int .u64)
  cu : P.cellsOf tu = 1
  ce : P.cellsOf te = 8
  z : P.cellsOf t = 9
  b : P.bytesOf t = 80
structure AsgTT (P : Program) (t tls trs tr tv tx te tu : TypeId) : Prop where
  v : ValTT P tv tx te tu
  u : ∃ f0 f1 : Field, P.underlying t = some (.struct #[f0, f1]) ∧ (f0.type = tls ∧ f0.offset = 0) ∧ (f1.type = trs ∧ f1.offset = 1)
  ls : P.underlying tls = some (.slice te)
  rs : P.underlying trs = some (.slice tr)
  r : P.underlying tr = some (.slice tv)
  cls : P.cellsOf tls = 1
  crs : P.cellsOf trs = 1
  cr : P.cellsOf tr = 1
  z : P.cellsOf t = 2
section
variable {H : Type} {enc : TypeId × Value → H} {P : Program} {w : World} {base : Nat} {sp : Nat → Bool} {held : Bool} {fuel : Nat} {cs : List Value} {x : DataW H × List MemPlace} {t tls trs tr tv tx te tu : TypeId}
theorem trod_val (T : ValTT P t tx te tu) (h : DataW.trod enc P w base sp held fuel t cs = some x) : ∃ v : ValR, cs = valL v ∧ True := by
  obtain ⟨f0, f1, ht, h0, h1⟩ := T.u
  obtain ⟨y0, y1, n, -, hl, h3, h4⟩ := trod_struct2 ht h
  rw [h0.1, h0.2, T.cx] at h3
  rw [h1.1, h1.2, T.ce] at h4
  obtain ⟨b, e3, -⟩ := DataW.trod_string T.x h3
  obtain ⟨c, e4, -⟩ := trod_el T.e T.hu T.cu T.ce h4
  rw [T.z] at hl
  match cs, hl with
  | u :: cs, hl =>
    simp at e3 hl
    refine ⟨⟨b, c⟩, ?_, trivial⟩
    rw [List.drop_succ_cons, List.drop_zero, List.take_of_length_le (by omega)] at e4
    rw [e3, e4]; rfl
theorem open_vals {v : Value} {r : Reach} {b0 : Nat} {d : DataW H} {ps : List MemPlace} (T : ValTT P tv tx te tu) (hr : P.underlying tr = some (.slice tv)) (hval : Value.okWide P w r b0 tr v) (hd : DataW.Trod enc P w base sp held tr v d ps) (hw : (d.weights P tr).all (· ≤ reachBytes) = true) :
    ∃ l : List ValR, Sl w v 9 l.length (l.flatMap valL) ∧ l.length ≤ 1759218604390 := by
  obtain ⟨l, hs, -, hz⟩ := open_sliceW (sz := 9) valL (fun _ => True) valL_len (by omega) hr T.z (fun _ _ _ hx _ => trod_val T hx) hval hd hw
  rw [T.b] at hz
  have : reachBytes = 140737488351232 := by decide
  exact ⟨l, hs, by omega⟩
theorem open_val {v : Value} {d : DataW H} {p : List MemPlace} (T : ValTT P t tx te tu) (hv : Value.okWide P w .any base t v) (h : DataW.Trod enc P w 0 sp held t v d p) : ∃ a : ValR, v = .agg (valL a).toArray := by
  obtain ⟨fuel, h⟩ := h
  obtain ⟨f0, f1, ht, -⟩ := T.u
  obtain ⟨n, h1, -⟩ := trod_val T h
  unfold Value.okWide at hv
  rw [ht] at hv
  obtain ⟨cs, rfl, -, -⟩ := hv
  refine ⟨n, ?_⟩
  have h4 : cs.toList = valL n := h1
  rw [← h4]
end
end Go.Proofs.YtieckcbckgalhaaDoor.E
