/-
  How elements, factors and shapes, as arguments, are opened.
-/
import Derived.Test.YtdfbimlpondblaaDoorShr
import Derived.Test.YtdfbimlpondblaaDoorSlc
import Derived.Deep.Strs
import Derived.OpenShut
namespace Go.Proofs.YtdfbimlpondblaaDoor.E
open Go Go.RowKit Go.ChangeShapes Go.WideShapes Go.ChangeAt Go.Deep Go.Proofs.YtdfbimlpondblaaDoor.M
set_option linter.unusedVariables false
theorem words_el {cs : List Value} (hl : cs.length = 8) (h : ∀ i, i < 8 → ∃ a : BitVec 64, cs[i]? = some (U a)) : ∃ e : El, cs = elL e := by
  have hf : ∀ i : Nat, ∃ a : BitVec 64, i < 8 → cs[i]? = some (U a) := fun i => by
    by_cases hi : i < 8
    · obtain ⟨a, ha⟩ := h i hi; exact ⟨a, fun _ => ha⟩
    · exact ⟨0#64, fun h => absurd h hi⟩
  refine ⟨fun i => (hf i).choose, List.ext_getElem? fun j => ?_⟩
  by_cases hj : j < 8
  · rw [(hf j).choose_spec hj]; simp [elL, hj]
  · rw [List.getElem?_eq_none (by omega), List.getElem?_eq_none (by rw [elL_len]; omega)]
theorem flat_one (l : List Tx) : l.flatMap (fun s => [Value.string s]) = txL l := by
  induction l with
  | nil => rfl
  | cons a l ih => rw [List.flatMap_cons, ih]; rfl
structure RelTT (P : Program) (t ti ta te : TypeId) : Prop where
  u : ∃ f0 f1 : Field, P.underlying t = some (.struct #[f0, f1]) ∧ (f0.type = ti ∧ f0.offset = 0) ∧ (f1.type = ta ∧ f1.offset = 1)
  i : P.underlying ti = some (.int .i64)
  ci : P.cellsOf ti = 1
  a : P.underlying ta = some (.array 64 te)
  e : P.underlying te = some (.int .u64)
  ce : P.cellsOf te = 1
  ca : P.cellsOf ta = 64
  z : P.cellsOf t = 65
structure FacTT (P : Program) (t tk ts tx tr ti ta te : TypeId) : Prop where
  r : RelTT P tr ti ta te
  u : ∃ f0 f1 f2 : Field, P.underlying t = some (.struct #[f0, f1, f2]) ∧ (f0.type = tk ∧ f0.offset = 0) ∧ (f1.type = ts ∧ f1.offset = 1) ∧ (f2.type = tr ∧ f2.offset = 2)
  k : P.underlying tk = some (.int .i64)
  ck : P.cellsOf tk = 1
  s : P.underlying ts = some (.slice tx)
  cs : P.cellsOf ts = 1
  x : P.underlying tx = some .string
  cx : P.cellsOf tx = 1
  z : P.cellsOf t = 67
structure ShpTT (P : Program) (t tb tfs tf tk ts tx tr ti ta te : TypeId) : Prop where
  f : FacTT P tf tk ts tx tr ti ta te
  u : ∃ f0 f1 : Field, P.underlying t = some (.struct #[f0, f1]) ∧ (f0.type = tb ∧ f0.offset = 0) ∧ (f1.type = tfs ∧ f1.offset = 1)
  b : P.underlying tb = some .bool
  cb : P.cellsOf tb = 1
  fs : P.underlying tfs = some (.slice tf)
  cfs : P.cellsOf tfs = 1
  z : P.cellsOf t = 2
section
variable {H : Type} {enc : TypeId × Value → H} {P : Program} {w : World} {base : Nat} {sp : Nat → Bool} {held : Bool} {fuel : Nat} {cs : List Value} {x : DataW H × List MemPlace} {t tb tfs tf tk ts tx tr ti ta te : TypeId}
theorem trod_words {n : Nat} (ht : P.underlying t = some (.array n te)) (he : P.underlying te = some (.int .u64)) (hc : P.cellsOf te = 1) (hz : P.cellsOf t = n) (h : DataW.trod enc P w base sp held fuel t cs = some x) :
    cs.length = n ∧ ∀ i, i < n → ∃ a : BitVec 64, cs[i]? = some (U a) := by
  obtain ⟨xs, m, -, -, hl, hn, hel⟩ := DataW.trod_array ht h
  refine ⟨by rw [hl, hz], fun i hi => ?_⟩
  have h1 := hel i hi
  rw [hc, Nat.mul_one, List.getElem?_eq_getElem (by omega)] at h1
  obtain ⟨k, h2, -, wf⟩ := DataW.trod_int he h1
  obtain ⟨a, rfl⟩ := wf_u wf
  have h3 : ((cs.drop i).take 1)[0]? = some (U a) := by rw [h2]; rfl
  rw [List.getElem?_take, if_pos (by omega), List.getElem?_drop, Nat.add_zero] at h3
  exact ⟨a, h3⟩
theorem trod_el (ht : P.underlying t = some (.array 8 te)) (he : P.underlying te = some (.int .u64)) (hc : P.cellsOf te = 1) (hz : P.cellsOf t = 8) (h : DataW.trod enc P w base sp held fuel t cs = some x) : ∃ e : El, cs = elL e ∧ True := by
  obtain ⟨h1, h2⟩ := trod_words ht he hc hz h
  obtain ⟨e, rfl⟩ := words_el h1 h2
  exact ⟨e, rfl, trivial⟩
theorem trod_rel (T : RelTT P t ti ta te) (h : DataW.trod enc P w base sp held fuel t cs = some x) : ∃ r : Rl, cs = relL r := by
  obtain ⟨f0, f1, ht, h0, h1⟩ := T.u
  obtain ⟨y0, y1, n, -, hl, h2, h3⟩ := trod_struct2 ht h
  rw [h0.1, h0.2, T.ci] at h2
  rw [h1.1, h1.2, T.ca] at h3
  obtain ⟨m, h4, -⟩ := DataW.trod_int T.i h2
  obtain ⟨h5, h6⟩ := trod_words T.a T.e T.ce T.ca h3
  rw [T.z] at hl
  have hf : ∀ i : Nat, ∃ a : BitVec 64, i < 64 → cs[i + 1]? = some (U a) := fun i => by
    by_cases hi : i < 64
    · obtain ⟨a, ha⟩ := h6 i hi
      rw [List.getElem?_take, if_pos hi, List.getElem?_drop, Nat.add_comm] at ha
      exact ⟨a, fun _ => ha⟩
    · exact ⟨0#64, fun h => absurd h hi⟩
  refine ⟨⟨m, fun i => (hf i).choose⟩, List.ext_getElem? fun j => ?_⟩
  match j with
  | 0 =>
    have h7 : ((cs.drop 0).take 1)[0]? = some (I m) := by rw [h4]; rfl
    rw [List.getElem?_take, if_pos (by omega), List.getElem?_drop, Nat.add_zero] at h7
    rw [h7]; rfl
  | j + 1 =>
    by_cases hj : j < 64
    · rw [(hf j).choose_spec hj]; simp [relL, hj]
    · rw [List.getElem?_eq_none (by omega), List.getElem?_eq_none (by rw [relL_len]; omega)]
theorem trod_fac (T : FacTT P t tk ts tx tr ti ta te) (h : DataW.trod enc P w base sp held fuel t cs = some x) : ∃ f : Fac, cs = facL f ∧ FacV (Kw w) f := by
  obtain ⟨f0, f1, f2, ht, h0, h1, h2⟩ := T.u
  obtain ⟨y0, y1, y2, n, -, hl, h3, h4, h5⟩ := trod_struct3 ht h
  rw [h0.1, h0.2, T.ck] at h3
  rw [h1.1, h1.2, T.cs] at h4
  rw [h2.1, h2.2, T.r.z] at h5
  obtain ⟨m, e3, -⟩ := DataW.trod_int T.k h3
  obtain ⟨v, l, e4, hs, -, -⟩ := open_cells (sz := 1) (fun s : Tx => [Value.string s]) (fun _ => True) (fun _ => rfl) (by omega) T.s T.cx (fun _ _ _ hx => by
    obtain ⟨s, e, -⟩ := DataW.trod_string T.x hx
    exact ⟨s, e, trivial⟩) h4
  obtain ⟨r, e5⟩ := trod_rel T.r h5
  rw [flat_one] at hs
  rw [T.z] at hl
  refine ⟨⟨m, v, l, r⟩, ?_, ⟨hs.slv⟩⟩
  match cs, hl with
  | a :: b :: c, hl =>
    simp only [List.length_cons] at hl
    simp only [List.drop_zero, List.take_succ_cons, List.take_zero, List.drop_succ_cons] at e3 e4 e5
    rw [List.take_of_length_le (by omega)] at e5
    rw [facL, e5, (List.cons.inj e3).1, (List.cons.inj e4).1]
theorem trod_shp (T : ShpTT P t tb tfs tf tk ts tx tr ti ta te) (h : DataW.trod enc P w base sp held fuel t cs = some x) : ∃ s : Shp, cs = [B s.tuple, s.fv] ∧ ShpV (Kw w) s := by
  obtain ⟨f0, f1, ht, h0, h1⟩ := T.u
  obtain ⟨y0, y1, n, -, hl, h2, h3⟩ := trod_struct2 ht h
  rw [h0.1, h0.2, T.cb] at h2
  rw [h1.1, h1.2, T.cfs] at h3
  obtain ⟨m, e2, -⟩ := DataW.trod_bool T.b h2
  obtain ⟨v, l, e3, hs, hok, -⟩ := open_cells (sz := 67) facL (FacV (Kw w)) facL_len (by omega) T.fs T.f.z (fun _ _ _ hx => trod_fac T.f hx) h3
  rw [T.z] at hl
  refine ⟨⟨m, v, l⟩, ?_, ⟨hs.slv, hok⟩⟩
  match cs, hl with
  | [a, b], _ =>
    simp at e2 e3
    rw [e2, e3]
theorem open_shape {r : Reach} {b0 : Nat} {v : Value} {d : DataW H} {ps : List MemPlace} (T : ShpTT P t tb tfs tf tk ts tx tr ti ta te) (hval : Value.okWide P w r b0 t v) (hd : DataW.Trod enc P w base sp held t v d ps) : ∃ s : Shp, v = .agg (shpC s) ∧ ShpV (Kw w) s := by
  obtain ⟨f0, f1, ht, -⟩ := T.u
  obtain ⟨cs, rfl, -⟩ := okWide_struct ht hval
  obtain ⟨fuel, h⟩ := hd
  obtain ⟨s, h1, h2⟩ := trod_shp T h
  refine ⟨s, ?_, h2⟩
  congr 1
  exact Array.ext' h1
end
section
variable {P : Program} {w : World} {r : Reach} {b0 : Nat} {t te : TypeId} {v : Value}
end
end Go.Proofs.YtdfbimlpondblaaDoor.E
