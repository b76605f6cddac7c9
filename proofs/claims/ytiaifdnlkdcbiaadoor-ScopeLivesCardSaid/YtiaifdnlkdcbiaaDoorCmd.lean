/-
  Commands: their record, and how they are opened.
-/
import Derived.Test.YtiaifdnlkdcbiaaDoorTre
namespace Go.Proofs.YtiaifdnlkdcbiaaDoor.E
open Go Go.RowKit Go.ChangeShapes Go.WideShapes Go.ChangeAt Go.Deep Go.Proofs.YtiaifdnlkdcbiaaDoor.M
set_option linter.unusedVariables false
structure CmdTT (P : Program) (t tps tp tn tws tns tw tx ti : TypeId) : Prop where
  n : NodeTT P tn tws tns tw tx ti
  u : ∃ f0 f1 f2 f3 f4 f5 f6 f7 : Field, P.underlying t = some (.struct #[f0, f1, f2, f3, f4, f5, f6, f7]) ∧ (f0.type = ti ∧ f0.offset = 0) ∧ (f1.type = ti ∧ f1.offset = 1) ∧ (f2.type = tw ∧ f2.offset = 2) ∧ (f3.type = tws ∧ f3.offset = 4) ∧ (f4.type = tps ∧ f4.offset = 5) ∧ (f5.type = ti ∧ f5.offset = 6) ∧ (f6.type = tn ∧ f6.offset = 7) ∧ (f7.type = tn ∧ f7.offset = 12)
  ps : P.underlying tps = some (.slice tp)
  cps : P.cellsOf tps = 1
  p : P.underlying tp = some (.array 2 tw)
  cp : P.cellsOf tp = 4
  z : P.cellsOf t = 17
section
variable {H : Type} {enc : TypeId × Value → H} {P : Program} {w : World} {base : Nat} {sp : Nat → Bool} {held : Bool} {fuel : Nat} {cs : List Value} {x : DataW H × List MemPlace} {t tps tp tn tws tns tw tx ti : TypeId}
theorem trod_pw (ht : P.underlying t = some (.array 2 tw)) (T : WdTT P tw tx ti) (hz : P.cellsOf t = 4) (h : DataW.trod enc P w base sp held fuel t cs = some x) : ∃ p : Pw, cs = pwL p ∧ True := by
  obtain ⟨xs, m, -, -, hl, hn, hel⟩ := DataW.trod_array ht h
  have h0 := hel 0 (by omega)
  have h1 := hel 1 (by omega)
  rw [T.z, List.getElem?_eq_getElem (by omega)] at h0 h1
  obtain ⟨a, e0, -⟩ := trod_wd T h0
  obtain ⟨b, e1, -⟩ := trod_wd T h1
  rw [hz] at hl
  match cs, hl with
  | [u0, u1, u2, u3], _ =>
    simp [wdL] at e0 e1
    exact ⟨(a, b), by rw [e0.1, e0.2, e1.1, e1.2]; rfl, trivial⟩
theorem trod_cmd (T : CmdTT P t tps tp tn tws tns tw tx ti) (h : DataW.trod enc P w base sp held fuel t cs = some x) : ∃ c : CmdR, cs = cmdL c ∧ CmdV (Kw w) c := by
  obtain ⟨f0, f1, f2, f3, f4, f5, f6, f7, ht, h0, h1, h2, h3, h4, h5, h6, h7⟩ := T.u
  obtain ⟨xs, n, hfu, rfl, hl, hlen, hf⟩ := DataW.trod_struct ht h
  have g0 := hf 0 f0 rfl
  have g1 := hf 1 f1 rfl
  have g2 := hf 2 f2 rfl
  have g3 := hf 3 f3 rfl
  have g4 := hf 4 f4 rfl
  have g5 := hf 5 f5 rfl
  have g6 := hf 6 f6 rfl
  have g7 := hf 7 f7 rfl
  match xs, hlen with
  | [y0, y1, y2, y3, y4, y5, y6, y7], _ =>
    simp only [List.getElem?_cons_zero, List.getElem?_cons_succ] at g0 g1 g2 g3 g4 g5 g6 g7
    rw [h0.1, h0.2, T.n.w.ci] at g0
    rw [h1.1, h1.2, T.n.w.ci] at g1
    rw [h2.1, h2.2, T.n.w.z] at g2
    rw [h3.1, h3.2, T.n.cws] at g3
    rw [h4.1, h4.2, T.cps] at g4
    rw [h5.1, h5.2, T.n.w.ci] at g5
    rw [h6.1, h6.2, T.n.z] at g6
    rw [h7.1, h7.2, T.n.z] at g7
    obtain ⟨a, e0, -⟩ := DataW.trod_int T.n.w.i g0
    obtain ⟨b, e1, -⟩ := DataW.trod_int T.n.w.i g1
    obtain ⟨nm, e2, -⟩ := trod_wd T.n.w g2
    obtain ⟨nv, names, e3, hs, -, -⟩ := open_cells (sz := 2) wdL (fun _ => True) wdL_len (by omega) T.n.ws T.n.w.z (fun _ _ _ hx => trod_wd T.n.w hx) g3
    obtain ⟨pv, pairs, e4, hp, -, -⟩ := open_cells (sz := 4) pwL (fun _ => True) pwL_len (by omega) T.ps T.cp (fun _ _ _ hx => trod_pw T.p T.n.w T.cp hx) g4
    obtain ⟨d, e5, -⟩ := DataW.trod_int T.n.w.i g5
    obtain ⟨l, e6, hleft⟩ := trod_node T.n _ _ _ g6
    obtain ⟨r, e7, hright⟩ := trod_node T.n _ _ _ g7
    rw [T.z] at hl
    refine ⟨⟨a, b, nm, nv, names, pv, pairs, d, l, r⟩, ?_, ⟨hs.slv, hp.slv, hleft, hright⟩⟩
    match cs, hl with
    | u0 :: u1 :: u2 :: u3 :: u4 :: u5 :: u6 :: rest, hl =>
      simp only [List.length_cons] at hl
      have hr : rest = nodeL l ++ nodeL r := by
        simp only [List.drop_succ_cons, List.drop_zero] at e6 e7
        rw [← e6, ← e7]
        have h8 : (rest.drop 5).take 5 = rest.drop 5 := List.take_of_length_le (by simp; omega)
        rw [h8, List.take_append_drop]
      simp [wdL] at e0 e1 e2 e3 e4 e5
      rw [e0, e1, e2.1, e2.2, e3, e4, e5, hr]; simp [cmdL]
theorem open_cmd {r : Reach} {b0 : Nat} {v : Value} {d : DataW H} {ps : List MemPlace} (T : CmdTT P t tps tp tn tws tns tw tx ti) (hval : Value.okWide P w r b0 t v) (hd : DataW.Trod enc P w base sp held t v d ps) : ∃ c : CmdR, v = .agg (cmdL c).toArray ∧ CmdV (Kw w) c := by
  obtain ⟨f0, f1, f2, f3, f4, f5, f6, f7, ht, -⟩ := T.u
  obtain ⟨cs, rfl, -⟩ := okWide_struct ht hval
  obtain ⟨fuel, h⟩ := hd
  obtain ⟨s, h1, h2⟩ := trod_cmd T h
  refine ⟨s, ?_, h2⟩
  congr 1
  exact Array.ext' h1
end
end Go.Proofs.YtiaifdnlkdcbiaaDoor.E
