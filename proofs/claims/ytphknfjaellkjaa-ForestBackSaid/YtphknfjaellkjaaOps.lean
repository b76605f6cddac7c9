/-
  How calls, as arguments, are opened.
-/
import Derived.Test.YtphknfjaellkjaaSlc
import Derived.Deep.Strs
import Derived.Test.YtphknfjaellkjaaFov
namespace Go.Proofs.Ytphknfjaellkjaa.E
open Go Go.RowKit Go.ChangeShapes Go.WideShapes Go.ChangeAt Go.Deep Go.Proofs.Ytphknfjaellkjaa.M
set_option linter.unusedVariables false
set_option linter.unusedSimpArgs false
theorem trod_op {H : Type} {enc : TypeId × Value → H} {P : Program} {w : World} {base : Nat} {sp : Nat → Bool} {held : Bool} {t ti : TypeId} {f0 f1 f2 : Field} {fuel : Nat} {cs : List Value} {x : DataW H × List MemPlace}
    (ht : P.underlying t = some (.struct #[f0, f1, f2])) (h0 : f0.type = ti ∧ f0.offset = 0) (h1 : f1.type = ti ∧ f1.offset = 1) (h2 : f2.type = ti ∧ f2.offset = 2) (hi : P.underlying ti = some (.int .i64)) (hc : P.cellsOf ti = 1) (hz : P.cellsOf t = 3)
    (h : DataW.trod enc P w base sp held fuel t cs = some x) : ∃ o : OpR, cs = opL o ∧ True := by
  obtain ⟨y0, y1, y2, n, -, hl, h3, h4, h5⟩ := trod_struct3 ht h
  rw [h0.1, h0.2, hc] at h3
  rw [h1.1, h1.2, hc] at h4
  rw [h2.1, h2.2, hc] at h5
  obtain ⟨a, e3, -⟩ := DataW.trod_int hi h3
  obtain ⟨b, e4, -⟩ := DataW.trod_int hi h4
  obtain ⟨c, e5, -⟩ := DataW.trod_int hi h5
  rw [hz] at hl
  match cs, hl with
  | [u, v, z], _ =>
    simp at e3 e4 e5
    exact ⟨⟨a, b, c⟩, by rw [e3, e4, e5]; rfl, trivial⟩
theorem open_ops {H : Type} {enc : TypeId × Value → H} {P : Program} {w : World} {base : Nat} {sp : Nat → Bool} {held : Bool} {r : Reach} {b0 : Nat} {t e ti : TypeId} {v : Value} {d : DataW H} {ps : List MemPlace} {f0 f1 f2 : Field}
    (ht : P.underlying t = some (.slice e)) (he : P.underlying e = some (.struct #[f0, f1, f2])) (h0 : f0.type = ti ∧ f0.offset = 0) (h1 : f1.type = ti ∧ f1.offset = 1) (h2 : f2.type = ti ∧ f2.offset = 2) (hi : P.underlying ti = some (.int .i64)) (hc : P.cellsOf ti = 1) (hz : P.cellsOf e = 3)
    (hval : Value.okWide P w r b0 t v) (hd : DataW.Trod enc P w base sp held t v d ps) : ∃ l : List OpR, Sl w v 3 l.length (l.flatMap opL) := by
  obtain ⟨l, h, -⟩ := open_slice opL (fun _ => True) opL_len (by omega) ht hz (fun _ _ _ hx => trod_op he h0 h1 h2 hi hc hz hx) hval hd
  exact ⟨l, h⟩
end Go.Proofs.Ytphknfjaellkjaa.E
