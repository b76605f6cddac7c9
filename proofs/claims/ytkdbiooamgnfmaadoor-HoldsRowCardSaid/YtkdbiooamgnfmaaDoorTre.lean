/-
  Trees, words and commands: their records, and how they are opened.
-/
import Derived.Test.YtkdbiooamgnfmaaDoorCut
import Derived.Test.YtkdbiooamgnfmaaDoorSlc
import Derived.Deep.Strs
import Derived.OpenShut
import Derived.Test.YtkdbiooamgnfmaaDoorScp
namespace Go.Proofs.YtkdbiooamgnfmaaDoor.E
open Go Go.RowKit Go.ChangeShapes Go.WideShapes Go.ChangeAt Go.Deep Go.Proofs.YtkdbiooamgnfmaaDoor.M
set_option linter.unusedVariables false
theorem words_el {cs : List Value} (hl : cs.length = 8) (h : ∀ i, i < 8 → ∃ a : BitVec 64, cs[i]? = some (U a)) : ∃ e : El, cs = elL e := by
  have hf : ∀ i : Nat, ∃ a : BitVec 64, i < 8 → cs[i]? = some (U a) := fun i => by
    by_cases hi : i < 8
    · obtain ⟨a, ha⟩ := h i hi; exact ⟨a, fun _ => ha⟩
    · exact ⟨0#64, fun h => absurd h hi⟩
  refine ⟨fun i => (hf i).choose, List.ext_getElem? fun j => ?_⟩
  by_cases hj : j < 8
  · rw [(hf j).choose_spec hj]; simp [elL, hj]
  · rw [List.getElem?_eq_none (by omega), List.getElem?_eq_none (by rw [elL_len]; omega)]
structure RelTT (P : Program) (t ti ta te : TypeId) : Prop where
  u : ∃ f0 f1 : Field, P.underlying t = some (.struct #[f0, f1]) ∧ (f0.type = ti ∧ f0.offset = 0) ∧ (f1.type = ta ∧ f1.offset = 1)
  i : P.underlying ti = some (.int .i64)
  ci : P.cellsOf ti = 1
  a : P.underlying ta = some (.array 64 te)
  e : P.underlying te = some (.int .u64)
  ce : P.cellsOf te = 1
  ca : P.cellsOf ta = 64
  z : P.cellsOf t = 65
structure FacTT (P : Program) (t tk ts tx tr ti ta te : TypeId) : Prop where
  r : RelTT P tr ti ta te
  u : ∃ f0 f1 f2 : Field, P.underlying t = some (.struct #[f0, f1, f2]) ∧ (f0.type = tk ∧ f0.offset = 0) ∧ (f1.type = ts ∧ f1.offset = 1) ∧ (f2.type = tr ∧ f2.offset = 2)
  k : P.underlying tk = some (.int .i64)
  ck : P.cellsOf tk = 1
  s : P.underlying ts = some (.slice tx)
  cs : P.cellsOf ts = 1
  x : P.underlying tx = some .string
  cx : P.cellsOf tx = 1
  z : P.cellsOf t = 67
structure ShpTT (P : Program) (t tb tfs tf tk ts tx tr ti ta te : TypeId) : Prop where
  f : FacTT P tf tk ts tx tr ti ta te
  u : ∃ f0 f1 : Field, P.underlying t = some (.struct #[f0, f1]) ∧ (f0.type = tb ∧ f0.offset = 0) ∧ (f1.type = tfs ∧ f1.offset = 1)
  b : P.underlying tb = some .bool
  cb : P.cellsOf tb = 1
  fs : P.underlying tfs = some (.slice tf)
  cfs : P.cellsOf tfs = 1
  z : P.cellsOf t = 2
section
variable {H : Type} {enc : TypeId × Value → H} {P : Program} {w : World} {base : Nat} {sp : Nat → Bool} {held : Bool} {fuel : Nat} {cs : List Value} {x : DataW H × List MemPlace} {t tb tfs tf tk ts tx tr ti ta te : TypeId}
theorem trod_words {n : Nat} (ht : P.underlying t = some (.array n te)) (he : P.underlying te = some (.int .u64)) (hc : P.cellsOf te = 1) (hz : P.cellsOf t = n) (h : DataW.trod enc P w base sp held fuel t cs = some x) :
    cs.length = n ∧ ∀ i, i < n → ∃ a : BitVec 64, cs[i]? = some (U a) := by
  obtain ⟨xs, m, -, -, hl, hn, hel⟩ := DataW.trod_array ht h
  refine ⟨by rw [hl, hz], fun i hi => ?_⟩
  have h1 := hel i hi
  rw [hc, Nat.mul_one, List.getElem?_eq_getElem (by omega)] at h1
  obtain ⟨k, h2, -, wf⟩ := DataW.trod_int he h1
  obtain ⟨a, rfl⟩ := wf_u wf
  have h3 : ((cs.drop i).take 1)[0]? = some (U a) := by rw [h2]; rfl
  rw [List.getElem?_take, if_pos (by omega), List.getElem?_drop, Nat.add_zero] at h3
  exact ⟨a, h3⟩
theorem trod_el (ht : P.underlying t = some (.array 8 te)) (he : P.underlying te = some (.int .u64)) (hc : P.cellsOf te = 1) (hz : P.cellsOf t = 8) (h : DataW.trod enc P w base sp held fuel t cs = some x) : ∃ e : El, cs = elL e ∧ True := by
  obtain ⟨h1, h2⟩ := trod_words ht he hc hz h
  obtain ⟨e, rfl⟩ := words_el h1 h2
  exact ⟨e, rfl, trivial⟩
end
section
variable {P : Program} {w : World} {r : Reach} {b0 : Nat} {t te : TypeId} {v : Value}
end
end Go.Proofs.YtkdbiooamgnfmaaDoor.E
namespace Go.Proofs.YtkdbiooamgnfmaaDoor.E
open Go Go.RowKit Go.ChangeShapes Go.WideShapes Go.ChangeAt Go.Deep Go.Proofs.YtkdbiooamgnfmaaDoor.M
set_option linter.unusedVariables false
structure VarTT (P : Program) (t tx ti : TypeId) : Prop where
  u : ∃ f0 f1 f2 : Field, P.underlying t = some (.struct #[f0, f1, f2]) ∧ (f0.type = tx ∧ f0.offset = 0) ∧ (f1.type = ti ∧ f1.offset = 1) ∧ (f2.type = ti ∧ f2.offset = 2)
  x : P.underlying tx = some .string
  cx : P.cellsOf tx = 1
  i : P.underlying ti = some (.int .i64)
  ci : P.cellsOf ti = 1
  z : P.cellsOf t = 3
structure FltTT (P : Program) (t ti : TypeId) : Prop where
  u : ∃ f0 f1 : Field, P.underlying t = some (.struct #[f0, f1]) ∧ (f0.type = ti ∧ f0.offset = 0) ∧ (f1.type = ti ∧ f1.offset = 1)
  i : P.underlying ti = some (.int .i64)
  ci : P.cellsOf ti = 1
  z : P.cellsOf t = 2
structure LatTT (P : Program) (t tsh tb tfs tf tk ts tx tr ti ta te : TypeId) : Prop where
  s : ShpTT P tsh tb tfs tf tk ts tx tr ti ta te
  u : ∃ f0 f1 : Field, P.underlying t = some (.struct #[f0, f1]) ∧ (f0.type = tx ∧ f0.offset = 0) ∧ (f1.type = tsh ∧ f1.offset = 1)
  z : P.cellsOf t = 3
structure ScpTT (P : Program) (t tls tvs tv tl tsh tb tfs tf tk ts tx tr ti ta te : TypeId) : Prop where
  l : LatTT P tl tsh tb tfs tf tk ts tx tr ti ta te
  v : VarTT P tv tx ti
  u : ∃ f0 f1 : Field, P.underlying t = some (.struct #[f0, f1]) ∧ (f0.type = tls ∧ f0.offset = 0) ∧ (f1.type = tvs ∧ f1.offset = 1)
  ls : P.underlying tls = some (.slice tl)
  vs : P.underlying tvs = some (.slice tv)
  cls : P.cellsOf tls = 1
  cvs : P.cellsOf tvs = 1
  z : P.cellsOf t = 2
section
variable {H : Type} {enc : TypeId × Value → H} {P : Program} {w : World} {base : Nat} {sp : Nat → Bool} {held : Bool} {fuel : Nat} {cs : List Value} {x : DataW H × List MemPlace} {t tls tvs tv tl tsh tb tfs tf tk ts tx tr ti ta te : TypeId}
end
end Go.Proofs.YtkdbiooamgnfmaaDoor.E
namespace Go.Proofs.YtkdbiooamgnfmaaDoor.E
open Go Go.RowKit Go.ChangeShapes Go.WideShapes Go.ChangeAt Go.Deep Go.Proofs.YtkdbiooamgnfmaaDoor.M
set_option linter.unusedVariables false
structure WdTT (P : Program) (t tx ti : TypeId) : Prop where
  u : ∃ f0 f1 : Field, P.underlying t = some (.struct #[f0, f1]) ∧ (f0.type = tx ∧ f0.offset = 0) ∧ (f1.type = ti ∧ f1.offset = 1)
  x : P.underlying tx = some .string
  cx : P.cellsOf tx = 1
  i : P.underlying ti = some (.int .i64)
  ci : P.cellsOf ti = 1
  z : P.cellsOf t = 2
structure NodeTT (P : Program) (t tws tns tw tx ti : TypeId) : Prop where
  w : WdTT P tw tx ti
  u : ∃ f0 f1 f2 f3 f4 : Field, P.underlying t = some (.struct #[f0, f1, f2, f3, f4]) ∧ (f0.type = ti ∧ f0.offset = 0) ∧ (f1.type = ti ∧ f1.offset = 1) ∧ (f2.type = tx ∧ f2.offset = 2) ∧ (f3.type = tws ∧ f3.offset = 3) ∧ (f4.type = tns ∧ f4.offset = 4)
  ws : P.underlying tws = some (.slice tw)
  ns : P.underlying tns = some (.slice t)
  cws : P.cellsOf tws = 1
  cns : P.cellsOf tns = 1
  z : P.cellsOf t = 5
section
variable {H : Type} {enc : TypeId × Value → H} {P : Program} {w : World} {base : Nat} {sp : Nat → Bool} {held : Bool} {fuel : Nat} {cs : List Value} {x : DataW H × List MemPlace} {t tws tns tw tx ti : TypeId}
end
end Go.Proofs.YtkdbiooamgnfmaaDoor.E
