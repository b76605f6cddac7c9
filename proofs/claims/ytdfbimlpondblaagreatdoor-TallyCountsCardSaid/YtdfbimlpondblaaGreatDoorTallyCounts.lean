/-
  The law clearancelaw17.TallyCounts of the given program returns true whatever it is given, and leaves its arguments as they were.
  It has no condition.
-/
import Derived.Test.YtdfbimlpondblaaGreatDoorCards
import Derived.Test.YtdfbimlpondblaaGreatDoorTie
import Derived.Test.YtdfbimlpondblaaGreatDoorOpen
import Derived.Test.YtdfbimlpondblaaGreatDoorTallyCountsPaces
import Derived.Test.YtdfbimlpondblaaGreatDoorSlc
import Derived.Test.YtdfbimlpondblaaGreatDoorSho
import Derived.Test.YtdfbimlpondblaaGreatDoorCap
import Derived.WalkKit
import Derived.ProofKit
import Derived.OpenShut
import Derived.Deep.DeepHandedRow
import Derived.Lib.LaidTab
namespace Go.Proofs.YtdfbimlpondblaaGreatDoor.tallyCounts
open Go Go.ChangeShapes Go.WideShapes Go.ChangeAt Go.RowKit Go.Proofs.YtdfbimlpondblaaGreatDoor.E Go.Proofs.YtdfbimlpondblaaGreatDoor.M Go.Proofs.YtdfbimlpondblaaGreatDoor.W
set_option linter.unusedVariables false
theorem own : ownKnob Tryz.prog.godebug = none := by kernel_rfl
theorem laidOut : laidOutB Tryz.prog = true := by kernel_rfl
theorem gTab : Tryz.prog.globalNamed "math/bits.deBruijn64tab" = some 0 := by kernel_rfl
theorem gTabType : (Tryz.prog.globals[0]?).map (·.type) = some 148 := by kernel_rfl
theorem cells148 : Tryz.prog.cellsOf 148 = 64 := by kernel_rfl
theorem cells5 : Tryz.prog.cellsOf 5 = 1 := by kernel_rfl
/-- What the row lists: the table holds what its text lays. -/
theorem table {W : World} (h : laidMetH Tryz.prog Rows.tallyCountsRow.laid W) : Lib.TabIs Tryz.prog W "math/bits.deBruijn64tab" .u8 tztab :=
  Lib.tabIs_of_head (rest := []) gTab gTabType Tryz.underlying148 Tryz.underlying5 cells5 cells148 h
set_option maxRecDepth 100000 in
theorem contract (H : Type) (enc : TypeId × Value → H) (W : World) (base : Nat) (args : Array Value) (ds gs : List (DataW H)) (before : List MemPlace)
    (hval : ∀ (j : Nat) t v, Tryz.f4.params[j]? = some t → args[j]? = some v → Value.okWide Tryz.prog W .any base t v)
    (hW : DataW.Whole enc Tryz.prog Tryz.f4.params.toList Rows.tallyCountsSpec.vars false W args.toList ds gs before) (hL : laidMetH Tryz.prog Rows.tallyCountsRow.laid W) :
    Calls Tryz.prog 4 args W fun e W' => ∃ v, e = .returned v ∧ Rows.tallyCountsSpec.post enc Tryz.prog Tryz.f4 false true false false W args v W' := by
  have hW' := hW
  obtain ⟨p, q, hA0, hV, rfl, hfz, hnd⟩ := hW
  have hA : DataW.TrodAll enc Tryz.prog W 0 (fun _ => true) true Tryz.f4.params.toList args.toList ds p := hA0
  clear hA0
  rw [Tryz.params4] at hA hval
  obtain ⟨v0, vs0, d0, ds0, p0, q0, hargs, rfl, rfl, h0, r0⟩ := trodAll_cons hA
  obtain ⟨v1, vs1, d1, ds1, p1, q1, rfl, rfl, rfl, h1, r1⟩ := trodAll_cons r0
  obtain ⟨v2, vs2, d2, ds2, p2, q2, rfl, rfl, rfl, h2, r2⟩ := trodAll_cons r1
  obtain ⟨rfl, rfl, rfl⟩ := trodAll_nil r2
  obtain rfl : args = #[v0, v1, v2] := by cases args; simp_all
  obtain ⟨rfl, rfl⟩ := trodVars_none hV
  refine law_post laidOut (by kernel_rfl) rfl Tryz.underlying4 rfl rfl rfl rfl hW' ?_
  clear hW' hV hfz hnd
  obtain ⟨a0, rfl, hs0⟩ := open_shape (show ShpTT Tryz.prog 24 4 22 61 3 56 9 59 3 57 38 from ⟨⟨⟨⟨_, _, Tryz.underlying59, ⟨rfl, rfl⟩, ⟨rfl, rfl⟩⟩, Tryz.underlying3, by kernel_rfl, Tryz.underlying57, Tryz.underlying38, by kernel_rfl, by kernel_rfl, by kernel_rfl⟩, ⟨_, _, _, Tryz.underlying61, ⟨rfl, rfl⟩, ⟨rfl, rfl⟩, ⟨rfl, rfl⟩⟩, Tryz.underlying3, by kernel_rfl, Tryz.underlying56, by kernel_rfl, Tryz.underlying9, by kernel_rfl, by kernel_rfl⟩, ⟨_, _, Tryz.underlying24, ⟨rfl, rfl⟩, ⟨rfl, rfl⟩⟩, Tryz.underlying4, by kernel_rfl, Tryz.underlying22, by kernel_rfl, by kernel_rfl⟩) (hval 0 24 v0 rfl rfl) h0
  obtain ⟨a1, hs1, hv1⟩ := open_cals (show CalTT Tryz.prog 42 36 84 37 40 38 3 from ⟨⟨_, _, _, _, _, Tryz.underlying42, ⟨rfl, rfl⟩, ⟨rfl, rfl⟩, ⟨rfl, rfl⟩, ⟨rfl, rfl⟩, ⟨rfl, rfl⟩⟩, ⟨_, _, _, Tryz.underlying84, ⟨rfl, rfl⟩, ⟨rfl, rfl⟩, ⟨rfl, rfl⟩⟩, Tryz.underlying3, by kernel_rfl, Tryz.underlying36, by kernel_rfl, Tryz.underlying37, by kernel_rfl, Tryz.underlying40, Tryz.underlying38, by kernel_rfl, by kernel_rfl, by kernel_rfl, by kernel_rfl⟩) Tryz.underlying25 (hval 1 25 v1 rfl rfl) h1
  obtain ⟨a2, rfl, rfl, rfl, wf2⟩ := open_int Tryz.underlying5 (hval 2 5 v2 rfl rfl) h2
  have bd2 := wf_u8 wf2
  have hT : Tab W := fun j hj => by
    have h1 := (table hL).cell gTab j hj
    exact h1
  exact c_clearancelaw17_TallyCounts a0 v1 a1 a2 bd2 W hs0 hs1 hv1 hT
/-- The witness's arguments. -/
def wargs : Array Value := #[.agg #[.bool false, .slice none 0 0], .slice none 0 0, .int .u8 0]
/-- A world for the witness: the settled one, the listed variables holding what their initialisers lay. -/
noncomputable def laidWorld (os : Os) : World :=
  { World.holding Tryz.prog os ⟨#[], #[], []⟩ with heap := (World.holding Tryz.prog os ⟨#[], #[], []⟩).heap.modify 0 fun
      | .cells _ t frozen => .cells #[.int .u8 0, .int .u8 1, .int .u8 56, .int .u8 2, .int .u8 57, .int .u8 49, .int .u8 28, .int .u8 3, .int .u8 61, .int .u8 58, .int .u8 42, .int .u8 50, .int .u8 38, .int .u8 29, .int .u8 17, .int .u8 4, .int .u8 62, .int .u8 47, .int .u8 59, .int .u8 36, .int .u8 45, .int .u8 43, .int .u8 51, .int .u8 22, .int .u8 53, .int .u8 39, .int .u8 33, .int .u8 30, .int .u8 24, .int .u8 18, .int .u8 12, .int .u8 5, .int .u8 63, .int .u8 55, .int .u8 48, .int .u8 27, .int .u8 60, .int .u8 41, .int .u8 37, .int .u8 16, .int .u8 46, .int .u8 35, .int .u8 44, .int .u8 21, .int .u8 52, .int .u8 32, .int .u8 23, .int .u8 11, .int .u8 54, .int .u8 26, .int .u8 40, .int .u8 15, .int .u8 34, .int .u8 20, .int .u8 31, .int .u8 10, .int .u8 25, .int .u8 14, .int .u8 19, .int .u8 9, .int .u8 13, .int .u8 8, .int .u8 7, .int .u8 6] t frozen
      | o => o }
theorem laid_met (os : Os) : laidMet Tryz.prog Rows.tallyCountsRow.laid ((laidWorld os).forCall (fun _ _ => 0) ⟨#[], wargs, []⟩).memory :=
  laidMet_of_run' 8 (by kernel_rfl) (by kernel_rfl)
theorem reads (os : Os) {H : Type} (enc : TypeId × Value → H) : ∃ places, DataW.whole enc Tryz.prog ((laidWorld os).forCall (fun _ _ => 0) ⟨#[], wargs, []⟩).memory Tryz.f4.params.toList Rows.tallyCountsSpec.vars false wargs.toList 8 = some ([.agg [.lit (.bool false), .nil], .nil, .lit (.int .u8 0)], [], places) :=
  ⟨[], by kernel_rfl⟩
set_option maxRecDepth 100000 in
theorem lifted (os : Os) (started : os.Started) (H : Type) (enc : TypeId × Value → H) (F : Stop.Interp) :
    ReturnsInHanded {} Tryz.checked os 4 .any ((OpenSpec.ofChange Rows.tallyCountsSpec).preRow enc Tryz.prog Tryz.f4 Rows.tallyCountsRow.domain false Rows.tallyCountsRow.laid) (((OpenSpec.ofChange Rows.tallyCountsSpec).at F).post enc Tryz.prog Tryz.f4 false true false false) := by
  obtain ⟨places, hx⟩ := reads os enc
  refine returnsInHanded_of_row (C := Tryz.checked) (s := OpenSpec.ofChange Rows.tallyCountsSpec) own started (by kernel_rfl) Tryz.func4
    (witness_row_at (enc := enc) (C := Tryz.checked) false (laidWorld os) wargs rfl (by kernel_rfl) (by kernel_rfl) (by kernel_rfl)
      (OpenSpec.preRow_of_cond 8 hx (by kernel_rfl) (fun k hk => by cases hk) (by kernel_rfl) (laid_met os))) ?_
  intro W base args ds gs before hval hW _ hcond _ hL _ _
  exact contract H enc W base args ds gs before hval hW hL
theorem said : Rows.TallyCountsSaid :=
  OpenClaim.holds_of_cond 4 Tryz.f4 rfl rfl rfl rfl rfl rfl rfl ⟨rfl, rfl, rfl, rfl, rfl⟩ rfl rfl rfl rfl rfl (by kernel_rfl) Tryz.func4 (by kernel_rfl)
    (of_decide_eq_true (by kernel_rfl)) (by unfold Func.isWrapper; first | (rw [if_pos (by decide +kernel)]; kernel_rfl) | (rw [if_neg (by decide +kernel)]; exact ⟨rfl, rfl⟩))
    (fun os started H enc _ F => by rw [OpenClaim.pre_eq_preRow]; exact lifted os started H enc F)
theorem plain (f : FuncId) (fn : Func) (hf : Tryz.pinned.checked.prog.funcNamed "clearance/clearancelaw17.TallyCounts" = some f) (hfn : Tryz.pinned.checked.prog.funcs[f]? = some fn) :
    false = Tryz.pinned.checked.prog.looks [] ∧ ∀ (j : Nat) t, fn.params[j]? = some t → Tryz.pinned.checked.prog.wantsStandIn t = false := by
  obtain rfl : f = 4 := Option.some.inj ((show Tryz.prog.funcNamed "clearance/clearancelaw17.TallyCounts" = some 4 by kernel_rfl).symm.trans hf) |>.symm
  obtain rfl : fn = Tryz.f4 := (Option.some.inj (Tryz.func4.symm.trans hfn)).symm
  refine ⟨by kernel_rfl, fun j t ht => ?_⟩
  rw [Tryz.params4] at ht
  have hm : t ∈ (#[24, 25, 5] : Array TypeId) := Array.mem_of_getElem? ht
  have hall : ((#[24, 25, 5] : Array TypeId).toList.all fun t => !Tryz.prog.wantsStandIn t) = true := by kernel_rfl
  have := List.all_eq_true.1 hall t (by simpa using hm)
  have h2 : Tryz.prog.wantsStandIn t = false := by simpa using this
  exact h2
/-- The card. -/
theorem proved : Rows.TallyCountsCardSaid :=
  Claim7.holds_tied_plain_at .later [] _ _ _ _ said (fun _ h => by cases h) (by kernel_rfl) (fun _ h => by cases h) tallyCounts_row_tie rfl ⟨rfl, rfl⟩ (by kernel_rfl) rfl plain (by kernel_rfl)
#print axioms proved
end Go.Proofs.YtdfbimlpondblaaGreatDoor.tallyCounts
