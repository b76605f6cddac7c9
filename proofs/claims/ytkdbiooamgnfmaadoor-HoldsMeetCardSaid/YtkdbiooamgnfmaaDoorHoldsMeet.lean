/-
  The law clearancelaw19.HoldsMeet of the given program returns true whatever it is given, and leaves its arguments as they were.
  It has no condition.
-/
import Derived.Test.YtkdbiooamgnfmaaDoorCards
import Derived.Test.YtkdbiooamgnfmaaDoorTie
import Derived.Test.YtkdbiooamgnfmaaDoorSlc
import Derived.Test.YtkdbiooamgnfmaaDoorHoldsMeetPaces
import Derived.Test.YtkdbiooamgnfmaaDoorSho
import Derived.Test.YtkdbiooamgnfmaaDoorTre
import Derived.Test.YtkdbiooamgnfmaaDoorTrz
import Derived.Test.YtkdbiooamgnfmaaDoorAso
import Derived.Test.YtkdbiooamgnfmaaDoorPro
import Derived.WalkKit
import Derived.ProofKit
import Derived.OpenShut
import Derived.Deep.DeepHandedRow
import Derived.Lib.LaidTab
namespace Go.Proofs.YtkdbiooamgnfmaaDoor.holdsMeet
open Go Go.ChangeShapes Go.WideShapes Go.ChangeAt Go.RowKit Go.Proofs.YtkdbiooamgnfmaaDoor.E Go.Proofs.YtkdbiooamgnfmaaDoor.M Go.Proofs.YtkdbiooamgnfmaaDoor.W
set_option linter.unusedVariables false
theorem own : ownKnob Tryd.prog.godebug = none := by kernel_rfl
theorem laidOut : laidOutB Tryd.prog = true := by kernel_rfl
theorem gTab : Tryd.prog.globalNamed "math/bits.deBruijn64tab" = some 0 := by kernel_rfl
theorem gTabType : (Tryd.prog.globals[0]?).map (·.type) = some 144 := by kernel_rfl
theorem cells144 : Tryd.prog.cellsOf 144 = 64 := by kernel_rfl
theorem cells5 : Tryd.prog.cellsOf 5 = 1 := by kernel_rfl
/-- What the row lists: the table holds what its text lays. -/
theorem table {W : World} (h : laidMetH Tryd.prog Rows.holdsMeetRow.laid W) : Lib.TabIs Tryd.prog W "math/bits.deBruijn64tab" .u8 tztab :=
  Lib.tabIs_of_head (rest := []) gTab gTabType Tryd.underlying144 Tryd.underlying5 cells5 cells144 h
set_option maxRecDepth 100000 in
theorem contract (H : Type) (enc : TypeId × Value → H) (W : World) (base : Nat) (args : Array Value) (ds gs : List (DataW H)) (before : List MemPlace)
    (hval : ∀ (j : Nat) t v, Tryd.f4.params[j]? = some t → args[j]? = some v → Value.okWide Tryd.prog W .any base t v)
    (hW : DataW.Whole enc Tryd.prog Tryd.f4.params.toList Rows.holdsMeetSpec.vars false W args.toList ds gs before) (hL : laidMetH Tryd.prog Rows.holdsMeetRow.laid W) (hwt : (DataW.weightsEach Tryd.prog (Tryd.f4.params.toList ++ (OpenSpec.ofChange Rows.holdsMeetSpec).bare.plain.varTypes Tryd.prog) (ds ++ gs)).all (· ≤ reachBytes) = true) :
    Calls Tryd.prog 4 args W fun e W' => ∃ v, e = .returned v ∧ Rows.holdsMeetSpec.post enc Tryd.prog Tryd.f4 false true false false W args v W' := by
  have hW' := hW
  obtain ⟨p, q, hA0, hV, rfl, hfz, hnd⟩ := hW
  have hA : DataW.TrodAll enc Tryd.prog W 0 (fun _ => true) true Tryd.f4.params.toList args.toList ds p := hA0
  clear hA0
  rw [Tryd.params4] at hA hval hwt
  obtain ⟨v0, vs0, d0, ds0, p0, q0, hargs, rfl, rfl, h0, r0⟩ := trodAll_cons hA
  obtain ⟨v1, vs1, d1, ds1, p1, q1, rfl, rfl, rfl, h1, r1⟩ := trodAll_cons r0
  obtain ⟨v2, vs2, d2, ds2, p2, q2, rfl, rfl, rfl, h2, r2⟩ := trodAll_cons r1
  obtain ⟨rfl, rfl, rfl⟩ := trodAll_nil r2
  obtain rfl : args = #[v0, v1, v2] := by cases args; simp_all
  obtain ⟨rfl, rfl⟩ := trodVars_none hV
  refine law_post laidOut (by kernel_rfl) rfl Tryd.underlying4 rfl rfl rfl rfl hW' ?_
  clear hW' hV hfz hnd
  have hwt0 : (DataW.weightsEach Tryd.prog (51 :: 28 :: 28 :: ((OpenSpec.ofChange Rows.holdsMeetSpec).bare.plain.varTypes Tryd.prog)) (d0 :: d1 :: d2 :: [])).all (· ≤ reachBytes) = true := hwt
  have hw0 := weights_here hwt0
  have hwt1 := weights_next hwt0
  have hw1 := weights_here hwt1
  have hwt2 := weights_next hwt1
  have hw2 := weights_here hwt2
  obtain ⟨a0, rfl, hs0⟩ := open_prob (show PrbTT Tryd.prog 51 49 48 45 46 74 72 70 4 68 67 3 62 9 65 3 63 37 30 109 24 22 59 35 9 3 33 31 from ⟨⟨⟨⟨⟨⟨_, _, Tryd.underlying35, ⟨rfl, rfl⟩, ⟨rfl, rfl⟩⟩, Tryd.underlying3, by kernel_rfl, Tryd.underlying33, Tryd.underlying31, by kernel_rfl, by kernel_rfl, by kernel_rfl⟩, ⟨_, _, Tryd.underlying59, ⟨rfl, rfl⟩, ⟨rfl, rfl⟩⟩, Tryd.underlying9, by kernel_rfl, by kernel_rfl⟩, ⟨_, _, Tryd.underlying24, ⟨rfl, rfl⟩, ⟨rfl, rfl⟩⟩, Tryd.underlying22, by kernel_rfl, by kernel_rfl⟩, ⟨⟨_, _, _, Tryd.underlying109, ⟨rfl, rfl⟩, ⟨rfl, rfl⟩, ⟨rfl, rfl⟩⟩, by kernel_rfl⟩, ⟨_, _, _, _, _, _, _, _, Tryd.underlying37, ⟨rfl, rfl⟩, ⟨rfl, rfl⟩, ⟨rfl, rfl⟩, ⟨rfl, rfl⟩, ⟨rfl, rfl⟩, ⟨rfl, rfl⟩, ⟨rfl, rfl⟩, ⟨rfl, rfl⟩⟩, Tryd.underlying30, by kernel_rfl, by kernel_rfl⟩, ⟨⟨⟨⟨⟨⟨_, _, Tryd.underlying65, ⟨rfl, rfl⟩, ⟨rfl, rfl⟩⟩, Tryd.underlying3, by kernel_rfl, Tryd.underlying63, Tryd.underlying31, by kernel_rfl, by kernel_rfl, by kernel_rfl⟩, ⟨_, _, _, Tryd.underlying67, ⟨rfl, rfl⟩, ⟨rfl, rfl⟩, ⟨rfl, rfl⟩⟩, Tryd.underlying3, by kernel_rfl, Tryd.underlying62, by kernel_rfl, Tryd.underlying9, by kernel_rfl, by kernel_rfl⟩, ⟨_, _, Tryd.underlying70, ⟨rfl, rfl⟩, ⟨rfl, rfl⟩⟩, Tryd.underlying4, by kernel_rfl, Tryd.underlying68, by kernel_rfl, by kernel_rfl⟩, ⟨_, _, Tryd.underlying72, ⟨rfl, rfl⟩, ⟨rfl, rfl⟩⟩, by kernel_rfl⟩, ⟨⟨_, _, _, Tryd.underlying74, ⟨rfl, rfl⟩, ⟨rfl, rfl⟩, ⟨rfl, rfl⟩⟩, Tryd.underlying9, by kernel_rfl, Tryd.underlying3, by kernel_rfl, by kernel_rfl⟩, ⟨_, _, Tryd.underlying48, ⟨rfl, rfl⟩, ⟨rfl, rfl⟩⟩, Tryd.underlying45, Tryd.underlying46, by kernel_rfl, by kernel_rfl, by kernel_rfl⟩, ⟨_, _, Tryd.underlying51, ⟨rfl, rfl⟩, ⟨rfl, rfl⟩⟩, Tryd.underlying49, by kernel_rfl, by kernel_rfl⟩) (hval 0 51 v0 rfl rfl) h0
  obtain ⟨a1, rfl, hs1, hz1⟩ := open_asg (show AsgTT Tryd.prog 28 25 26 40 61 9 33 31 from ⟨⟨⟨_, _, Tryd.underlying61, ⟨rfl, rfl⟩, ⟨rfl, rfl⟩⟩, Tryd.underlying9, by kernel_rfl, Tryd.underlying33, Tryd.underlying31, by kernel_rfl, by kernel_rfl, by kernel_rfl, by kernel_rfl⟩, ⟨_, _, Tryd.underlying28, ⟨rfl, rfl⟩, ⟨rfl, rfl⟩⟩, Tryd.underlying25, Tryd.underlying26, Tryd.underlying40, by kernel_rfl, by kernel_rfl, by kernel_rfl, by kernel_rfl⟩) (hval 1 28 v1 rfl rfl) h1 hw1
  obtain ⟨a2, rfl, hs2, hz2⟩ := open_asg (show AsgTT Tryd.prog 28 25 26 40 61 9 33 31 from ⟨⟨⟨_, _, Tryd.underlying61, ⟨rfl, rfl⟩, ⟨rfl, rfl⟩⟩, Tryd.underlying9, by kernel_rfl, Tryd.underlying33, Tryd.underlying31, by kernel_rfl, by kernel_rfl, by kernel_rfl, by kernel_rfl⟩, ⟨_, _, Tryd.underlying28, ⟨rfl, rfl⟩, ⟨rfl, rfl⟩⟩, Tryd.underlying25, Tryd.underlying26, Tryd.underlying40, by kernel_rfl, by kernel_rfl, by kernel_rfl, by kernel_rfl⟩) (hval 2 28 v2 rfl rfl) h2 hw2
  have hT : Tab W := fun j hj => by
    have h1 := (table hL).cell gTab j hj
    exact h1
  exact c_clearancelaw19_HoldsMeet a0 a1 a2 hz1 hz2 W hs0 hs1 hs2 hT
/-- The witness's arguments. -/
def wargs : Array Value := #[.agg #[.slice none 0 0, .slice none 0 0, .slice none 0 0], .agg #[.slice none 0 0, .slice none 0 0], .agg #[.slice none 0 0, .slice none 0 0]]
/-- A world for the witness: the settled one, the listed variables holding what their initialisers lay. -/
noncomputable def laidWorld (os : Os) : World :=
  { World.holding Tryd.prog os ⟨#[], #[], []⟩ with heap := (World.holding Tryd.prog os ⟨#[], #[], []⟩).heap.modify 0 fun
      | .cells _ t frozen => .cells #[.int .u8 0, .int .u8 1, .int .u8 56, .int .u8 2, .int .u8 57, .int .u8 49, .int .u8 28, .int .u8 3, .int .u8 61, .int .u8 58, .int .u8 42, .int .u8 50, .int .u8 38, .int .u8 29, .int .u8 17, .int .u8 4, .int .u8 62, .int .u8 47, .int .u8 59, .int .u8 36, .int .u8 45, .int .u8 43, .int .u8 51, .int .u8 22, .int .u8 53, .int .u8 39, .int .u8 33, .int .u8 30, .int .u8 24, .int .u8 18, .int .u8 12, .int .u8 5, .int .u8 63, .int .u8 55, .int .u8 48, .int .u8 27, .int .u8 60, .int .u8 41, .int .u8 37, .int .u8 16, .int .u8 46, .int .u8 35, .int .u8 44, .int .u8 21, .int .u8 52, .int .u8 32, .int .u8 23, .int .u8 11, .int .u8 54, .int .u8 26, .int .u8 40, .int .u8 15, .int .u8 34, .int .u8 20, .int .u8 31, .int .u8 10, .int .u8 25, .int .u8 14, .int .u8 19, .int .u8 9, .int .u8 13, .int .u8 8, .int .u8 7, .int .u8 6] t frozen
      | o => o }
theorem laid_met (os : Os) : laidMet Tryd.prog Rows.holdsMeetRow.laid ((laidWorld os).forCall (fun _ _ => 0) ⟨#[], wargs, []⟩).memory :=
  laidMet_of_run' 8 (by kernel_rfl) (by kernel_rfl)
theorem reads (os : Os) {H : Type} (enc : TypeId × Value → H) : ∃ places, DataW.whole enc Tryd.prog ((laidWorld os).forCall (fun _ _ => 0) ⟨#[], wargs, []⟩).memory Tryd.f4.params.toList Rows.holdsMeetSpec.vars false wargs.toList 8 = some ([.agg [.agg [.nil, .nil], .nil], .agg [.nil, .nil], .agg [.nil, .nil]], [], places) :=
  ⟨[], by kernel_rfl⟩
set_option maxRecDepth 100000 in
theorem lifted (os : Os) (started : os.Started) (H : Type) (enc : TypeId × Value → H) (F : Stop.Interp) :
    ReturnsInHanded {} Tryd.checked os 4 .any ((OpenSpec.ofChange Rows.holdsMeetSpec).preRow enc Tryd.prog Tryd.f4 Rows.holdsMeetRow.domain false Rows.holdsMeetRow.laid) (((OpenSpec.ofChange Rows.holdsMeetSpec).at F).post enc Tryd.prog Tryd.f4 false true false false) := by
  obtain ⟨places, hx⟩ := reads os enc
  refine returnsInHanded_of_row (C := Tryd.checked) (s := OpenSpec.ofChange Rows.holdsMeetSpec) own started (by kernel_rfl) Tryd.func4
    (witness_row_at (enc := enc) (C := Tryd.checked) false (laidWorld os) wargs rfl (by kernel_rfl) (by kernel_rfl) (by kernel_rfl)
      (OpenSpec.preRow_of_cond 8 hx (by kernel_rfl) (fun k hk => by cases hk) (by kernel_rfl) (laid_met os))) ?_
  intro W base args ds gs before hval hW _ hcond hwt hL _ _
  exact contract H enc W base args ds gs before hval hW hL hwt
theorem said : Rows.HoldsMeetSaid :=
  OpenClaim.holds_of_cond 4 Tryd.f4 rfl rfl rfl rfl rfl rfl rfl ⟨rfl, rfl, rfl, rfl, rfl⟩ rfl rfl rfl rfl rfl (by kernel_rfl) Tryd.func4 (by kernel_rfl)
    (of_decide_eq_true (by kernel_rfl)) (by unfold Func.isWrapper; first | (rw [if_pos (by decide +kernel)]; kernel_rfl) | (rw [if_neg (by decide +kernel)]; exact ⟨rfl, rfl⟩))
    (fun os started H enc _ F => by rw [OpenClaim.pre_eq_preRow]; exact lifted os started H enc F)
theorem plain (f : FuncId) (fn : Func) (hf : Tryd.pinned.checked.prog.funcNamed "clearance/clearancelaw19.HoldsMeet" = some f) (hfn : Tryd.pinned.checked.prog.funcs[f]? = some fn) :
    false = Tryd.pinned.checked.prog.looks [] ∧ ∀ (j : Nat) t, fn.params[j]? = some t → Tryd.pinned.checked.prog.wantsStandIn t = false := by
  obtain rfl : f = 4 := Option.some.inj ((show Tryd.prog.funcNamed "clearance/clearancelaw19.HoldsMeet" = some 4 by kernel_rfl).symm.trans hf) |>.symm
  obtain rfl : fn = Tryd.f4 := (Option.some.inj (Tryd.func4.symm.trans hfn)).symm
  refine ⟨by kernel_rfl, fun j t ht => ?_⟩
  rw [Tryd.params4] at ht
  have hm : t ∈ (#[51, 28, 28] : Array TypeId) := Array.mem_of_getElem? ht
  have hall : ((#[51, 28, 28] : Array TypeId).toList.all fun t => !Tryd.prog.wantsStandIn t) = true := by kernel_rfl
  have := List.all_eq_true.1 hall t (by simpa using hm)
  have h2 : Tryd.prog.wantsStandIn t = false := by simpa using this
  exact h2
/-- The card. -/
theorem proved : Rows.HoldsMeetCardSaid :=
  Claim7.holds_tied_plain_at .later [] _ _ _ _ said (fun _ h => by cases h) (by kernel_rfl) (fun _ h => by cases h) holdsMeet_row_tie rfl ⟨rfl, rfl⟩ (by kernel_rfl) rfl plain (by kernel_rfl)
#print axioms proved
end Go.Proofs.YtkdbiooamgnfmaaDoor.holdsMeet
