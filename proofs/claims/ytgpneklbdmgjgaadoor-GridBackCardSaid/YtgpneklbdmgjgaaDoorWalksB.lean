/-
  The walks of the functions that the laws of this seat reach, part 2: each returns what its plain counterpart tells, and turns nothing that was there.
-/
import Derived.Test.YtgpneklbdmgjgaaDoorProg
import Derived.Test.YtgpneklbdmgjgaaDoorEnv
import Derived.Test.YtgpneklbdmgjgaaDoorPlain
import Derived.Test.YtgpneklbdmgjgaaDoorBase
import Derived.Test.YtgpneklbdmgjgaaDoorOrd
import Derived.Test.YtgpneklbdmgjgaaDoorRel
import Derived.Test.YtgpneklbdmgjgaaDoorClo
import Derived.Test.YtgpneklbdmgjgaaDoorCov
import Derived.Test.YtgpneklbdmgjgaaDoorArr
import Derived.Test.YtgpneklbdmgjgaaDoorHas
import Derived.Test.YtgpneklbdmgjgaaDoorGrd
import Derived.Test.YtgpneklbdmgjgaaDoorWalksA
namespace Go.Proofs.YtgpneklbdmgjgaaDoor.W
open Go Go.RowKit Go.Proofs.YtgpneklbdmgjgaaDoor.E Go.Proofs.YtgpneklbdmgjgaaDoor.M
set_option linter.unusedVariables false
set_option linter.unusedSimpArgs false
set_option maxRecDepth 100000

theorem c_clearancelaw03_RelateLeast (a b : Rl) (x y : Int) (w : World) (hT : Tab w) : Calls Tryd.prog 6 #[.agg (relC a), .agg (relC b), .agg #[I x, I y]] w (Pure (B true) w) := by
  have hpa := pts_bd a
  have hcn : (cloR a).n = pts a := rfl
  refine enter Tryd.func6 rfl Tryd.ntmps6 rfl ?_
  have hH := Hp.start w
  refine CW.seq ?_
  refine CW.region ?_
  refine RL.new rfl hH (f := fun b => (.pointer (some ⟨b, 0, none⟩))) (run_box (v := .agg _) rfl) ?_
  intro b3 w1 hH2
  refine RL.new rfl hH2 (f := fun b => (.pointer (some ⟨b, 0, none⟩))) (run_box (v := .agg _) rfl) ?_
  intro b6 w4 hH5
  refine RL.new rfl hH5 (f := fun b => (.pointer (some ⟨b, 0, none⟩))) (run_box (v := .agg _) rfl) ?_
  intro b9 w7 hH8
  refine RL.val rfl (run_assign (v := B false) rfl) ?_
  refine RL.nil ?_
  refine CW.seq ?_
  refine CW.region ?_
  refine RL.val rfl (run_ldRel Tryd.underlying25 rfl rfl rfl (hH8.blk (i := 2) rfl)) ?_
  refine RL.callP rfl hH8 (c_relate_Closure _  _) (run_call1 Tryd.call24 rfl) ?_
  intro w10 hH11
  refine RL.new rfl hH11 (f := fun b => (.pointer (some ⟨b, 0, none⟩))) (run_alloc zero_rel) ?_
  intro b14 w12 hH13
  refine RL.set hH13 (i := 0) rfl (run_stRel rfl rfl rfl (hH13.blk (i := 0) rfl)) ?_
  intro w15 hH16
  simp only [List.set_cons_zero, List.set_cons_succ] at hH16
  refine RL.nil ?_
  refine CW.seq ?_
  refine CW.seq ?_
  refine CW.regionD (by kernel_rfl) hH16 ?_
  intro w17 hH18
  refine AN.take 0 rfl rfl (by kernel_rfl) (by kernel_rfl) (by kernel_rfl) (hH18.sub (List.Sublist.refl _)) (fun w hS => run_ldRel Tryd.underlying25 rfl rfl rfl (hS.blk (i := 0) rfl)) ?_
  refine AN.one 1 (by kernel_rfl) ?_
  refine AO.callP rfl gnone rfl hH18 (List.Sublist.refl _) (c_relate_Closed _  _) (run_call1 Tryd.call34 rfl) ?_
  intro w19 hH20
  refine AN.take 2 rfl rfl (by kernel_rfl) (by kernel_rfl) (by kernel_rfl) (hH20.sub (List.Sublist.refl _)) (fun w hS => run_not (bT (closed_clo a))) ?_
  refine AN.take 3 rfl rfl (by kernel_rfl) (by kernel_rfl) (by kernel_rfl) (hH20.sub (List.Sublist.refl _)) (fun w hS => run_move (v := B _) rfl) ?_
  refine AN.takeG 4 rfl rfl rfl rfl (by kernel_rfl) (by kernel_rfl) (by kernel_rfl) (hH20.sub (List.Sublist.refl _)) (fun w hS => run_ldRel Tryd.underlying25 rfl rfl rfl (hS.blk (i := 3) rfl)) ?_
  refine AN.takeG 5 rfl rfl rfl rfl (by kernel_rfl) (by kernel_rfl) (by kernel_rfl) (hH20.sub (List.Sublist.refl _)) (fun w hS => run_fieldAddr Tryd.underlying27 rfl (off := 0) rfl Tryd.sizeOf3 (by decide) rfl) ?_
  refine AN.takeG 6 rfl rfl rfl rfl (by kernel_rfl) (by kernel_rfl) (by kernel_rfl) (hH20.sub (List.Sublist.refl _)) (fun w hS => run_ld Tryd.underlying3 rfl rfl (hS.cell (i := 1) rfl (v := I _) rfl)) ?_
  refine AN.takeG 7 rfl rfl rfl rfl (by kernel_rfl) (by kernel_rfl) (by kernel_rfl) (hH20.sub (List.Sublist.refl _)) (fun w hS => run_fieldAddr Tryd.underlying27 rfl (off := 1) rfl Tryd.sizeOf3 (by decide) rfl) ?_
  refine AN.takeG 8 rfl rfl rfl rfl (by kernel_rfl) (by kernel_rfl) (by kernel_rfl) (hH20.sub (List.Sublist.refl _)) (fun w hS => run_ld Tryd.underlying3 rfl rfl (hS.cell (i := 1) rfl (v := I _) rfl)) ?_
  refine AN.one 9 (by kernel_rfl) ?_
  refine AO.callP rfl (gsome rfl rfl) rfl hH20 (List.Sublist.refl _) (c_relate_Has _ _ _  _) (run_call3 Tryd.call35 rfl rfl rfl) ?_
  intro w23 hH24
  refine AN.takeG 10 rfl rfl rfl rfl (by kernel_rfl) (by kernel_rfl) (by kernel_rfl) (hH24.sub (List.Sublist.refl _)) (fun w hS => run_move (v := B _) rfl) ?_
  refine AN.split (dj := 21) rfl (fun h26 => ?_) (fun h26 => ?_)
  · refine AN.takeG 11 rfl rfl (bR (c := true) h26) rfl (by kernel_rfl) (by kernel_rfl) (by kernel_rfl) (hH24.sub (List.Sublist.refl _)) (fun w hS => run_ldRel Tryd.underlying25 rfl rfl rfl (hS.blk (i := 0) rfl)) ?_
    refine AN.takeG 12 rfl rfl (bR (c := true) h26) rfl (by kernel_rfl) (by kernel_rfl) (by kernel_rfl) (hH24.sub (List.Sublist.refl _)) (fun w hS => run_fieldAddr Tryd.underlying27 rfl (off := 0) rfl Tryd.sizeOf3 (by decide) rfl) ?_
    refine AN.takeG 13 rfl rfl (bR (c := true) h26) rfl (by kernel_rfl) (by kernel_rfl) (by kernel_rfl) (hH24.sub (List.Sublist.refl _)) (fun w hS => run_ld Tryd.underlying3 rfl rfl (hS.cell (i := 1) rfl (v := I _) rfl)) ?_
    refine AN.takeG 14 rfl rfl (bR (c := true) h26) rfl (by kernel_rfl) (by kernel_rfl) (by kernel_rfl) (hH24.sub (List.Sublist.refl _)) (fun w hS => run_fieldAddr Tryd.underlying27 rfl (off := 1) rfl Tryd.sizeOf3 (by decide) rfl) ?_
    refine AN.takeG 15 rfl rfl (bR (c := true) h26) rfl (by kernel_rfl) (by kernel_rfl) (by kernel_rfl) (hH24.sub (List.Sublist.refl _)) (fun w hS => run_ld Tryd.underlying3 rfl rfl (hS.cell (i := 1) rfl (v := I _) rfl)) ?_
    refine AN.one 16 (by kernel_rfl) ?_
    refine AO.callP rfl (gsome rfl (bR (c := true) h26)) rfl hH24 (List.Sublist.refl _) (c_relate_Has _ _ _  _) (run_call3 Tryd.call35 rfl rfl rfl) ?_
    intro w27 hH28
    refine AN.takeG 17 rfl rfl (bR (c := true) h26) rfl (by kernel_rfl) (by kernel_rfl) (by kernel_rfl) (hH28.sub (List.Sublist.refl _)) (fun w hS => run_not (bR (c := true) (clo_base ‹hasR a x y = true›))) ?_
    refine AN.takeG 18 rfl rfl rfl rfl (by kernel_rfl) (by kernel_rfl) (by kernel_rfl) (hH28.sub (List.Sublist.refl _)) (fun w hS => run_pickT (bR (c := true) h26) (v := B _) rfl) ?_
    refine AN.take 19 rfl rfl (by kernel_rfl) (by kernel_rfl) (by kernel_rfl) (hH28.sub (List.Sublist.refl _)) (fun w hS => run_pickF rfl (v := B _) rfl) ?_
    refine AN.take 20 rfl rfl (by kernel_rfl) (by kernel_rfl) (by kernel_rfl) (hH28.sub (List.Sublist.refl _)) (fun w hS => run_move (v := B _) rfl) ?_
    refine AN.takeG 21 rfl rfl rfl rfl (by kernel_rfl) (by kernel_rfl) (by kernel_rfl) (hH28.sub (List.Sublist.refl _)) (fun w hS => run_ldRel Tryd.underlying25 rfl rfl rfl (hS.blk (i := 0) rfl)) ?_
    refine AN.takeG 23 rfl rfl rfl rfl (by kernel_rfl) (by kernel_rfl) (by kernel_rfl) (hH28.sub (List.Sublist.refl _)) (fun w hS => run_ldRel Tryd.underlying25 rfl rfl rfl (hS.blk (i := 0) rfl)) ?_
    refine AN.one 22 (by kernel_rfl) ?_
    refine AO.callP rfl (gsome rfl rfl) rfl hH28 (List.Sublist.refl _) (c_relate_Closure _  _) (run_call1 Tryd.call24 rfl) ?_
    intro w30 hH31
    refine AN.one 24 (by kernel_rfl) ?_
    refine AO.callP rfl (gsome rfl rfl) rfl hH31 (List.Sublist.refl _) (c_relate_Same _ _  _) (run_call2 Tryd.call36 rfl rfl) ?_
    intro w32 hH33
    refine AN.takeG 25 rfl rfl rfl rfl (by kernel_rfl) (by kernel_rfl) (by kernel_rfl) (hH33.sub (List.Sublist.refl _)) (fun w hS => run_not (bT (clo_same a))) ?_
    refine AN.take 26 rfl rfl (by kernel_rfl) (by kernel_rfl) (by kernel_rfl) (hH33.sub (List.Sublist.refl _)) (fun w hS => run_pickF rfl (v := B _) rfl) ?_
    refine AN.done (by kernel_rfl) ?_
    refine CW.condF rfl ?_
    refine CW.skip ?_
    refine CW.seq ?_
    refine CW.seq ?_
    refine CW.region ?_
    refine RL.val rfl (run_assign (v := I 0) rfl) ?_
    refine RL.nil ?_
    refine CW.block ?_
    refine CW.loop (G := (Int)) (fun (k : Int) s' w' => (Fr [6, 8, 38, 39, 40, 41, 42, 43, 44, 45, 46, 47, 48, 49, 50, 51, 52, 53, 54, 55, 56, 57, 58, 59, 60, 61, 62, 63, 64, 65, 66, 67] _ s') ∧ (Hp w w' _) ∧ (s' 8 = I k) ∧ (0 ≤ k) ∧ (k ≤ pts a) ∧ (0 < k → b.n = (cloR a).n ∧ (plainR b).eq (cloR b)) ∧ (∀ j : Int, 0 ≤ j → j < k → (plainR a).up j.toNat &&& ~~~ b.up j.toNat = 0#64)) (fun (k : Int) => (pts a - k).toNat) (0) ⟨Fr.refl _ _, hH33, rfl, (by omega), (by omega), fun h => absurd h (by omega), fun j a b => absurd b (by omega)⟩ ?_
    rintro k sg36 w36 ⟨fr36, hH36, e8_36, h0, h1, hg, hf⟩
    have e3_36 : sg36 3 = .pointer (some ⟨_, _, none⟩) := (fr36 3 rfl).trans rfl
    have e4_36 : sg36 4 = .pointer (some ⟨_, _, none⟩) := (fr36 4 rfl).trans rfl
    have e5_36 : sg36 5 = .pointer (some ⟨_, _, none⟩) := (fr36 5 rfl).trans rfl
    have e7_36 : sg36 7 = .pointer (some ⟨_, _, none⟩) := (fr36 7 rfl).trans rfl
    refine CW.seq ?_
    refine CW.seq ?_
    refine CW.region ?_
    refine RL.val rfl (run_move e8_36) ?_
    refine RL.val rfl (run_fieldAddr Tryd.underlying25 rfl (off := 0) rfl Tryd.sizeOf3 (by decide) e7_36) ?_
    refine RL.val rfl (run_ld Tryd.underlying3 rfl rfl (hH36.cell (i := 0) rfl (relC_N _))) ?_
    refine RL.val rfl (run_lss rfl rfl) ?_
    refine RL.nil ?_
    refine CW.condP rfl (fun h38 => ?_) (fun h38 => ?_)
    · refine CW.skip ?_
      refine CW.seq ?_
      refine CW.block ?_
      refine CW.seq ?_
      refine CW.regionD (by kernel_rfl) hH36 ?_
      intro w39 hH40
      refine AN.take 0 rfl rfl (by kernel_rfl) (by kernel_rfl) (by kernel_rfl) (hH40.sub (List.Sublist.refl _)) (fun w hS => run_fieldAddr Tryd.underlying25 rfl (off := 0) rfl Tryd.sizeOf3 (by decide) e4_36) ?_
      refine AN.take 1 rfl rfl (by kernel_rfl) (by kernel_rfl) (by kernel_rfl) (hH40.sub (List.Sublist.refl _)) (fun w hS => run_ld Tryd.underlying3 rfl rfl (hS.cell (i := 2) rfl (relC_N _))) ?_
      refine AN.take 2 rfl rfl (by kernel_rfl) (by kernel_rfl) (by kernel_rfl) (hH40.sub (List.Sublist.refl _)) (fun w hS => run_fieldAddr Tryd.underlying25 rfl (off := 0) rfl Tryd.sizeOf3 (by decide) e7_36) ?_
      refine AN.take 3 rfl rfl (by kernel_rfl) (by kernel_rfl) (by kernel_rfl) (hH40.sub (List.Sublist.refl _)) (fun w hS => run_ld Tryd.underlying3 rfl rfl (hS.cell (i := 0) rfl (relC_N _))) ?_
      refine AN.take 4 rfl rfl (by kernel_rfl) (by kernel_rfl) (by kernel_rfl) (hH40.sub (List.Sublist.refl _)) (fun w hS => run_neq rfl rfl) ?_
      refine AN.take 5 rfl rfl (by kernel_rfl) (by kernel_rfl) (by kernel_rfl) (hH40.sub (List.Sublist.refl _)) (fun w hS => run_move (v := B _) rfl) ?_
      refine AN.splitP (dj := 49) rfl (fun h42 => ?_) (fun h42 => ?_)
      · refine AN.skipG 6 rfl rfl (bT h42) rfl rfl (by kernel_rfl) (by kernel_rfl) (by kernel_rfl) (hH40.sub (List.Sublist.refl _)) ?_
        refine AN.skipG 7 rfl rfl (bT h42) rfl rfl (by kernel_rfl) (by kernel_rfl) (by kernel_rfl) (hH40.sub (List.Sublist.refl _)) ?_
        refine AN.skipG 8 rfl rfl (bT h42) rfl rfl (by kernel_rfl) (by kernel_rfl) (by kernel_rfl) (hH40.sub (List.Sublist.refl _)) ?_
        refine AN.take 9 rfl rfl (by kernel_rfl) (by kernel_rfl) (by kernel_rfl) (hH40.sub (List.Sublist.refl _)) (fun w hS => run_pickT (bT h42) (v := B true) rfl) ?_
        refine AN.take 10 rfl rfl (by kernel_rfl) (by kernel_rfl) (by kernel_rfl) (hH40.sub (List.Sublist.refl _)) (fun w hS => run_move (v := B _) rfl) ?_
        refine AN.skipG 11 rfl rfl rfl rfl rfl (by kernel_rfl) (by kernel_rfl) (by kernel_rfl) (hH40.sub (List.Sublist.refl _)) ?_
        refine AN.skipG 12 rfl rfl rfl rfl rfl (by kernel_rfl) (by kernel_rfl) (by kernel_rfl) (hH40.sub (List.Sublist.refl _)) ?_
        refine AN.skipG 13 rfl rfl rfl rfl rfl (by kernel_rfl) (by kernel_rfl) (by kernel_rfl) (hH40.sub (List.Sublist.refl _)) ?_
        refine AN.skipG 14 rfl rfl rfl rfl rfl (by kernel_rfl) (by kernel_rfl) (by kernel_rfl) (hH40.sub (List.Sublist.refl _)) ?_
        refine AN.skipG 15 rfl rfl rfl rfl rfl (by kernel_rfl) (by kernel_rfl) (by kernel_rfl) (hH40.sub (List.Sublist.refl _)) ?_
        refine AN.skipG 16 rfl rfl rfl rfl rfl (by kernel_rfl) (by kernel_rfl) (by kernel_rfl) (hH40.sub (List.Sublist.refl _)) ?_
        refine AN.skipG 17 rfl rfl rfl rfl rfl (by kernel_rfl) (by kernel_rfl) (by kernel_rfl) (hH40.sub (List.Sublist.refl _)) ?_
        refine AN.skipG 18 rfl rfl rfl rfl rfl (by kernel_rfl) (by kernel_rfl) (by kernel_rfl) (hH40.sub (List.Sublist.refl _)) ?_
        refine AN.skipG 19 rfl rfl rfl rfl rfl (by kernel_rfl) (by kernel_rfl) (by kernel_rfl) (hH40.sub (List.Sublist.refl _)) ?_
        refine AN.skipG 20 rfl rfl rfl rfl rfl (by kernel_rfl) (by kernel_rfl) (by kernel_rfl) (hH40.sub (List.Sublist.refl _)) ?_
        refine AN.skipG 21 rfl rfl rfl rfl rfl (by kernel_rfl) (by kernel_rfl) (by kernel_rfl) (hH40.sub (List.Sublist.refl _)) ?_
        refine AN.take 22 rfl rfl (by kernel_rfl) (by kernel_rfl) (by kernel_rfl) (hH40.sub (List.Sublist.refl _)) (fun w hS => run_pickT rfl (v := B true) rfl) ?_
        refine AN.done (by kernel_rfl) ?_
        refine CW.condT rfl ?_
        refine CW.seq ?_
        refine CW.region ?_
        refine RL.callP rfl hH40 (c_clearancelaw03_alive   _ (hT.hp hH40)) (run_call0 Tryd.call29) ?_
        intro w43 hH44
        refine RL.val rfl (run_assign (v := B _) rfl) ?_
        refine RL.nil ?_
        refine CW.ret ?_
        refine outP1 Tryd.results6 (congrArg B ?_) hH44.below
        rfl
      · refine AN.takeG 6 rfl rfl (bF h42) rfl (by kernel_rfl) (by kernel_rfl) (by kernel_rfl) (hH40.sub (List.Sublist.refl _)) (fun w hS => run_ldRel Tryd.underlying25 rfl rfl e4_36 (hS.blk (i := 2) rfl)) ?_
        refine AN.one 7 (by kernel_rfl) ?_
        refine AO.callP rfl (gsome rfl (bF h42)) rfl hH40 (List.Sublist.refl _) (c_relate_Closed _  _) (run_call1 Tryd.call34 rfl) ?_
        intro w46 hH47
        refine AN.takeG 8 rfl rfl (bF h42) rfl (by kernel_rfl) (by kernel_rfl) (by kernel_rfl) (hH47.sub (List.Sublist.refl _)) (fun w hS => run_notP rfl) ?_
        refine AN.take 9 rfl rfl (by kernel_rfl) (by kernel_rfl) (by kernel_rfl) (hH47.sub (List.Sublist.refl _)) (fun w hS => run_pickF (bF h42) (v := B _) rfl) ?_
        refine AN.take 10 rfl rfl (by kernel_rfl) (by kernel_rfl) (by kernel_rfl) (hH47.sub (List.Sublist.refl _)) (fun w hS => run_move (v := B _) rfl) ?_
        refine AN.splitP (dj := 54) rfl (fun h51 => ?_) (fun h51 => ?_)
        · refine AN.skipG 11 rfl rfl (bT h51) rfl rfl (by kernel_rfl) (by kernel_rfl) (by kernel_rfl) (hH47.sub (List.Sublist.refl _)) ?_
          refine AN.skipG 12 rfl rfl (bT h51) rfl rfl (by kernel_rfl) (by kernel_rfl) (by kernel_rfl) (hH47.sub (List.Sublist.refl _)) ?_
          refine AN.skipG 13 rfl rfl (bT h51) rfl rfl (by kernel_rfl) (by kernel_rfl) (by kernel_rfl) (hH47.sub (List.Sublist.refl _)) ?_
          refine AN.skipG 14 rfl rfl (bT h51) rfl rfl (by kernel_rfl) (by kernel_rfl) (by kernel_rfl) (hH47.sub (List.Sublist.refl _)) ?_
          refine AN.skipG 15 rfl rfl (bT h51) rfl rfl (by kernel_rfl) (by kernel_rfl) (by kernel_rfl) (hH47.sub (List.Sublist.refl _)) ?_
          refine AN.skipG 16 rfl rfl (bT h51) rfl rfl (by kernel_rfl) (by kernel_rfl) (by kernel_rfl) (hH47.sub (List.Sublist.refl _)) ?_
          refine AN.skipG 17 rfl rfl (bT h51) rfl rfl (by kernel_rfl) (by kernel_rfl) (by kernel_rfl) (hH47.sub (List.Sublist.refl _)) ?_
          refine AN.skipG 18 rfl rfl (bT h51) rfl rfl (by kernel_rfl) (by kernel_rfl) (by kernel_rfl) (hH47.sub (List.Sublist.refl _)) ?_
          refine AN.skipG 19 rfl rfl (bT h51) rfl rfl (by kernel_rfl) (by kernel_rfl) (by kernel_rfl) (hH47.sub (List.Sublist.refl _)) ?_
          refine AN.skipG 20 rfl rfl (bT h51) rfl rfl (by kernel_rfl) (by kernel_rfl) (by kernel_rfl) (hH47.sub (List.Sublist.refl _)) ?_
          refine AN.skipG 21 rfl rfl (bT h51) rfl rfl (by kernel_rfl) (by kernel_rfl) (by kernel_rfl) (hH47.sub (List.Sublist.refl _)) ?_
          refine AN.take 22 rfl rfl (by kernel_rfl) (by kernel_rfl) (by kernel_rfl) (hH47.sub (List.Sublist.refl _)) (fun w hS => run_pickT (bT h51) (v := B true) rfl) ?_
          refine AN.done (by kernel_rfl) ?_
          refine CW.condT rfl ?_
          refine CW.seq ?_
          refine CW.region ?_
          refine RL.callP rfl hH47 (c_clearancelaw03_alive   _ (hT.hp hH47)) (run_call0 Tryd.call29) ?_
          intro w52 hH53
          refine RL.val rfl (run_assign (v := B _) rfl) ?_
          refine RL.nil ?_
          refine CW.ret ?_
          refine outP1 Tryd.results6 (congrArg B ?_) hH53.below
          rfl
        · refine AN.takeG 11 rfl rfl (bF h51) rfl (by kernel_rfl) (by kernel_rfl) (by kernel_rfl) (hH47.sub (List.Sublist.refl _)) (fun w hS => run_ldRel Tryd.underlying25 rfl rfl e3_36 (hS.blk (i := 3) rfl)) ?_
          refine AN.takeG 14 rfl rfl (bF h51) rfl (by kernel_rfl) (by kernel_rfl) (by kernel_rfl) (hH47.sub (List.Sublist.refl _)) (fun w hS => run_move e8_36) ?_
          refine AN.takeG 16 rfl rfl (bF h51) rfl (by kernel_rfl) (by kernel_rfl) (by kernel_rfl) (hH47.sub (List.Sublist.refl _)) (fun w hS => run_move e8_36) ?_
          refine AN.takeG 17 rfl rfl (bF h51) rfl (by kernel_rfl) (by kernel_rfl) (by kernel_rfl) (hH47.sub (List.Sublist.refl _)) (fun w hS => run_fieldAddr Tryd.underlying25 rfl (off := 1) rfl Tryd.sizeOf23 (by decide) e4_36) ?_
          refine AN.takeG 18 rfl rfl (bF h51) rfl (by kernel_rfl) (by kernel_rfl) (by kernel_rfl) (hH47.sub (List.Sublist.refl _)) (fun w hS => run_indexAddrA Tryd.underlying23 Tryd.sizeOf22 rfl rfl (by omega)) ?_
          refine AN.takeG 19 rfl rfl (bF h51) rfl (by kernel_rfl) (by kernel_rfl) (by kernel_rfl) (hH47.sub (List.Sublist.refl _)) (fun w hS => run_ld Tryd.underlying22 rfl rfl (hS.cell (i := 2) rfl (relC_up _ (by omega)))) ?_
          refine AN.one 12 (by kernel_rfl) ?_
          refine AO.callP rfl (gsome rfl (bF h51)) rfl hH47 (List.Sublist.refl _) (c_clearanceref03_Plain _  _) (run_call1 Tryd.call37 rfl) ?_
          intro w55 hH56
          refine AN.takeG 13 rfl rfl (bF h51) rfl (by kernel_rfl) (by kernel_rfl) (by kernel_rfl) (hH56.sub (List.Sublist.refl _)) (fun w hS => run_fieldA Tryd.underlying25 rfl Tryd.isAgg23 Tryd.sizeOf23 rfl (relC_tail _)) ?_
          refine AN.takeG 15 rfl rfl (bF h51) rfl (by kernel_rfl) (by kernel_rfl) (by kernel_rfl) (hH56.sub (List.Sublist.refl _)) (fun w hS => run_indexA Tryd.underlying23 Tryd.isAgg22 Tryd.sizeOf22 rfl rfl (by omega) (relT_at _ (by omega))) ?_
          refine AN.takeG 20 rfl rfl (bF h51) rfl (by kernel_rfl) (by kernel_rfl) (by kernel_rfl) (hH56.sub (List.Sublist.refl _)) (fun w hS => run_andNotU rfl rfl) ?_
          refine AN.takeG 21 rfl rfl (bF h51) rfl (by kernel_rfl) (by kernel_rfl) (by kernel_rfl) (hH56.sub (List.Sublist.refl _)) (fun w hS => run_neqU rfl (b := 0#64) rfl) ?_
          refine AN.take 22 rfl rfl (by kernel_rfl) (by kernel_rfl) (by kernel_rfl) (hH56.sub (List.Sublist.refl _)) (fun w hS => run_pickF (bF h51) (v := B _) rfl) ?_
          refine AN.done (by kernel_rfl) ?_
          refine CW.condP rfl (fun h58 => ?_) (fun h58 => ?_)
          · refine CW.seq ?_
            refine CW.region ?_
            refine RL.callP rfl hH56 (c_clearancelaw03_alive   _ (hT.hp hH56)) (run_call0 Tryd.call29) ?_
            intro w59 hH60
            refine RL.val rfl (run_assign (v := B _) rfl) ?_
            refine RL.nil ?_
            refine CW.ret ?_
            refine outP1 Tryd.results6 (congrArg B ?_) hH60.below
            rfl
          · refine CW.skip ?_
            refine CW.region ?_
            refine RL.val rfl (run_move e8_36) ?_
            refine RL.val rfl (run_add rfl rfl (by omega)) ?_
            refine RL.val rfl (run_assign (v := I _) rfl) ?_
            refine RL.nil ?_
            refine ⟨k + 1, ?_, (((((((((((((((((((((((((((((fr36.u rfl).u rfl).u rfl).u rfl).u rfl).u rfl).u rfl).u rfl).u rfl).u rfl).u rfl).u rfl).u rfl).u rfl).u rfl).u rfl).u rfl).u rfl).u rfl).u rfl).u rfl).u rfl).u rfl).u rfl).u rfl).u rfl).u rfl).u rfl).u rfl).u rfl, hH56, (congrArg I (by first | rfl | omega)), ?_, ?_, ?_, ?_⟩
            · ((try dsimp only); omega)
            · omega
            · omega
            · exact fun _ => ⟨Decidable.of_not_not ‹_›, Decidable.of_not_not ‹_›⟩
            · exact fun j u v => if e : j = k then e ▸ Decidable.of_not_not ‹_› else hf j u (by omega)
    · refine CW.exit (id := 0) rfl ?_
      refine CW.seq ?_
      refine CW.region ?_
      refine RL.val rfl (run_ldRel Tryd.underlying25 rfl rfl e7_36 (hH36.blk (i := 0) rfl)) ?_
      refine RL.val rfl (run_fieldAddr Tryd.underlying27 rfl (off := 0) rfl Tryd.sizeOf3 (by decide) e5_36) ?_
      refine RL.val rfl (run_ld Tryd.underlying3 rfl rfl (hH36.cell (i := 1) rfl (v := I _) rfl)) ?_
      refine RL.val rfl (run_fieldAddr Tryd.underlying27 rfl (off := 1) rfl Tryd.sizeOf3 (by decide) e5_36) ?_
      refine RL.val rfl (run_ld Tryd.underlying3 rfl rfl (hH36.cell (i := 1) rfl (v := I _) rfl)) ?_
      refine RL.callP rfl hH36 (c_relate_Has _ _ _  _) (run_call3 Tryd.call35 rfl rfl rfl) ?_
      intro w62 hH63
      refine RL.val rfl (run_not rfl) ?_
      refine RL.val rfl (run_move (v := B _) rfl) ?_
      refine RL.split (dj := 75) rfl (fun h66 => ?_) (fun h66 => ?_)
      · refine RL.gF rfl rfl (bR (c := true) h66) rfl ?_
        refine RL.gF rfl rfl (bR (c := true) h66) rfl ?_
        refine RL.gF rfl rfl (bR (c := true) h66) rfl ?_
        refine RL.gF rfl rfl (bR (c := true) h66) rfl ?_
        refine RL.gF rfl rfl (bR (c := true) h66) rfl ?_
        refine RL.gF rfl rfl (bR (c := true) h66) rfl ?_
        refine RL.val rfl (run_pickT (bR (c := true) h66) (v := B true) rfl) ?_
        refine RL.val rfl (run_move (v := B _) rfl) ?_
        refine RL.gT rfl rfl ?_
        refine RL.callP rfl hH63 (c_clearancelaw03_alive   _ (hT.hp hH63)) (run_call0 Tryd.call29) ?_
        intro w67 hH68
        refine RL.val rfl (run_pickT rfl (v := B _) rfl) ?_
        refine RL.val rfl (run_assign (v := B _) rfl) ?_
        refine RL.nil ?_
        refine CW.ret ?_
        refine outP1 Tryd.results6 (congrArg B ?_) hH68.below
        rfl
      · refine RL.gT rfl (bR (c := false) h66) ?_
        refine RL.val rfl (run_ldRel Tryd.underlying25 rfl rfl e4_36 (hH63.blk (i := 2) rfl)) ?_
        refine RL.gT rfl (bR (c := false) h66) ?_
        refine RL.val rfl (run_fieldAddr Tryd.underlying27 rfl (off := 0) rfl Tryd.sizeOf3 (by decide) e5_36) ?_
        refine RL.gT rfl (bR (c := false) h66) ?_
        refine RL.val rfl (run_ld Tryd.underlying3 rfl rfl (hH63.cell (i := 1) rfl (v := I _) rfl)) ?_
        refine RL.gT rfl (bR (c := false) h66) ?_
        refine RL.val rfl (run_fieldAddr Tryd.underlying27 rfl (off := 1) rfl Tryd.sizeOf3 (by decide) e5_36) ?_
        refine RL.gT rfl (bR (c := false) h66) ?_
        refine RL.val rfl (run_ld Tryd.underlying3 rfl rfl (hH63.cell (i := 1) rfl (v := I _) rfl)) ?_
        refine RL.gT rfl (bR (c := false) h66) ?_
        refine RL.callP rfl hH63 (c_relate_Has _ _ _  _) (run_call3 Tryd.call35 rfl rfl rfl) ?_
        intro w70 hH71
        refine RL.val rfl (run_pickF (bR (c := false) h66) (v := B _) rfl) ?_
        refine RL.val rfl (run_move (v := B _) rfl) ?_
        refine RL.gT rfl (bR (c := true) (least_all ‹_› hg hf (nf ‹_›))) ?_
        refine RL.callP rfl hH71 (c_clearancelaw03_alive   _ (hT.hp hH71)) (run_call0 Tryd.call29) ?_
        intro w73 hH74
        refine RL.val rfl (run_pickT (bR (c := true) (least_all ‹_› hg hf (nf ‹_›))) (v := B _) rfl) ?_
        refine RL.val rfl (run_assign (v := B _) rfl) ?_
        refine RL.nil ?_
        refine CW.ret ?_
        refine outP1 Tryd.results6 (congrArg B ?_) hH74.below
        rfl
  · refine AN.skipG 11 rfl rfl (bR (c := false) h26) rfl rfl (by kernel_rfl) (by kernel_rfl) (by kernel_rfl) (hH24.sub (List.Sublist.refl _)) ?_
    refine AN.skipG 12 rfl rfl (bR (c := false) h26) rfl rfl (by kernel_rfl) (by kernel_rfl) (by kernel_rfl) (hH24.sub (List.Sublist.refl _)) ?_
    refine AN.skipG 13 rfl rfl (bR (c := false) h26) rfl rfl (by kernel_rfl) (by kernel_rfl) (by kernel_rfl) (hH24.sub (List.Sublist.refl _)) ?_
    refine AN.skipG 14 rfl rfl (bR (c := false) h26) rfl rfl (by kernel_rfl) (by kernel_rfl) (by kernel_rfl) (hH24.sub (List.Sublist.refl _)) ?_
    refine AN.skipG 15 rfl rfl (bR (c := false) h26) rfl rfl (by kernel_rfl) (by kernel_rfl) (by kernel_rfl) (hH24.sub (List.Sublist.refl _)) ?_
    refine AN.skipG 16 rfl rfl (bR (c := false) h26) rfl rfl (by kernel_rfl) (by kernel_rfl) (by kernel_rfl) (hH24.sub (List.Sublist.refl _)) ?_
    refine AN.skipG 17 rfl rfl (bR (c := false) h26) rfl rfl (by kernel_rfl) (by kernel_rfl) (by kernel_rfl) (hH24.sub (List.Sublist.refl _)) ?_
    refine AN.takeG 18 rfl rfl rfl rfl (by kernel_rfl) (by kernel_rfl) (by kernel_rfl) (hH24.sub (List.Sublist.refl _)) (fun w hS => run_pickF (bR (c := false) h26) (v := B false) rfl) ?_
    refine AN.take 19 rfl rfl (by kernel_rfl) (by kernel_rfl) (by kernel_rfl) (hH24.sub (List.Sublist.refl _)) (fun w hS => run_pickF rfl (v := B _) rfl) ?_
    refine AN.take 20 rfl rfl (by kernel_rfl) (by kernel_rfl) (by kernel_rfl) (hH24.sub (List.Sublist.refl _)) (fun w hS => run_move (v := B _) rfl) ?_
    refine AN.takeG 21 rfl rfl rfl rfl (by kernel_rfl) (by kernel_rfl) (by kernel_rfl) (hH24.sub (List.Sublist.refl _)) (fun w hS => run_ldRel Tryd.underlying25 rfl rfl rfl (hS.blk (i := 0) rfl)) ?_
    refine AN.takeG 23 rfl rfl rfl rfl (by kernel_rfl) (by kernel_rfl) (by kernel_rfl) (hH24.sub (List.Sublist.refl _)) (fun w hS => run_ldRel Tryd.underlying25 rfl rfl rfl (hS.blk (i := 0) rfl)) ?_
    refine AN.one 22 (by kernel_rfl) ?_
    refine AO.callP rfl (gsome rfl rfl) rfl hH24 (List.Sublist.refl _) (c_relate_Closure _  _) (run_call1 Tryd.call24 rfl) ?_
    intro w76 hH77
    refine AN.one 24 (by kernel_rfl) ?_
    refine AO.callP rfl (gsome rfl rfl) rfl hH77 (List.Sublist.refl _) (c_relate_Same _ _  _) (run_call2 Tryd.call36 rfl rfl) ?_
    intro w78 hH79
    refine AN.takeG 25 rfl rfl rfl rfl (by kernel_rfl) (by kernel_rfl) (by kernel_rfl) (hH79.sub (List.Sublist.refl _)) (fun w hS => run_not (bT (clo_same a))) ?_
    refine AN.take 26 rfl rfl (by kernel_rfl) (by kernel_rfl) (by kernel_rfl) (hH79.sub (List.Sublist.refl _)) (fun w hS => run_pickF rfl (v := B _) rfl) ?_
    refine AN.done (by kernel_rfl) ?_
    refine CW.condF rfl ?_
    refine CW.skip ?_
    refine CW.seq ?_
    refine CW.seq ?_
    refine CW.region ?_
    refine RL.val rfl (run_assign (v := I 0) rfl) ?_
    refine RL.nil ?_
    refine CW.block ?_
    refine CW.loop (G := (Int)) (fun (k : Int) s' w' => (Fr [6, 8, 38, 39, 40, 41, 42, 43, 44, 45, 46, 47, 48, 49, 50, 51, 52, 53, 54, 55, 56, 57, 58, 59, 60, 61, 62, 63, 64, 65, 66, 67] _ s') ∧ (Hp w w' _) ∧ (s' 8 = I k) ∧ (0 ≤ k) ∧ (k ≤ pts a) ∧ (0 < k → b.n = (cloR a).n ∧ (plainR b).eq (cloR b)) ∧ (∀ j : Int, 0 ≤ j → j < k → (plainR a).up j.toNat &&& ~~~ b.up j.toNat = 0#64)) (fun (k : Int) => (pts a - k).toNat) (0) ⟨Fr.refl _ _, hH79, rfl, (by omega), (by omega), fun h => absurd h (by omega), fun j a b => absurd b (by omega)⟩ ?_
    rintro k sg82 w82 ⟨fr82, hH82, e8_82, h0, h1, hg, hf⟩
    have e3_82 : sg82 3 = .pointer (some ⟨_, _, none⟩) := (fr82 3 rfl).trans rfl
    have e4_82 : sg82 4 = .pointer (some ⟨_, _, none⟩) := (fr82 4 rfl).trans rfl
    have e5_82 : sg82 5 = .pointer (some ⟨_, _, none⟩) := (fr82 5 rfl).trans rfl
    have e7_82 : sg82 7 = .pointer (some ⟨_, _, none⟩) := (fr82 7 rfl).trans rfl
    refine CW.seq ?_
    refine CW.seq ?_
    refine CW.region ?_
    refine RL.val rfl (run_move e8_82) ?_
    refine RL.val rfl (run_fieldAddr Tryd.underlying25 rfl (off := 0) rfl Tryd.sizeOf3 (by decide) e7_82) ?_
    refine RL.val rfl (run_ld Tryd.underlying3 rfl rfl (hH82.cell (i := 0) rfl (relC_N _))) ?_
    refine RL.val rfl (run_lss rfl rfl) ?_
    refine RL.nil ?_
    refine CW.condP rfl (fun h84 => ?_) (fun h84 => ?_)
    · refine CW.skip ?_
      refine CW.seq ?_
      refine CW.block ?_
      refine CW.seq ?_
      refine CW.regionD (by kernel_rfl) hH82 ?_
      intro w85 hH86
      refine AN.take 0 rfl rfl (by kernel_rfl) (by kernel_rfl) (by kernel_rfl) (hH86.sub (List.Sublist.refl _)) (fun w hS => run_fieldAddr Tryd.underlying25 rfl (off := 0) rfl Tryd.sizeOf3 (by decide) e4_82) ?_
      refine AN.take 1 rfl rfl (by kernel_rfl) (by kernel_rfl) (by kernel_rfl) (hH86.sub (List.Sublist.refl _)) (fun w hS => run_ld Tryd.underlying3 rfl rfl (hS.cell (i := 2) rfl (relC_N _))) ?_
      refine AN.take 2 rfl rfl (by kernel_rfl) (by kernel_rfl) (by kernel_rfl) (hH86.sub (List.Sublist.refl _)) (fun w hS => run_fieldAddr Tryd.underlying25 rfl (off := 0) rfl Tryd.sizeOf3 (by decide) e7_82) ?_
      refine AN.take 3 rfl rfl (by kernel_rfl) (by kernel_rfl) (by kernel_rfl) (hH86.sub (List.Sublist.refl _)) (fun w hS => run_ld Tryd.underlying3 rfl rfl (hS.cell (i := 0) rfl (relC_N _))) ?_
      refine AN.take 4 rfl rfl (by kernel_rfl) (by kernel_rfl) (by kernel_rfl) (hH86.sub (List.Sublist.refl _)) (fun w hS => run_neq rfl rfl) ?_
      refine AN.take 5 rfl rfl (by kernel_rfl) (by kernel_rfl) (by kernel_rfl) (hH86.sub (List.Sublist.refl _)) (fun w hS => run_move (v := B _) rfl) ?_
      refine AN.splitP (dj := 49) rfl (fun h88 => ?_) (fun h88 => ?_)
      · refine AN.skipG 6 rfl rfl (bT h88) rfl rfl (by kernel_rfl) (by kernel_rfl) (by kernel_rfl) (hH86.sub (List.Sublist.refl _)) ?_
        refine AN.skipG 7 rfl rfl (bT h88) rfl rfl (by kernel_rfl) (by kernel_rfl) (by kernel_rfl) (hH86.sub (List.Sublist.refl _)) ?_
        refine AN.skipG 8 rfl rfl (bT h88) rfl rfl (by kernel_rfl) (by kernel_rfl) (by kernel_rfl) (hH86.sub (List.Sublist.refl _)) ?_
        refine AN.take 9 rfl rfl (by kernel_rfl) (by kernel_rfl) (by kernel_rfl) (hH86.sub (List.Sublist.refl _)) (fun w hS => run_pickT (bT h88) (v := B true) rfl) ?_
        refine AN.take 10 rfl rfl (by kernel_rfl) (by kernel_rfl) (by kernel_rfl) (hH86.sub (List.Sublist.refl _)) (fun w hS => run_move (v := B _) rfl) ?_
        refine AN.skipG 11 rfl rfl rfl rfl rfl (by kernel_rfl) (by kernel_rfl) (by kernel_rfl) (hH86.sub (List.Sublist.refl _)) ?_
        refine AN.skipG 12 rfl rfl rfl rfl rfl (by kernel_rfl) (by kernel_rfl) (by kernel_rfl) (hH86.sub (List.Sublist.refl _)) ?_
        refine AN.skipG 13 rfl rfl rfl rfl rfl (by kernel_rfl) (by kernel_rfl) (by kernel_rfl) (hH86.sub (List.Sublist.refl _)) ?_
        refine AN.skipG 14 rfl rfl rfl rfl rfl (by kernel_rfl) (by kernel_rfl) (by kernel_rfl) (hH86.sub (List.Sublist.refl _)) ?_
        refine AN.skipG 15 rfl rfl rfl rfl rfl (by kernel_rfl) (by kernel_rfl) (by kernel_rfl) (hH86.sub (List.Sublist.refl _)) ?_
        refine AN.skipG 16 rfl rfl rfl rfl rfl (by kernel_rfl) (by kernel_rfl) (by kernel_rfl) (hH86.sub (List.Sublist.refl _)) ?_
        refine AN.skipG 17 rfl rfl rfl rfl rfl (by kernel_rfl) (by kernel_rfl) (by kernel_rfl) (hH86.sub (List.Sublist.refl _)) ?_
        refine AN.skipG 18 rfl rfl rfl rfl rfl (by kernel_rfl) (by kernel_rfl) (by kernel_rfl) (hH86.sub (List.Sublist.refl _)) ?_
        refine AN.skipG 19 rfl rfl rfl rfl rfl (by kernel_rfl) (by kernel_rfl) (by kernel_rfl) (hH86.sub (List.Sublist.refl _)) ?_
        refine AN.skipG 20 rfl rfl rfl rfl rfl (by kernel_rfl) (by kernel_rfl) (by kernel_rfl) (hH86.sub (List.Sublist.refl _)) ?_
        refine AN.skipG 21 rfl rfl rfl rfl rfl (by kernel_rfl) (by kernel_rfl) (by kernel_rfl) (hH86.sub (List.Sublist.refl _)) ?_
        refine AN.take 22 rfl rfl (by kernel_rfl) (by kernel_rfl) (by kernel_rfl) (hH86.sub (List.Sublist.refl _)) (fun w hS => run_pickT rfl (v := B true) rfl) ?_
        refine AN.done (by kernel_rfl) ?_
        refine CW.condT rfl ?_
        refine CW.seq ?_
        refine CW.region ?_
        refine RL.callP rfl hH86 (c_clearancelaw03_alive   _ (hT.hp hH86)) (run_call0 Tryd.call29) ?_
        intro w89 hH90
        refine RL.val rfl (run_assign (v := B _) rfl) ?_
        refine RL.nil ?_
        refine CW.ret ?_
        refine outP1 Tryd.results6 (congrArg B ?_) hH90.below
        rfl
      · refine AN.takeG 6 rfl rfl (bF h88) rfl (by kernel_rfl) (by kernel_rfl) (by kernel_rfl) (hH86.sub (List.Sublist.refl _)) (fun w hS => run_ldRel Tryd.underlying25 rfl rfl e4_82 (hS.blk (i := 2) rfl)) ?_
        refine AN.one 7 (by kernel_rfl) ?_
        refine AO.callP rfl (gsome rfl (bF h88)) rfl hH86 (List.Sublist.refl _) (c_relate_Closed _  _) (run_call1 Tryd.call34 rfl) ?_
        intro w92 hH93
        refine AN.takeG 8 rfl rfl (bF h88) rfl (by kernel_rfl) (by kernel_rfl) (by kernel_rfl) (hH93.sub (List.Sublist.refl _)) (fun w hS => run_notP rfl) ?_
        refine AN.take 9 rfl rfl (by kernel_rfl) (by kernel_rfl) (by kernel_rfl) (hH93.sub (List.Sublist.refl _)) (fun w hS => run_pickF (bF h88) (v := B _) rfl) ?_
        refine AN.take 10 rfl rfl (by kernel_rfl) (by kernel_rfl) (by kernel_rfl) (hH93.sub (List.Sublist.refl _)) (fun w hS => run_move (v := B _) rfl) ?_
        refine AN.splitP (dj := 54) rfl (fun h97 => ?_) (fun h97 => ?_)
        · refine AN.skipG 11 rfl rfl (bT h97) rfl rfl (by kernel_rfl) (by kernel_rfl) (by kernel_rfl) (hH93.sub (List.Sublist.refl _)) ?_
          refine AN.skipG 12 rfl rfl (bT h97) rfl rfl (by kernel_rfl) (by kernel_rfl) (by kernel_rfl) (hH93.sub (List.Sublist.refl _)) ?_
          refine AN.skipG 13 rfl rfl (bT h97) rfl rfl (by kernel_rfl) (by kernel_rfl) (by kernel_rfl) (hH93.sub (List.Sublist.refl _)) ?_
          refine AN.skipG 14 rfl rfl (bT h97) rfl rfl (by kernel_rfl) (by kernel_rfl) (by kernel_rfl) (hH93.sub (List.Sublist.refl _)) ?_
          refine AN.skipG 15 rfl rfl (bT h97) rfl rfl (by kernel_rfl) (by kernel_rfl) (by kernel_rfl) (hH93.sub (List.Sublist.refl _)) ?_
          refine AN.skipG 16 rfl rfl (bT h97) rfl rfl (by kernel_rfl) (by kernel_rfl) (by kernel_rfl) (hH93.sub (List.Sublist.refl _)) ?_
          refine AN.skipG 17 rfl rfl (bT h97) rfl rfl (by kernel_rfl) (by kernel_rfl) (by kernel_rfl) (hH93.sub (List.Sublist.refl _)) ?_
          refine AN.skipG 18 rfl rfl (bT h97) rfl rfl (by kernel_rfl) (by kernel_rfl) (by kernel_rfl) (hH93.sub (List.Sublist.refl _)) ?_
          refine AN.skipG 19 rfl rfl (bT h97) rfl rfl (by kernel_rfl) (by kernel_rfl) (by kernel_rfl) (hH93.sub (List.Sublist.refl _)) ?_
          refine AN.skipG 20 rfl rfl (bT h97) rfl rfl (by kernel_rfl) (by kernel_rfl) (by kernel_rfl) (hH93.sub (List.Sublist.refl _)) ?_
          refine AN.skipG 21 rfl rfl (bT h97) rfl rfl (by kernel_rfl) (by kernel_rfl) (by kernel_rfl) (hH93.sub (List.Sublist.refl _)) ?_
          refine AN.take 22 rfl rfl (by kernel_rfl) (by kernel_rfl) (by kernel_rfl) (hH93.sub (List.Sublist.refl _)) (fun w hS => run_pickT (bT h97) (v := B true) rfl) ?_
          refine AN.done (by kernel_rfl) ?_
          refine CW.condT rfl ?_
          refine CW.seq ?_
          refine CW.region ?_
          refine RL.callP rfl hH93 (c_clearancelaw03_alive   _ (hT.hp hH93)) (run_call0 Tryd.call29) ?_
          intro w98 hH99
          refine RL.val rfl (run_assign (v := B _) rfl) ?_
          refine RL.nil ?_
          refine CW.ret ?_
          refine outP1 Tryd.results6 (congrArg B ?_) hH99.below
          rfl
        · refine AN.takeG 11 rfl rfl (bF h97) rfl (by kernel_rfl) (by kernel_rfl) (by kernel_rfl) (hH93.sub (List.Sublist.refl _)) (fun w hS => run_ldRel Tryd.underlying25 rfl rfl e3_82 (hS.blk (i := 3) rfl)) ?_
          refine AN.takeG 14 rfl rfl (bF h97) rfl (by kernel_rfl) (by kernel_rfl) (by kernel_rfl) (hH93.sub (List.Sublist.refl _)) (fun w hS => run_move e8_82) ?_
          refine AN.takeG 16 rfl rfl (bF h97) rfl (by kernel_rfl) (by kernel_rfl) (by kernel_rfl) (hH93.sub (List.Sublist.refl _)) (fun w hS => run_move e8_82) ?_
          refine AN.takeG 17 rfl rfl (bF h97) rfl (by kernel_rfl) (by kernel_rfl) (by kernel_rfl) (hH93.sub (List.Sublist.refl _)) (fun w hS => run_fieldAddr Tryd.underlying25 rfl (off := 1) rfl Tryd.sizeOf23 (by decide) e4_82) ?_
          refine AN.takeG 18 rfl rfl (bF h97) rfl (by kernel_rfl) (by kernel_rfl) (by kernel_rfl) (hH93.sub (List.Sublist.refl _)) (fun w hS => run_indexAddrA Tryd.underlying23 Tryd.sizeOf22 rfl rfl (by omega)) ?_
          refine AN.takeG 19 rfl rfl (bF h97) rfl (by kernel_rfl) (by kernel_rfl) (by kernel_rfl) (hH93.sub (List.Sublist.refl _)) (fun w hS => run_ld Tryd.underlying22 rfl rfl (hS.cell (i := 2) rfl (relC_up _ (by omega)))) ?_
          refine AN.one 12 (by kernel_rfl) ?_
          refine AO.callP rfl (gsome rfl (bF h97)) rfl hH93 (List.Sublist.refl _) (c_clearanceref03_Plain _  _) (run_call1 Tryd.call37 rfl) ?_
          intro w101 hH102
          refine AN.takeG 13 rfl rfl (bF h97) rfl (by kernel_rfl) (by kernel_rfl) (by kernel_rfl) (hH102.sub (List.Sublist.refl _)) (fun w hS => run_fieldA Tryd.underlying25 rfl Tryd.isAgg23 Tryd.sizeOf23 rfl (relC_tail _)) ?_
          refine AN.takeG 15 rfl rfl (bF h97) rfl (by kernel_rfl) (by kernel_rfl) (by kernel_rfl) (hH102.sub (List.Sublist.refl _)) (fun w hS => run_indexA Tryd.underlying23 Tryd.isAgg22 Tryd.sizeOf22 rfl rfl (by omega) (relT_at _ (by omega))) ?_
          refine AN.takeG 20 rfl rfl (bF h97) rfl (by kernel_rfl) (by kernel_rfl) (by kernel_rfl) (hH102.sub (List.Sublist.refl _)) (fun w hS => run_andNotU rfl rfl) ?_
          refine AN.takeG 21 rfl rfl (bF h97) rfl (by kernel_rfl) (by kernel_rfl) (by kernel_rfl) (hH102.sub (List.Sublist.refl _)) (fun w hS => run_neqU rfl (b := 0#64) rfl) ?_
          refine AN.take 22 rfl rfl (by kernel_rfl) (by kernel_rfl) (by kernel_rfl) (hH102.sub (List.Sublist.refl _)) (fun w hS => run_pickF (bF h97) (v := B _) rfl) ?_
          refine AN.done (by kernel_rfl) ?_
          refine CW.condP rfl (fun h104 => ?_) (fun h104 => ?_)
          · refine CW.seq ?_
            refine CW.region ?_
            refine RL.callP rfl hH102 (c_clearancelaw03_alive   _ (hT.hp hH102)) (run_call0 Tryd.call29) ?_
            intro w105 hH106
            refine RL.val rfl (run_assign (v := B _) rfl) ?_
            refine RL.nil ?_
            refine CW.ret ?_
            refine outP1 Tryd.results6 (congrArg B ?_) hH106.below
            rfl
          · refine CW.skip ?_
            refine CW.region ?_
            refine RL.val rfl (run_move e8_82) ?_
            refine RL.val rfl (run_add rfl rfl (by omega)) ?_
            refine RL.val rfl (run_assign (v := I _) rfl) ?_
            refine RL.nil ?_
            refine ⟨k + 1, ?_, (((((((((((((((((((((((((((((fr82.u rfl).u rfl).u rfl).u rfl).u rfl).u rfl).u rfl).u rfl).u rfl).u rfl).u rfl).u rfl).u rfl).u rfl).u rfl).u rfl).u rfl).u rfl).u rfl).u rfl).u rfl).u rfl).u rfl).u rfl).u rfl).u rfl).u rfl).u rfl).u rfl).u rfl, hH102, (congrArg I (by first | rfl | omega)), ?_, ?_, ?_, ?_⟩
            · ((try dsimp only); omega)
            · omega
            · omega
            · exact fun _ => ⟨Decidable.of_not_not ‹_›, Decidable.of_not_not ‹_›⟩
            · exact fun j u v => if e : j = k then e ▸ Decidable.of_not_not ‹_› else hf j u (by omega)
    · refine CW.exit (id := 0) rfl ?_
      refine CW.seq ?_
      refine CW.region ?_
      refine RL.val rfl (run_ldRel Tryd.underlying25 rfl rfl e7_82 (hH82.blk (i := 0) rfl)) ?_
      refine RL.val rfl (run_fieldAddr Tryd.underlying27 rfl (off := 0) rfl Tryd.sizeOf3 (by decide) e5_82) ?_
      refine RL.val rfl (run_ld Tryd.underlying3 rfl rfl (hH82.cell (i := 1) rfl (v := I _) rfl)) ?_
      refine RL.val rfl (run_fieldAddr Tryd.underlying27 rfl (off := 1) rfl Tryd.sizeOf3 (by decide) e5_82) ?_
      refine RL.val rfl (run_ld Tryd.underlying3 rfl rfl (hH82.cell (i := 1) rfl (v := I _) rfl)) ?_
      refine RL.callP rfl hH82 (c_relate_Has _ _ _  _) (run_call3 Tryd.call35 rfl rfl rfl) ?_
      intro w108 hH109
      refine RL.val rfl (run_not rfl) ?_
      refine RL.val rfl (run_move (v := B _) rfl) ?_
      refine RL.split (dj := 75) rfl (fun h112 => ?_) (fun h112 => ?_)
      · refine RL.gF rfl rfl (bR (c := true) h112) rfl ?_
        refine RL.gF rfl rfl (bR (c := true) h112) rfl ?_
        refine RL.gF rfl rfl (bR (c := true) h112) rfl ?_
        refine RL.gF rfl rfl (bR (c := true) h112) rfl ?_
        refine RL.gF rfl rfl (bR (c := true) h112) rfl ?_
        refine RL.gF rfl rfl (bR (c := true) h112) rfl ?_
        refine RL.val rfl (run_pickT (bR (c := true) h112) (v := B true) rfl) ?_
        refine RL.val rfl (run_move (v := B _) rfl) ?_
        refine RL.gT rfl rfl ?_
        refine RL.callP rfl hH109 (c_clearancelaw03_alive   _ (hT.hp hH109)) (run_call0 Tryd.call29) ?_
        intro w113 hH114
        refine RL.val rfl (run_pickT rfl (v := B _) rfl) ?_
        refine RL.val rfl (run_assign (v := B _) rfl) ?_
        refine RL.nil ?_
        refine CW.ret ?_
        refine outP1 Tryd.results6 (congrArg B ?_) hH114.below
        rfl
      · refine RL.gT rfl (bR (c := false) h112) ?_
        refine RL.val rfl (run_ldRel Tryd.underlying25 rfl rfl e4_82 (hH109.blk (i := 2) rfl)) ?_
        refine RL.gT rfl (bR (c := false) h112) ?_
        refine RL.val rfl (run_fieldAddr Tryd.underlying27 rfl (off := 0) rfl Tryd.sizeOf3 (by decide) e5_82) ?_
        refine RL.gT rfl (bR (c := false) h112) ?_
        refine RL.val rfl (run_ld Tryd.underlying3 rfl rfl (hH109.cell (i := 1) rfl (v := I _) rfl)) ?_
        refine RL.gT rfl (bR (c := false) h112) ?_
        refine RL.val rfl (run_fieldAddr Tryd.underlying27 rfl (off := 1) rfl Tryd.sizeOf3 (by decide) e5_82) ?_
        refine RL.gT rfl (bR (c := false) h112) ?_
        refine RL.val rfl (run_ld Tryd.underlying3 rfl rfl (hH109.cell (i := 1) rfl (v := I _) rfl)) ?_
        refine RL.gT rfl (bR (c := false) h112) ?_
        refine RL.callP rfl hH109 (c_relate_Has _ _ _  _) (run_call3 Tryd.call35 rfl rfl rfl) ?_
        intro w116 hH117
        refine RL.val rfl (run_pickF (bR (c := false) h112) (v := B _) rfl) ?_
        refine RL.val rfl (run_move (v := B _) rfl) ?_
        refine RL.gT rfl (bR (c := true) (least_all ‹_› hg hf (nf ‹_›))) ?_
        refine RL.callP rfl hH117 (c_clearancelaw03_alive   _ (hT.hp hH117)) (run_call0 Tryd.call29) ?_
        intro w119 hH120
        refine RL.val rfl (run_pickT (bR (c := true) (least_all ‹_› hg hf (nf ‹_›))) (v := B _) rfl) ?_
        refine RL.val rfl (run_assign (v := B _) rfl) ?_
        refine RL.nil ?_
        refine CW.ret ?_
        refine outP1 Tryd.results6 (congrArg B ?_) hH120.below
        rfl

theorem c_clearanceref03_Order (r : Rl) (w : World) : Calls Tryd.prog 75 #[.agg (relC r)] w (Pure (B (orderB r)) w) := by
  have hp := pts_bd r
  refine enter Tryd.func75 rfl Tryd.ntmps75 rfl ?_
  have hH := Hp.start w
  refine CW.seq ?_
  refine CW.region ?_
  refine RL.new rfl hH (f := fun b => (.pointer (some ⟨b, 0, none⟩))) (run_box (v := .agg _) rfl) ?_
  intro b3 w1 hH2
  refine RL.val rfl (run_assign (v := B false) rfl) ?_
  refine RL.nil ?_
  refine CW.seq ?_
  refine CW.seq ?_
  refine CW.region ?_
  refine RL.val rfl (run_assign (v := I 0) rfl) ?_
  refine RL.nil ?_
  refine CW.block ?_
  refine CW.loop (G := (Int)) (fun (k : Int) s' w' => (Fr [2, 3, 4, 5, 6, 7, 8, 9, 10, 11, 12, 13, 14, 15, 16, 17, 18, 19, 20, 21, 22, 23, 24, 25] _ s') ∧ (Hp w w' _) ∧ (s' 3 = I k) ∧ (0 ≤ k) ∧ (k ≤ pts r) ∧ (∀ i j : Int, 0 ≤ j → j < i → i < k → (hasR r i j && hasR r j i) = false)) (fun (k : Int) => (pts r - k).toNat) (0) ⟨Fr.refl _ _, hH2, rfl, (by omega), (by omega), fun i j a b c => absurd c (by omega)⟩ ?_
  rintro k sg4 w4 ⟨fr4, hH4, e3_4, k0, k1, hf⟩
  have e1_4 : sg4 1 = .pointer (some ⟨_, _, none⟩) := (fr4 1 rfl).trans rfl
  refine CW.seq ?_
  refine CW.seq ?_
  refine CW.region ?_
  refine RL.val rfl (run_move e3_4) ?_
  refine RL.val rfl (run_ldRel Tryd.underlying25 rfl rfl e1_4 (hH4.blk (i := 0) rfl)) ?_
  refine RL.callP rfl hH4 (c_clearanceref03_Points _  _) (run_call1 Tryd.call25 rfl) ?_
  intro w5 hH6
  refine RL.val rfl (run_lss rfl rfl) ?_
  refine RL.nil ?_
  refine CW.condP rfl (fun h8 => ?_) (fun h8 => ?_)
  · refine CW.skip ?_
    refine CW.seq ?_
    refine CW.block ?_
    refine CW.seq ?_
    refine CW.region ?_
    refine RL.val rfl (run_assign (v := I 0) rfl) ?_
    refine RL.nil ?_
    refine CW.block ?_
    refine CW.loop (G := (Int)) (fun (j : Int) s' w' => (Fr [2, 4, 11, 12, 13, 14, 15, 16, 17, 18, 19, 20, 21, 22, 23, 24, 25] _ s') ∧ (Hp w w' _) ∧ (s' 4 = I j) ∧ (0 ≤ j) ∧ (j ≤ k) ∧ (∀ x : Int, 0 ≤ x → x < j → (hasR r k x && hasR r x k) = false)) (fun (j : Int) => (k - j).toNat) (0) ⟨Fr.refl _ _, hH6, rfl, (by omega), (by omega), fun x a b => absurd b (by omega)⟩ ?_
    rintro j sg9 w9 ⟨fr9, hH9, e4_9, j0, j1, hg⟩
    have e1_9 := (fr9 1 rfl).trans e1_4
    have e3_9 := (fr9 3 rfl).trans e3_4
    have e5_9 : sg9 5 = I _ := (fr9 5 rfl).trans rfl
    have e6_9 : sg9 6 = .agg _ := (fr9 6 rfl).trans rfl
    have e7_9 : sg9 7 = I _ := (fr9 7 rfl).trans rfl
    have e8_9 : sg9 8 = B _ := (fr9 8 rfl).trans rfl
    refine CW.seq ?_
    refine CW.seq ?_
    refine CW.region ?_
    refine RL.val rfl (run_move e4_9) ?_
    refine RL.val rfl (run_move e3_9) ?_
    refine RL.val rfl (run_lss rfl rfl) ?_
    refine RL.nil ?_
    refine CW.condP rfl (fun h11 => ?_) (fun h11 => ?_)
    · refine CW.skip ?_
      refine CW.seq ?_
      refine CW.block ?_
      refine CW.seq ?_
      refine CW.region ?_
      refine RL.val rfl (run_ldRel Tryd.underlying25 rfl rfl e1_9 (hH9.blk (i := 0) rfl)) ?_
      refine RL.val rfl (run_move e3_9) ?_
      refine RL.val rfl (run_move e4_9) ?_
      refine RL.callP rfl hH9 (c_clearanceref03_Has _ _ _  _) (run_call3 Tryd.call26 rfl rfl rfl) ?_
      intro w12 hH13
      refine RL.val rfl (run_move (v := B _) rfl) ?_
      refine RL.split (dj := 20) rfl (fun h15 => ?_) (fun h15 => ?_)
      · refine RL.gT rfl (bR (c := true) h15) ?_
        refine RL.val rfl (run_ldRel Tryd.underlying25 rfl rfl e1_9 (hH13.blk (i := 0) rfl)) ?_
        refine RL.gT rfl (bR (c := true) h15) ?_
        refine RL.val rfl (run_move e4_9) ?_
        refine RL.gT rfl (bR (c := true) h15) ?_
        refine RL.val rfl (run_move e3_9) ?_
        refine RL.gT rfl (bR (c := true) h15) ?_
        refine RL.callP rfl hH13 (c_clearanceref03_Has _ _ _  _) (run_call3 Tryd.call26 rfl rfl rfl) ?_
        intro w16 hH17
        refine RL.val rfl (run_pickT (bR (c := true) h15) (v := B _) rfl) ?_
        refine RL.nil ?_
        refine CW.cond rfl (fun h19 => ?_) (fun h19 => ?_)
        · refine CW.seq ?_
          refine CW.region ?_
          refine RL.val rfl (run_assign (v := B false) rfl) ?_
          refine RL.nil ?_
          refine CW.ret ?_
          refine outP1 Tryd.results75 (congrArg B ?_) hH17.below
          first | exact (order_ref ‹_› hf).symm | exact (order_refno ‹hasR r k j = true› ‹hasR r j k = true› ‹_›).symm
        · refine CW.skip ?_
          refine CW.region ?_
          refine RL.val rfl (run_move e4_9) ?_
          refine RL.val rfl (run_add rfl rfl (by omega)) ?_
          refine RL.val rfl (run_assign (v := I _) rfl) ?_
          refine RL.nil ?_
          refine ⟨j + 1, ?_, (((((((((((((((fr9.u rfl).u rfl).u rfl).u rfl).u rfl).u rfl).u rfl).u rfl).u rfl).u rfl).u rfl).u rfl).u rfl).u rfl).u rfl).u rfl, hH17, (congrArg I (by first | rfl | omega)), ?_, ?_, ?_⟩
          · ((try dsimp only); omega)
          · omega
          · omega
          · exact fun x u v => if e : x = j then e ▸ (by first | (rw [‹hasR r k j = false›]; rfl) | (rw [‹hasR r j k = false›]; simp)) else hg x u (by omega)
      · refine RL.gF rfl rfl (bR (c := false) h15) rfl ?_
        refine RL.gF rfl rfl (bR (c := false) h15) rfl ?_
        refine RL.gF rfl rfl (bR (c := false) h15) rfl ?_
        refine RL.gF rfl rfl (bR (c := false) h15) rfl ?_
        refine RL.val rfl (run_pickF (bR (c := false) h15) (v := B false) rfl) ?_
        refine RL.nil ?_
        refine CW.condF rfl ?_
        refine CW.skip ?_
        refine CW.region ?_
        refine RL.val rfl (run_move e4_9) ?_
        refine RL.val rfl (run_add rfl rfl (by omega)) ?_
        refine RL.val rfl (run_assign (v := I _) rfl) ?_
        refine RL.nil ?_
        refine ⟨j + 1, ?_, (((((((((((((((fr9.u rfl).u rfl).u rfl).u rfl).u rfl).u rfl).u rfl).u rfl).u rfl).u rfl).u rfl).u rfl).u rfl).u rfl).u rfl).u rfl, hH13, (congrArg I (by first | rfl | omega)), ?_, ?_, ?_⟩
        · ((try dsimp only); omega)
        · omega
        · omega
        · exact fun x u v => if e : x = j then e ▸ (by first | (rw [‹hasR r k j = false›]; rfl) | (rw [‹hasR r j k = false›]; simp)) else hg x u (by omega)
    · refine CW.exit (id := 2) rfl ?_
      refine CW.region ?_
      refine RL.val rfl (run_move e3_9) ?_
      refine RL.val rfl (run_add rfl rfl (by omega)) ?_
      refine RL.val rfl (run_assign (v := I _) rfl) ?_
      refine RL.nil ?_
      refine ⟨k + 1, ?_, ((((((((((((fr4.u rfl).u rfl).u rfl).u rfl).u rfl).t fr9 rfl)).u rfl).u rfl).u rfl).u rfl).u rfl).u rfl, hH9, (congrArg I (by first | rfl | omega)), ?_, ?_, ?_⟩
      · ((try dsimp only); omega)
      · omega
      · omega
      · exact fun i x u v y => if e : i = k then e ▸ hg x u (by omega) else hf i x u v (by omega)
  · refine CW.exit (id := 0) rfl ?_
    refine CW.seq ?_
    refine CW.region ?_
    refine RL.val rfl (run_ldRel Tryd.underlying25 rfl rfl e1_4 (hH6.blk (i := 0) rfl)) ?_
    refine RL.callP rfl hH6 (c_clearanceref03_Closed _  _) (run_call1 Tryd.call73 rfl) ?_
    intro w20 hH21
    refine RL.val rfl (run_assign (v := B _) rfl) ?_
    refine RL.nil ?_
    refine CW.ret ?_
    refine outP1 Tryd.results75 (congrArg B ?_) hH21.below
    first | exact (order_ref ‹_› hf).symm | exact (order_refno ‹hasR r k j = true› ‹hasR r j k = true› ‹_›).symm

theorem c_relate_Classes (r : Rl) (w : World) (hT : Tab w) : Calls Tryd.prog 76 #[.agg (relC r)] w (Pure (I (clsTo r (pts r))) w) := by
  have hp := pts_bd r
  have hcn : (cloR r).n = pts r := rfl
  refine enter Tryd.func76 rfl Tryd.ntmps76 rfl ?_
  have hH := Hp.start w
  refine CW.seq ?_
  refine CW.region ?_
  refine RL.new rfl hH (f := fun b => (.pointer (some ⟨b, 0, none⟩))) (run_box (v := .agg _) rfl) ?_
  intro b3 w1 hH2
  refine RL.val rfl (run_assign (v := I 0) rfl) ?_
  refine RL.nil ?_
  refine CW.seq ?_
  refine CW.region ?_
  refine RL.val rfl (run_ldRel Tryd.underlying25 rfl rfl rfl (hH2.blk (i := 0) rfl)) ?_
  refine RL.callP rfl hH2 (c_relate_Closure _  _) (run_call1 Tryd.call24 rfl) ?_
  intro w4 hH5
  refine RL.new rfl hH5 (f := fun b => (.pointer (some ⟨b, 0, none⟩))) (run_alloc zero_rel) ?_
  intro b8 w6 hH7
  refine RL.set hH7 (i := 0) rfl (run_stRel rfl rfl rfl (hH7.blk (i := 0) rfl)) ?_
  intro w9 hH10
  simp only [List.set_cons_zero, List.set_cons_succ] at hH10
  refine RL.nil ?_
  refine CW.seq ?_
  refine CW.region ?_
  refine RL.val rfl (run_assign (v := I 0) rfl) ?_
  refine RL.nil ?_
  refine CW.seq ?_
  refine CW.seq ?_
  refine CW.region ?_
  refine RL.val rfl (run_fieldAddr Tryd.underlying25 rfl (off := 0) rfl Tryd.sizeOf3 (by decide) rfl) ?_
  refine RL.val rfl (run_ld Tryd.underlying3 rfl rfl (hH10.cell (i := 0) rfl (relC_N _))) ?_
  refine RL.val rfl (run_move (v := I 0) rfl) ?_
  refine RL.nil ?_
  refine CW.block ?_
  refine CW.loop (G := (Int)) (fun (k : Int) s' w' => (Fr [4, 5, 6, 7, 12, 13, 14, 15, 16, 17, 18, 19, 20, 21, 22, 23, 24, 25, 26, 27] _ s') ∧ (Hp w w' _) ∧ (s' 4 = I (clsTo r k)) ∧ (s' 12 = I k) ∧ (0 ≤ k) ∧ (k ≤ pts r)) (fun (k : Int) => (pts r - k).toNat) (0) ⟨Fr.refl _ _, hH10, rfl, rfl, (by omega), (by omega)⟩ ?_
  rintro k sg11 w11 ⟨fr11, hH11, e4_11, e12_11, h0, hk⟩
  have e2_11 : sg11 2 = I _ := (fr11 2 rfl).trans rfl
  have e3_11 : sg11 3 = .pointer (some ⟨_, _, none⟩) := (fr11 3 rfl).trans rfl
  have e11_11 : sg11 11 = I _ := (fr11 11 rfl).trans rfl
  refine CW.seq ?_
  refine CW.region ?_
  refine RL.val rfl (run_lss e12_11 e11_11) ?_
  refine RL.nil ?_
  refine CW.seq ?_
  refine CW.condP rfl (fun h13 => ?_) (fun h13 => ?_)
  · refine CW.skip ?_
    refine CW.seq ?_
    refine CW.block ?_
    refine CW.seq ?_
    refine CW.region ?_
    refine RL.val rfl (run_move e12_11) ?_
    refine RL.val rfl (run_assign (v := I _) rfl) ?_
    refine RL.nil ?_
    refine CW.seq ?_
    refine CW.region ?_
    refine RL.val rfl (run_ldRel Tryd.underlying25 rfl rfl e3_11 (hH11.blk (i := 0) rfl)) ?_
    refine RL.val rfl (run_move (v := I _) rfl) ?_
    refine RL.callP rfl hH11 (c_relate_mutual _ _  _ (hT.hp hH11)) (run_call2 Tryd.call106 rfl rfl) ?_
    intro w14 hH15
    refine RL.callP rfl hH15 (c_mask_Least _  _ (hT.hp hH15)) (run_call1 Tryd.call107 rfl) ?_
    intro w16 hH17
    refine RL.val rfl (run_move (by conv => lhs; whnf)) ?_
    refine RL.val rfl (run_extract rfl (v := I _) rfl) ?_
    refine RL.val rfl (run_extract rfl (v := B _) rfl) ?_
    refine RL.val rfl (run_assign (v := I _) rfl) ?_
    refine RL.val rfl (run_assign (v := B _) rfl) ?_
    refine RL.nil ?_
    refine CW.seq ?_
    refine CW.region ?_
    refine RL.val rfl (run_move (v := I _) rfl) ?_
    refine RL.val rfl (run_move (v := I _) rfl) ?_
    refine RL.val rfl (run_eql rfl rfl) ?_
    refine RL.nil ?_
    refine CW.condP rfl (fun h20 => ?_) (fun h20 => ?_)
    · refine CW.region ?_
      refine RL.val rfl (run_move e4_11) ?_
      refine RL.val rfl (run_add rfl rfl (by first | omega | (have := @cls_bd r k h0; omega))) ?_
      refine RL.val rfl (run_assign (v := I _) rfl) ?_
      refine RL.nil ?_
      refine CW.region ?_
      refine RL.val rfl (run_add e12_11 rfl (by first | omega | (have := @cls_bd r k h0; omega))) ?_
      refine RL.val rfl (run_move (v := I _) rfl) ?_
      refine RL.nil ?_
      refine ⟨k + 1, ?_, (((((((((((((((((((fr11.u rfl).u rfl).u rfl).u rfl).u rfl).u rfl).u rfl).u rfl).u rfl).u rfl).u rfl).u rfl).u rfl).u rfl).u rfl).u rfl).u rfl).u rfl).u rfl).u rfl, hH17, (congrArg I (by first | exact cls_eq ⟨h0, by omega⟩ ‹_› | exact cls_ne ⟨h0, by omega⟩ ‹_›)), (congrArg I (by first | rfl | omega)), ?_, ?_⟩
      · ((try dsimp only); omega)
      · omega
      · omega
    · refine CW.skip ?_
      refine CW.region ?_
      refine RL.val rfl (run_add e12_11 rfl (by first | omega | (have := @cls_bd r k h0; omega))) ?_
      refine RL.val rfl (run_move (v := I _) rfl) ?_
      refine RL.nil ?_
      refine ⟨k + 1, ?_, ((((((((((((((((fr11.u rfl).u rfl).u rfl).u rfl).u rfl).u rfl).u rfl).u rfl).u rfl).u rfl).u rfl).u rfl).u rfl).u rfl).u rfl).u rfl).u rfl, hH17, (Eq.trans e4_11 (congrArg I (by first | exact cls_eq ⟨h0, by omega⟩ ‹_› | exact cls_ne ⟨h0, by omega⟩ ‹_›))), (congrArg I (by first | rfl | omega)), ?_, ?_⟩
      · ((try dsimp only); omega)
      · omega
      · omega
  · refine CW.exit (id := 0) rfl ?_
    refine CW.seq ?_
    refine CW.region ?_
    refine RL.val rfl (run_move e4_11) ?_
    refine RL.val rfl (run_assign (v := I _) rfl) ?_
    refine RL.nil ?_
    refine CW.ret ?_
    refine outP1 Tryd.results76 (congrArg I ?_) hH11.below
    rw [show k = pts r by omega]

theorem c_clearanceref03_Classes (r : Rl) (w : World) : Calls Tryd.prog 77 #[.agg (relC r)] w (Pure (I (clsTo r (pts r))) w) := by
  have hp := pts_bd r
  have hcn : (cloR r).n = pts r := rfl
  refine enter Tryd.func77 rfl Tryd.ntmps77 rfl ?_
  have hH := Hp.start w
  refine CW.seq ?_
  refine CW.region ?_
  refine RL.new rfl hH (f := fun b => (.pointer (some ⟨b, 0, none⟩))) (run_box (v := .agg _) rfl) ?_
  intro b3 w1 hH2
  refine RL.val rfl (run_assign (v := I 0) rfl) ?_
  refine RL.nil ?_
  refine CW.seq ?_
  refine CW.region ?_
  refine RL.val rfl (run_ldRel Tryd.underlying25 rfl rfl rfl (hH2.blk (i := 0) rfl)) ?_
  refine RL.callP rfl hH2 (c_clearanceref03_Closure _  _) (run_call1 Tryd.call38 rfl) ?_
  intro w4 hH5
  refine RL.new rfl hH5 (f := fun b => (.pointer (some ⟨b, 0, none⟩))) (run_alloc zero_rel) ?_
  intro b8 w6 hH7
  refine RL.set hH7 (i := 0) rfl (run_stRel rfl rfl rfl (hH7.blk (i := 0) rfl)) ?_
  intro w9 hH10
  simp only [List.set_cons_zero, List.set_cons_succ] at hH10
  refine RL.nil ?_
  refine CW.seq ?_
  refine CW.region ?_
  refine RL.val rfl (run_assign (v := I 0) rfl) ?_
  refine RL.nil ?_
  refine CW.seq ?_
  refine CW.seq ?_
  refine CW.region ?_
  refine RL.val rfl (run_assign (v := I 0) rfl) ?_
  refine RL.nil ?_
  refine CW.block ?_
  refine CW.loop (G := (Int)) (fun (k : Int) s' w' => (Fr [4, 5, 6, 7, 10, 11, 12, 13, 14, 15, 16, 17, 18, 19, 20, 21, 22, 23, 24, 25, 26, 27, 28, 29, 30, 31, 32, 33] _ s') ∧ (Hp w w' _) ∧ (s' 4 = I (clsTo r k)) ∧ (s' 5 = I k) ∧ (0 ≤ k) ∧ (k ≤ pts r)) (fun (k : Int) => (pts r - k).toNat) (0) ⟨Fr.refl _ _, hH10, rfl, rfl, (by omega), (by omega)⟩ ?_
  rintro k sg11 w11 ⟨fr11, hH11, e4_11, e5_11, h0, hk⟩
  have e2_11 : sg11 2 = I _ := (fr11 2 rfl).trans rfl
  have e3_11 : sg11 3 = .pointer (some ⟨_, _, none⟩) := (fr11 3 rfl).trans rfl
  refine CW.seq ?_
  refine CW.seq ?_
  refine CW.region ?_
  refine RL.val rfl (run_move e5_11) ?_
  refine RL.val rfl (run_fieldAddr Tryd.underlying25 rfl (off := 0) rfl Tryd.sizeOf3 (by decide) e3_11) ?_
  refine RL.val rfl (run_ld Tryd.underlying3 rfl rfl (hH11.cell (i := 0) rfl (relC_N _))) ?_
  refine RL.val rfl (run_lss rfl rfl) ?_
  refine RL.nil ?_
  refine CW.condP rfl (fun h13 => ?_) (fun h13 => ?_)
  · refine CW.skip ?_
    refine CW.seq ?_
    refine CW.block ?_
    refine CW.seq ?_
    refine CW.region ?_
    refine RL.val rfl (run_assign (v := B true) rfl) ?_
    refine RL.nil ?_
    refine CW.seq ?_
    refine CW.seq ?_
    refine CW.region ?_
    refine RL.val rfl (run_assign (v := I 0) rfl) ?_
    refine RL.nil ?_
    refine CW.block ?_
    refine CW.loop (G := (Int)) (fun (j : Int) s' w' => (Fr [6, 7, 16, 17, 18, 19, 20, 21, 22, 23, 24, 25, 26, 27, 28, 29, 30] _ s') ∧ (Hp w w' _) ∧ (s' 6 = B (newTo (cloR r) k j)) ∧ (s' 7 = I j) ∧ (0 ≤ j) ∧ (j ≤ k)) (fun (j : Int) => (k - j).toNat) (0) ⟨Fr.refl _ _, hH11, rfl, rfl, (by omega), (by omega)⟩ ?_
    rintro j sg14 w14 ⟨fr14, hH14, e6_14, e7_14, j0, j1⟩
    have e2_14 := (fr14 2 rfl).trans e2_11
    have e3_14 := (fr14 3 rfl).trans e3_11
    have e4_14 := (fr14 4 rfl).trans e4_11
    have e5_14 := (fr14 5 rfl).trans e5_11
    have e10_14 : sg14 10 = I _ := (fr14 10 rfl).trans rfl
    have e11_14 : sg14 11 = .pointer (some ⟨_, _, none⟩) := (fr14 11 rfl).trans rfl
    have e12_14 : sg14 12 = I _ := (fr14 12 rfl).trans rfl
    have e13_14 : sg14 13 = B _ := (fr14 13 rfl).trans rfl
    refine CW.seq ?_
    refine CW.seq ?_
    refine CW.region ?_
    refine RL.val rfl (run_move e7_14) ?_
    refine RL.val rfl (run_move e5_14) ?_
    refine RL.val rfl (run_lss rfl rfl) ?_
    refine RL.nil ?_
    refine CW.condP rfl (fun h17 => ?_) (fun h17 => ?_)
    · refine CW.skip ?_
      refine CW.seq ?_
      refine CW.block ?_
      refine CW.seq ?_
      refine CW.region ?_
      refine RL.val rfl (run_ldRel Tryd.underlying25 rfl rfl e3_14 (hH14.blk (i := 0) rfl)) ?_
      refine RL.val rfl (run_move e5_14) ?_
      refine RL.val rfl (run_move e7_14) ?_
      refine RL.callP rfl hH14 (c_clearanceref03_Has _ _ _  _) (run_call3 Tryd.call26 rfl rfl rfl) ?_
      intro w18 hH19
      refine RL.val rfl (run_move (v := B _) rfl) ?_
      refine RL.split (dj := 25) rfl (fun h21 => ?_) (fun h21 => ?_)
      · refine RL.gT rfl (bR (c := true) h21) ?_
        refine RL.val rfl (run_ldRel Tryd.underlying25 rfl rfl e3_14 (hH19.blk (i := 0) rfl)) ?_
        refine RL.gT rfl (bR (c := true) h21) ?_
        refine RL.val rfl (run_move e7_14) ?_
        refine RL.gT rfl (bR (c := true) h21) ?_
        refine RL.val rfl (run_move e5_14) ?_
        refine RL.gT rfl (bR (c := true) h21) ?_
        refine RL.callP rfl hH19 (c_clearanceref03_Has _ _ _  _) (run_call3 Tryd.call26 rfl rfl rfl) ?_
        intro w22 hH23
        refine RL.val rfl (run_pickT (bR (c := true) h21) (v := B _) rfl) ?_
        refine RL.nil ?_
        refine CW.cond rfl (fun h25 => ?_) (fun h25 => ?_)
        · refine CW.region ?_
          refine RL.val rfl (run_assign (v := B false) rfl) ?_
          refine RL.nil ?_
          refine CW.region ?_
          refine RL.val rfl (run_move e7_14) ?_
          refine RL.val rfl (run_add rfl rfl (by first | omega | (have := @cls_bd r k h0; omega))) ?_
          refine RL.val rfl (run_assign (v := I _) rfl) ?_
          refine RL.nil ?_
          refine ⟨j + 1, ?_, ((((((((((((((((fr14.u rfl).u rfl).u rfl).u rfl).u rfl).u rfl).u rfl).u rfl).u rfl).u rfl).u rfl).u rfl).u rfl).u rfl).u rfl).u rfl).u rfl, hH23, (congrArg B (by first | exact new_no j0 ‹hasR (cloR r) k j = true› ‹hasR (cloR r) j k = true› | exact new_same1 j0 ‹_› | exact new_same2 j0 ‹_›)), (congrArg I (by first | rfl | omega)), ?_, ?_⟩
          · ((try dsimp only); omega)
          · omega
          · omega
        · refine CW.skip ?_
          refine CW.region ?_
          refine RL.val rfl (run_move e7_14) ?_
          refine RL.val rfl (run_add rfl rfl (by first | omega | (have := @cls_bd r k h0; omega))) ?_
          refine RL.val rfl (run_assign (v := I _) rfl) ?_
          refine RL.nil ?_
          refine ⟨j + 1, ?_, (((((((((((((((fr14.u rfl).u rfl).u rfl).u rfl).u rfl).u rfl).u rfl).u rfl).u rfl).u rfl).u rfl).u rfl).u rfl).u rfl).u rfl).u rfl, hH23, (Eq.trans e6_14 (congrArg B (by first | exact new_no j0 ‹hasR (cloR r) k j = true› ‹hasR (cloR r) j k = true› | exact new_same1 j0 ‹_› | exact new_same2 j0 ‹_›))), (congrArg I (by first | rfl | omega)), ?_, ?_⟩
          · ((try dsimp only); omega)
          · omega
          · omega
      · refine RL.gF rfl rfl (bR (c := false) h21) rfl ?_
        refine RL.gF rfl rfl (bR (c := false) h21) rfl ?_
        refine RL.gF rfl rfl (bR (c := false) h21) rfl ?_
        refine RL.gF rfl rfl (bR (c := false) h21) rfl ?_
        refine RL.val rfl (run_pickF (bR (c := false) h21) (v := B false) rfl) ?_
        refine RL.nil ?_
        refine CW.condF rfl ?_
        refine CW.skip ?_
        refine CW.region ?_
        refine RL.val rfl (run_move e7_14) ?_
        refine RL.val rfl (run_add rfl rfl (by first | omega | (have := @cls_bd r k h0; omega))) ?_
        refine RL.val rfl (run_assign (v := I _) rfl) ?_
        refine RL.nil ?_
        refine ⟨j + 1, ?_, (((((((((((((((fr14.u rfl).u rfl).u rfl).u rfl).u rfl).u rfl).u rfl).u rfl).u rfl).u rfl).u rfl).u rfl).u rfl).u rfl).u rfl).u rfl, hH19, (Eq.trans e6_14 (congrArg B (by first | exact new_no j0 ‹hasR (cloR r) k j = true› ‹hasR (cloR r) j k = true› | exact new_same1 j0 ‹_› | exact new_same2 j0 ‹_›))), (congrArg I (by first | rfl | omega)), ?_, ?_⟩
        · ((try dsimp only); omega)
        · omega
        · omega
    · refine CW.exit (id := 2) rfl ?_
      refine CW.seq ?_
      refine CW.region ?_
      refine RL.val rfl (run_move e6_14) ?_
      refine RL.nil ?_
      refine CW.cond rfl (fun h26 => ?_) (fun h26 => ?_)
      · refine CW.region ?_
        refine RL.val rfl (run_move e4_14) ?_
        refine RL.val rfl (run_add rfl rfl (by first | omega | (have := @cls_bd r k h0; omega))) ?_
        refine RL.val rfl (run_assign (v := I _) rfl) ?_
        refine RL.nil ?_
        refine CW.region ?_
        refine RL.val rfl (run_move e5_14) ?_
        refine RL.val rfl (run_add rfl rfl (by first | omega | (have := @cls_bd r k h0; omega))) ?_
        refine RL.val rfl (run_assign (v := I _) rfl) ?_
        refine RL.nil ?_
        refine ⟨k + 1, ?_, (((((((((((((((((fr11.u rfl).u rfl).u rfl).u rfl).u rfl).u rfl).t fr14 rfl)).u rfl).u rfl).u rfl).u rfl).u rfl).u rfl).u rfl).u rfl).u rfl).u rfl, hH14, (congrArg I (by first | exact cls_yes h0 (by rw [← ‹newTo (cloR r) k j = true›, show j = k by omega]) | exact cls_no h0 (by rw [← ‹newTo (cloR r) k j = false›, show j = k by omega]))), (congrArg I (by first | rfl | omega)), ?_, ?_⟩
        · ((try dsimp only); omega)
        · omega
        · omega
      · refine CW.skip ?_
        refine CW.region ?_
        refine RL.val rfl (run_move e5_14) ?_
        refine RL.val rfl (run_add rfl rfl (by first | omega | (have := @cls_bd r k h0; omega))) ?_
        refine RL.val rfl (run_assign (v := I _) rfl) ?_
        refine RL.nil ?_
        refine ⟨k + 1, ?_, ((((((((((((((fr11.u rfl).u rfl).u rfl).u rfl).u rfl).u rfl).t fr14 rfl)).u rfl).u rfl).u rfl).u rfl).u rfl).u rfl).u rfl, hH14, (Eq.trans e4_14 (congrArg I (by first | exact cls_yes h0 (by rw [← ‹newTo (cloR r) k j = true›, show j = k by omega]) | exact cls_no h0 (by rw [← ‹newTo (cloR r) k j = false›, show j = k by omega])))), (congrArg I (by first | rfl | omega)), ?_, ?_⟩
        · ((try dsimp only); omega)
        · omega
        · omega
  · refine CW.exit (id := 0) rfl ?_
    refine CW.seq ?_
    refine CW.region ?_
    refine RL.val rfl (run_move e4_11) ?_
    refine RL.val rfl (run_assign (v := I _) rfl) ?_
    refine RL.nil ?_
    refine CW.ret ?_
    refine outP1 Tryd.results77 (congrArg I ?_) hH11.below
    rw [show k = pts r by omega]

theorem c_clearancelaw03_RelateTells (a b : Rl) (x y : Int) (w : World) (hT : Tab w) : Calls Tryd.prog 16 #[.agg (relC a), .agg (relC b), .agg #[I x, I y]] w (Pure (B true) w) := by
  refine enter Tryd.func16 rfl Tryd.ntmps16 rfl ?_
  have hH := Hp.start w
  refine CW.seq ?_
  refine CW.region ?_
  refine RL.new rfl hH (f := fun b => (.pointer (some ⟨b, 0, none⟩))) (run_box (v := .agg _) rfl) ?_
  intro b3 w1 hH2
  refine RL.new rfl hH2 (f := fun b => (.pointer (some ⟨b, 0, none⟩))) (run_box (v := .agg _) rfl) ?_
  intro b6 w4 hH5
  refine RL.new rfl hH5 (f := fun b => (.pointer (some ⟨b, 0, none⟩))) (run_box (v := .agg _) rfl) ?_
  intro b9 w7 hH8
  refine RL.val rfl (run_assign (v := B false) rfl) ?_
  refine RL.nil ?_
  refine CW.seq ?_
  refine CW.seq ?_
  refine CW.regionD (by kernel_rfl) hH8 ?_
  intro w10 hH11
  refine AN.take 0 rfl rfl (by kernel_rfl) (by kernel_rfl) (by kernel_rfl) (hH11.sub (List.Sublist.refl _)) (fun w hS => run_ldRel Tryd.underlying25 rfl rfl rfl (hS.blk (i := 2) rfl)) ?_
  refine AN.take 1 rfl rfl (by kernel_rfl) (by kernel_rfl) (by kernel_rfl) (hH11.sub (List.Sublist.refl _)) (fun w hS => run_fieldAddr Tryd.underlying27 rfl (off := 0) rfl Tryd.sizeOf3 (by decide) rfl) ?_
  refine AN.take 2 rfl rfl (by kernel_rfl) (by kernel_rfl) (by kernel_rfl) (hH11.sub (List.Sublist.refl _)) (fun w hS => run_ld Tryd.underlying3 rfl rfl (hS.cell (i := 0) rfl (v := I _) rfl)) ?_
  refine AN.take 3 rfl rfl (by kernel_rfl) (by kernel_rfl) (by kernel_rfl) (hH11.sub (List.Sublist.refl _)) (fun w hS => run_fieldAddr Tryd.underlying27 rfl (off := 1) rfl Tryd.sizeOf3 (by decide) rfl) ?_
  refine AN.take 4 rfl rfl (by kernel_rfl) (by kernel_rfl) (by kernel_rfl) (hH11.sub (List.Sublist.refl _)) (fun w hS => run_ld Tryd.underlying3 rfl rfl (hS.cell (i := 0) rfl (v := I _) rfl)) ?_
  refine AN.take 6 rfl rfl (by kernel_rfl) (by kernel_rfl) (by kernel_rfl) (hH11.sub (List.Sublist.refl _)) (fun w hS => run_ldRel Tryd.underlying25 rfl rfl rfl (hS.blk (i := 2) rfl)) ?_
  refine AN.take 7 rfl rfl (by kernel_rfl) (by kernel_rfl) (by kernel_rfl) (hH11.sub (List.Sublist.refl _)) (fun w hS => run_fieldAddr Tryd.underlying27 rfl (off := 0) rfl Tryd.sizeOf3 (by decide) rfl) ?_
  refine AN.take 8 rfl rfl (by kernel_rfl) (by kernel_rfl) (by kernel_rfl) (hH11.sub (List.Sublist.refl _)) (fun w hS => run_ld Tryd.underlying3 rfl rfl (hS.cell (i := 0) rfl (v := I _) rfl)) ?_
  refine AN.take 9 rfl rfl (by kernel_rfl) (by kernel_rfl) (by kernel_rfl) (hH11.sub (List.Sublist.refl _)) (fun w hS => run_fieldAddr Tryd.underlying27 rfl (off := 1) rfl Tryd.sizeOf3 (by decide) rfl) ?_
  refine AN.take 10 rfl rfl (by kernel_rfl) (by kernel_rfl) (by kernel_rfl) (hH11.sub (List.Sublist.refl _)) (fun w hS => run_ld Tryd.underlying3 rfl rfl (hS.cell (i := 0) rfl (v := I _) rfl)) ?_
  refine AN.one 5 (by kernel_rfl) ?_
  refine AO.callP rfl gnone rfl hH11 (List.Sublist.refl _) (c_relate_Has _ _ _  _) (run_call3 Tryd.call35 rfl rfl rfl) ?_
  intro w12 hH13
  refine AN.one 11 (by kernel_rfl) ?_
  refine AO.callP rfl gnone rfl hH13 (List.Sublist.refl _) (c_clearanceref03_Has _ _ _  _) (run_call3 Tryd.call26 rfl rfl rfl) ?_
  intro w15 hH16
  refine AN.take 12 rfl rfl (by kernel_rfl) (by kernel_rfl) (by kernel_rfl) (hH16.sub (List.Sublist.refl _)) (fun w hS => run_neqB Tryd.underlying4 rfl rfl) ?_
  refine AN.take 13 rfl rfl (by kernel_rfl) (by kernel_rfl) (by kernel_rfl) (hH16.sub (List.Sublist.refl _)) (fun w hS => run_move (v := B _) rfl) ?_
  refine AN.takeG 14 rfl rfl (bR (c := false) (by simp)) rfl (by kernel_rfl) (by kernel_rfl) (by kernel_rfl) (hH16.sub (List.Sublist.refl _)) (fun w hS => run_ldRel Tryd.underlying25 rfl rfl rfl (hS.blk (i := 2) rfl)) ?_
  refine AN.takeG 15 rfl rfl (bR (c := false) (by simp)) rfl (by kernel_rfl) (by kernel_rfl) (by kernel_rfl) (hH16.sub (List.Sublist.refl _)) (fun w hS => run_ldRel Tryd.underlying25 rfl rfl rfl (hS.blk (i := 1) rfl)) ?_
  refine AN.takeG 17 rfl rfl (bR (c := false) (by simp)) rfl (by kernel_rfl) (by kernel_rfl) (by kernel_rfl) (hH16.sub (List.Sublist.refl _)) (fun w hS => run_ldRel Tryd.underlying25 rfl rfl rfl (hS.blk (i := 2) rfl)) ?_
  refine AN.takeG 18 rfl rfl (bR (c := false) (by simp)) rfl (by kernel_rfl) (by kernel_rfl) (by kernel_rfl) (hH16.sub (List.Sublist.refl _)) (fun w hS => run_ldRel Tryd.underlying25 rfl rfl rfl (hS.blk (i := 1) rfl)) ?_
  refine AN.one 16 (by kernel_rfl) ?_
  refine AO.callP rfl (gsome rfl (bR (c := false) (by simp))) rfl hH16 (List.Sublist.refl _) (c_relate_Same _ _  _) (run_call2 Tryd.call36 rfl rfl) ?_
  intro w19 hH20
  refine AN.one 19 (by kernel_rfl) ?_
  refine AO.callP rfl (gsome rfl (bR (c := false) (by simp))) rfl hH20 (List.Sublist.refl _) (c_clearanceref03_Same _ _  _) (run_call2 Tryd.call72 rfl rfl) ?_
  intro w23 hH24
  refine AN.takeG 20 rfl rfl (bR (c := false) (by simp)) rfl (by kernel_rfl) (by kernel_rfl) (by kernel_rfl) (hH24.sub (List.Sublist.refl _)) (fun w hS => run_neqB Tryd.underlying4 rfl rfl) ?_
  refine AN.take 21 rfl rfl (by kernel_rfl) (by kernel_rfl) (by kernel_rfl) (hH24.sub (List.Sublist.refl _)) (fun w hS => run_pickF (bR (c := false) (by simp)) (v := B _) rfl) ?_
  refine AN.take 22 rfl rfl (by kernel_rfl) (by kernel_rfl) (by kernel_rfl) (hH24.sub (List.Sublist.refl _)) (fun w hS => run_move (v := B _) rfl) ?_
  refine AN.takeG 23 rfl rfl (bR (c := false) (by simp)) rfl (by kernel_rfl) (by kernel_rfl) (by kernel_rfl) (hH24.sub (List.Sublist.refl _)) (fun w hS => run_ldRel Tryd.underlying25 rfl rfl rfl (hS.blk (i := 2) rfl)) ?_
  refine AN.takeG 24 rfl rfl (bR (c := false) (by simp)) rfl (by kernel_rfl) (by kernel_rfl) (by kernel_rfl) (hH24.sub (List.Sublist.refl _)) (fun w hS => run_ldRel Tryd.underlying25 rfl rfl rfl (hS.blk (i := 2) rfl)) ?_
  refine AN.one 25 (by kernel_rfl) ?_
  refine AO.callP rfl (gsome rfl (bR (c := false) (by simp))) rfl hH24 (List.Sublist.refl _) (c_clearanceref03_Plain _  _) (run_call1 Tryd.call37 rfl) ?_
  intro w28 hH29
  refine AN.one 26 (by kernel_rfl) ?_
  refine AO.callP rfl (gsome rfl (bR (c := false) (by simp))) rfl hH29 (List.Sublist.refl _) (c_relate_Same _ _  _) (run_call2 Tryd.call36 rfl rfl) ?_
  intro w30 hH31
  refine AN.takeG 27 rfl rfl (bR (c := false) (by simp)) rfl (by kernel_rfl) (by kernel_rfl) (by kernel_rfl) (hH31.sub (List.Sublist.refl _)) (fun w hS => run_not (bT (by rw [plain_idem]; exact eq_refl _))) ?_
  refine AN.take 28 rfl rfl (by kernel_rfl) (by kernel_rfl) (by kernel_rfl) (hH31.sub (List.Sublist.refl _)) (fun w hS => run_pickF (bR (c := false) (by simp)) (v := B _) rfl) ?_
  refine AN.done (by kernel_rfl) ?_
  refine CW.condF rfl ?_
  refine CW.skip ?_
  refine CW.seq ?_
  refine CW.regionD (by kernel_rfl) hH31 ?_
  intro w34 hH35
  refine AN.take 0 rfl rfl (by kernel_rfl) (by kernel_rfl) (by kernel_rfl) (hH35.sub (List.Sublist.refl _)) (fun w hS => run_ldRel Tryd.underlying25 rfl rfl rfl (hS.blk (i := 2) rfl)) ?_
  refine AN.take 2 rfl rfl (by kernel_rfl) (by kernel_rfl) (by kernel_rfl) (hH35.sub (List.Sublist.refl _)) (fun w hS => run_ldRel Tryd.underlying25 rfl rfl rfl (hS.blk (i := 2) rfl)) ?_
  refine AN.one 1 (by kernel_rfl) ?_
  refine AO.callP rfl gnone rfl hH35 (List.Sublist.refl _) (c_relate_Closed _  _) (run_call1 Tryd.call34 rfl) ?_
  intro w36 hH37
  refine AN.one 3 (by kernel_rfl) ?_
  refine AO.callP rfl gnone rfl hH37 (List.Sublist.refl _) (c_clearanceref03_Closed _  _) (run_call1 Tryd.call73 rfl) ?_
  intro w40 hH41
  refine AN.take 4 rfl rfl (by kernel_rfl) (by kernel_rfl) (by kernel_rfl) (hH41.sub (List.Sublist.refl _)) (fun w hS => run_eqlB Tryd.underlying4 rfl rfl) ?_
  refine AN.take 5 rfl rfl (by kernel_rfl) (by kernel_rfl) (by kernel_rfl) (hH41.sub (List.Sublist.refl _)) (fun w hS => run_move (v := B _) rfl) ?_
  refine AN.takeG 6 rfl rfl (bR (c := true) (beq_self_eq_true _)) rfl (by kernel_rfl) (by kernel_rfl) (by kernel_rfl) (hH41.sub (List.Sublist.refl _)) (fun w hS => run_ldRel Tryd.underlying25 rfl rfl rfl (hS.blk (i := 2) rfl)) ?_
  refine AN.takeG 8 rfl rfl (bR (c := true) (beq_self_eq_true _)) rfl (by kernel_rfl) (by kernel_rfl) (by kernel_rfl) (hH41.sub (List.Sublist.refl _)) (fun w hS => run_ldRel Tryd.underlying25 rfl rfl rfl (hS.blk (i := 2) rfl)) ?_
  refine AN.one 7 (by kernel_rfl) ?_
  refine AO.callP rfl (gsome rfl (bR (c := true) (beq_self_eq_true _))) rfl hH41 (List.Sublist.refl _) (c_relate_Order _  _ (hT.hp hH41)) (run_call1 Tryd.call74 rfl) ?_
  intro w45 hH46
  refine AN.one 9 (by kernel_rfl) ?_
  refine AO.callP rfl (gsome rfl (bR (c := true) (beq_self_eq_true _))) rfl hH46 (List.Sublist.refl _) (c_clearanceref03_Order _  _) (run_call1 Tryd.call75 rfl) ?_
  intro w48 hH49
  refine AN.takeG 10 rfl rfl (bR (c := true) (beq_self_eq_true _)) rfl (by kernel_rfl) (by kernel_rfl) (by kernel_rfl) (hH49.sub (List.Sublist.refl _)) (fun w hS => run_eqlB Tryd.underlying4 rfl rfl) ?_
  refine AN.take 11 rfl rfl (by kernel_rfl) (by kernel_rfl) (by kernel_rfl) (hH49.sub (List.Sublist.refl _)) (fun w hS => run_pickT (bR (c := true) (beq_self_eq_true _)) (v := B _) rfl) ?_
  refine AN.take 12 rfl rfl (by kernel_rfl) (by kernel_rfl) (by kernel_rfl) (hH49.sub (List.Sublist.refl _)) (fun w hS => run_move (v := B _) rfl) ?_
  refine AN.takeG 13 rfl rfl (bR (c := true) (beq_self_eq_true _)) rfl (by kernel_rfl) (by kernel_rfl) (by kernel_rfl) (hH49.sub (List.Sublist.refl _)) (fun w hS => run_ldRel Tryd.underlying25 rfl rfl rfl (hS.blk (i := 2) rfl)) ?_
  refine AN.takeG 15 rfl rfl (bR (c := true) (beq_self_eq_true _)) rfl (by kernel_rfl) (by kernel_rfl) (by kernel_rfl) (hH49.sub (List.Sublist.refl _)) (fun w hS => run_ldRel Tryd.underlying25 rfl rfl rfl (hS.blk (i := 2) rfl)) ?_
  refine AN.one 14 (by kernel_rfl) ?_
  refine AO.callP rfl (gsome rfl (bR (c := true) (beq_self_eq_true _))) rfl hH49 (List.Sublist.refl _) (c_relate_Classes _  _ (hT.hp hH49)) (run_call1 Tryd.call76 rfl) ?_
  intro w52 hH53
  refine AN.one 16 (by kernel_rfl) ?_
  refine AO.callP rfl (gsome rfl (bR (c := true) (beq_self_eq_true _))) rfl hH53 (List.Sublist.refl _) (c_clearanceref03_Classes _  _) (run_call1 Tryd.call77 rfl) ?_
  intro w54 hH55
  refine AN.takeG 17 rfl rfl (bR (c := true) (beq_self_eq_true _)) rfl (by kernel_rfl) (by kernel_rfl) (by kernel_rfl) (hH55.sub (List.Sublist.refl _)) (fun w hS => run_eql rfl rfl) ?_
  refine AN.take 18 rfl rfl (by kernel_rfl) (by kernel_rfl) (by kernel_rfl) (hH55.sub (List.Sublist.refl _)) (fun w hS => run_pickT (bR (c := true) (beq_self_eq_true _)) (v := B _) rfl) ?_
  refine AN.take 19 rfl rfl (by kernel_rfl) (by kernel_rfl) (by kernel_rfl) (hH55.sub (List.Sublist.refl _)) (fun w hS => run_move (v := B _) rfl) ?_
  refine AN.one 20 (by kernel_rfl) ?_
  refine AO.callP rfl (gsome rfl (bT (rfl))) rfl hH55 (List.Sublist.refl _) (c_clearancelaw03_alive   _ (hT.hp hH55)) (run_call0 Tryd.call29) ?_
  intro w57 hH58
  refine AN.take 21 rfl rfl (by kernel_rfl) (by kernel_rfl) (by kernel_rfl) (hH58.sub (List.Sublist.refl _)) (fun w hS => run_pickT (bT (rfl)) (v := B _) rfl) ?_
  refine AN.take 22 rfl rfl (by kernel_rfl) (by kernel_rfl) (by kernel_rfl) (hH58.sub (List.Sublist.refl _)) (fun w hS => run_assign (v := B _) rfl) ?_
  refine AN.done (by kernel_rfl) ?_
  refine CW.ret ?_
  refine outP1 Tryd.results16 (congrArg B ?_) hH58.below
  rfl

theorem c_clearancelaw03_RelateOf_1 (b : Nat) (r : Rl) (q : Int × Int) (w : World) (hb : w.heap[b]? = some (.cells (relC r) 25 (0, 0))) : Calls Tryd.prog 51 #[.agg #[I q.1, I q.2], .pointer (some ⟨b, 0, none⟩)] w (Pure (B (inR r q)) w) := by
  refine enter Tryd.func51 rfl Tryd.ntmps51 rfl ?_
  have hH := Hp.start w
  refine CW.seq ?_
  refine CW.region ?_
  refine RL.new rfl hH (f := fun b => (.pointer (some ⟨b, 0, none⟩))) (run_box (v := .agg _) rfl) ?_
  intro b3 w1 hH2
  refine RL.val rfl (run_assign (v := B false) rfl) ?_
  refine RL.nil ?_
  refine CW.seq ?_
  refine CW.regionD (by kernel_rfl) hH2 ?_
  intro w4 hH5
  refine AN.take 0 rfl rfl (by kernel_rfl) (by kernel_rfl) (by kernel_rfl) (hH5.sub (List.Sublist.refl _)) (fun w hS => run_fieldAddr Tryd.underlying27 rfl (off := 0) rfl Tryd.sizeOf3 (by decide) rfl) ?_
  refine AN.take 1 rfl rfl (by kernel_rfl) (by kernel_rfl) (by kernel_rfl) (hH5.sub (List.Sublist.refl _)) (fun w hS => run_ld Tryd.underlying3 rfl rfl (hS.cell (i := 0) rfl (v := I _) rfl)) ?_
  refine AN.take 2 rfl rfl (by kernel_rfl) (by kernel_rfl) (by kernel_rfl) (hH5.sub (List.Sublist.refl _)) (fun w hS => run_geq rfl rfl) ?_
  refine AN.take 3 rfl rfl (by kernel_rfl) (by kernel_rfl) (by kernel_rfl) (hH5.sub (List.Sublist.refl _)) (fun w hS => run_move (v := B _) rfl) ?_
  refine AN.splitP (dj := 7) rfl (fun h7 => ?_) (fun h7 => ?_)
  · refine AN.takeG 4 rfl rfl (bT h7) rfl (by kernel_rfl) (by kernel_rfl) (by kernel_rfl) (hH5.sub (List.Sublist.refl _)) (fun w hS => run_fieldAddr Tryd.underlying27 rfl (off := 1) rfl Tryd.sizeOf3 (by decide) rfl) ?_
    refine AN.takeG 5 rfl rfl (bT h7) rfl (by kernel_rfl) (by kernel_rfl) (by kernel_rfl) (hH5.sub (List.Sublist.refl _)) (fun w hS => run_ld Tryd.underlying3 rfl rfl (hS.cell (i := 0) rfl (v := I _) rfl)) ?_
    refine AN.takeG 6 rfl rfl (bT h7) rfl (by kernel_rfl) (by kernel_rfl) (by kernel_rfl) (hH5.sub (List.Sublist.refl _)) (fun w hS => run_geq rfl rfl) ?_
    refine AN.take 7 rfl rfl (by kernel_rfl) (by kernel_rfl) (by kernel_rfl) (hH5.sub (List.Sublist.refl _)) (fun w hS => run_pickT (bT h7) (v := B _) rfl) ?_
    refine AN.take 8 rfl rfl (by kernel_rfl) (by kernel_rfl) (by kernel_rfl) (hH5.sub (List.Sublist.refl _)) (fun w hS => run_move (v := B _) rfl) ?_
    refine AN.splitP (dj := 12) rfl (fun h9 => ?_) (fun h9 => ?_)
    · refine AN.takeG 9 rfl rfl (bT h9) rfl (by kernel_rfl) (by kernel_rfl) (by kernel_rfl) (hH5.sub (List.Sublist.refl _)) (fun w hS => run_fieldAddr Tryd.underlying27 rfl (off := 0) rfl Tryd.sizeOf3 (by decide) rfl) ?_
      refine AN.takeG 10 rfl rfl (bT h9) rfl (by kernel_rfl) (by kernel_rfl) (by kernel_rfl) (hH5.sub (List.Sublist.refl _)) (fun w hS => run_ld Tryd.underlying3 rfl rfl (hS.cell (i := 0) rfl (v := I _) rfl)) ?_
      refine AN.takeG 11 rfl rfl (bT h9) rfl (by kernel_rfl) (by kernel_rfl) (by kernel_rfl) (hH5.sub (List.Sublist.refl _)) (fun w hS => run_ldRel Tryd.underlying25 rfl rfl rfl (hS.ext hb)) ?_
      refine AN.one 12 (by kernel_rfl) ?_
      refine AO.callP rfl (gsome rfl (bT h9)) rfl hH5 (List.Sublist.refl _) (c_clearanceref03_Points _  _) (run_call1 Tryd.call25 rfl) ?_
      intro w10 hH11
      refine AN.takeG 13 rfl rfl (bT h9) rfl (by kernel_rfl) (by kernel_rfl) (by kernel_rfl) (hH11.sub (List.Sublist.refl _)) (fun w hS => run_lss rfl rfl) ?_
      refine AN.take 14 rfl rfl (by kernel_rfl) (by kernel_rfl) (by kernel_rfl) (hH11.sub (List.Sublist.refl _)) (fun w hS => run_pickT (bT h9) (v := B _) rfl) ?_
      refine AN.take 15 rfl rfl (by kernel_rfl) (by kernel_rfl) (by kernel_rfl) (hH11.sub (List.Sublist.refl _)) (fun w hS => run_move (v := B _) rfl) ?_
      refine AN.splitP (dj := 19) rfl (fun h13 => ?_) (fun h13 => ?_)
      · refine AN.takeG 16 rfl rfl (bT h13) rfl (by kernel_rfl) (by kernel_rfl) (by kernel_rfl) (hH11.sub (List.Sublist.refl _)) (fun w hS => run_fieldAddr Tryd.underlying27 rfl (off := 1) rfl Tryd.sizeOf3 (by decide) rfl) ?_
        refine AN.takeG 17 rfl rfl (bT h13) rfl (by kernel_rfl) (by kernel_rfl) (by kernel_rfl) (hH11.sub (List.Sublist.refl _)) (fun w hS => run_ld Tryd.underlying3 rfl rfl (hS.cell (i := 0) rfl (v := I _) rfl)) ?_
        refine AN.takeG 18 rfl rfl (bT h13) rfl (by kernel_rfl) (by kernel_rfl) (by kernel_rfl) (hH11.sub (List.Sublist.refl _)) (fun w hS => run_ldRel Tryd.underlying25 rfl rfl rfl (hS.ext hb)) ?_
        refine AN.one 19 (by kernel_rfl) ?_
        refine AO.callP rfl (gsome rfl (bT h13)) rfl hH11 (List.Sublist.refl _) (c_clearanceref03_Points _  _) (run_call1 Tryd.call25 rfl) ?_
        intro w14 hH15
        refine AN.takeG 20 rfl rfl (bT h13) rfl (by kernel_rfl) (by kernel_rfl) (by kernel_rfl) (hH15.sub (List.Sublist.refl _)) (fun w hS => run_lss rfl rfl) ?_
        refine AN.take 21 rfl rfl (by kernel_rfl) (by kernel_rfl) (by kernel_rfl) (hH15.sub (List.Sublist.refl _)) (fun w hS => run_pickT (bT h13) (v := B _) rfl) ?_
        refine AN.take 22 rfl rfl (by kernel_rfl) (by kernel_rfl) (by kernel_rfl) (hH15.sub (List.Sublist.refl _)) (fun w hS => run_assign (v := B _) rfl) ?_
        refine AN.done (by kernel_rfl) ?_
        refine CW.ret ?_
        refine outP1 Tryd.results51 (congrArg B ?_) hH15.below
        (rw [inR, Bool.eq_iff_iff]; simp only [decide_eq_true_eq, Bool.false_eq_true, false_iff]; omega)
      · refine AN.skipG 16 rfl rfl (bF h13) rfl rfl (by kernel_rfl) (by kernel_rfl) (by kernel_rfl) (hH11.sub (List.Sublist.refl _)) ?_
        refine AN.skipG 17 rfl rfl (bF h13) rfl rfl (by kernel_rfl) (by kernel_rfl) (by kernel_rfl) (hH11.sub (List.Sublist.refl _)) ?_
        refine AN.skipG 18 rfl rfl (bF h13) rfl rfl (by kernel_rfl) (by kernel_rfl) (by kernel_rfl) (hH11.sub (List.Sublist.refl _)) ?_
        refine AN.skipG 19 rfl rfl (bF h13) rfl rfl (by kernel_rfl) (by kernel_rfl) (by kernel_rfl) (hH11.sub (List.Sublist.refl _)) ?_
        refine AN.skipG 20 rfl rfl (bF h13) rfl rfl (by kernel_rfl) (by kernel_rfl) (by kernel_rfl) (hH11.sub (List.Sublist.refl _)) ?_
        refine AN.take 21 rfl rfl (by kernel_rfl) (by kernel_rfl) (by kernel_rfl) (hH11.sub (List.Sublist.refl _)) (fun w hS => run_pickF (bF h13) (v := B false) rfl) ?_
        refine AN.take 22 rfl rfl (by kernel_rfl) (by kernel_rfl) (by kernel_rfl) (hH11.sub (List.Sublist.refl _)) (fun w hS => run_assign (v := B _) rfl) ?_
        refine AN.done (by kernel_rfl) ?_
        refine CW.ret ?_
        refine outP1 Tryd.results51 (congrArg B ?_) hH11.below
        (rw [inR, Bool.eq_iff_iff]; simp only [decide_eq_true_eq, Bool.false_eq_true, false_iff]; omega)
    · refine AN.skipG 9 rfl rfl (bF h9) rfl rfl (by kernel_rfl) (by kernel_rfl) (by kernel_rfl) (hH5.sub (List.Sublist.refl _)) ?_
      refine AN.skipG 10 rfl rfl (bF h9) rfl rfl (by kernel_rfl) (by kernel_rfl) (by kernel_rfl) (hH5.sub (List.Sublist.refl _)) ?_
      refine AN.skipG 11 rfl rfl (bF h9) rfl rfl (by kernel_rfl) (by kernel_rfl) (by kernel_rfl) (hH5.sub (List.Sublist.refl _)) ?_
      refine AN.skipG 12 rfl rfl (bF h9) rfl rfl (by kernel_rfl) (by kernel_rfl) (by kernel_rfl) (hH5.sub (List.Sublist.refl _)) ?_
      refine AN.skipG 13 rfl rfl (bF h9) rfl rfl (by kernel_rfl) (by kernel_rfl) (by kernel_rfl) (hH5.sub (List.Sublist.refl _)) ?_
      refine AN.take 14 rfl rfl (by kernel_rfl) (by kernel_rfl) (by kernel_rfl) (hH5.sub (List.Sublist.refl _)) (fun w hS => run_pickF (bF h9) (v := B false) rfl) ?_
      refine AN.take 15 rfl rfl (by kernel_rfl) (by kernel_rfl) (by kernel_rfl) (hH5.sub (List.Sublist.refl _)) (fun w hS => run_move (v := B _) rfl) ?_
      refine AN.skipG 16 rfl rfl rfl rfl rfl (by kernel_rfl) (by kernel_rfl) (by kernel_rfl) (hH5.sub (List.Sublist.refl _)) ?_
      refine AN.skipG 17 rfl rfl rfl rfl rfl (by kernel_rfl) (by kernel_rfl) (by kernel_rfl) (hH5.sub (List.Sublist.refl _)) ?_
      refine AN.skipG 18 rfl rfl rfl rfl rfl (by kernel_rfl) (by kernel_rfl) (by kernel_rfl) (hH5.sub (List.Sublist.refl _)) ?_
      refine AN.skipG 19 rfl rfl rfl rfl rfl (by kernel_rfl) (by kernel_rfl) (by kernel_rfl) (hH5.sub (List.Sublist.refl _)) ?_
      refine AN.skipG 20 rfl rfl rfl rfl rfl (by kernel_rfl) (by kernel_rfl) (by kernel_rfl) (hH5.sub (List.Sublist.refl _)) ?_
      refine AN.take 21 rfl rfl (by kernel_rfl) (by kernel_rfl) (by kernel_rfl) (hH5.sub (List.Sublist.refl _)) (fun w hS => run_pickF rfl (v := B false) rfl) ?_
      refine AN.take 22 rfl rfl (by kernel_rfl) (by kernel_rfl) (by kernel_rfl) (hH5.sub (List.Sublist.refl _)) (fun w hS => run_assign (v := B _) rfl) ?_
      refine AN.done (by kernel_rfl) ?_
      refine CW.ret ?_
      refine outP1 Tryd.results51 (congrArg B ?_) hH5.below
      (rw [inR, Bool.eq_iff_iff]; simp only [decide_eq_true_eq, Bool.false_eq_true, false_iff]; omega)
  · refine AN.skipG 4 rfl rfl (bF h7) rfl rfl (by kernel_rfl) (by kernel_rfl) (by kernel_rfl) (hH5.sub (List.Sublist.refl _)) ?_
    refine AN.skipG 5 rfl rfl (bF h7) rfl rfl (by kernel_rfl) (by kernel_rfl) (by kernel_rfl) (hH5.sub (List.Sublist.refl _)) ?_
    refine AN.skipG 6 rfl rfl (bF h7) rfl rfl (by kernel_rfl) (by kernel_rfl) (by kernel_rfl) (hH5.sub (List.Sublist.refl _)) ?_
    refine AN.take 7 rfl rfl (by kernel_rfl) (by kernel_rfl) (by kernel_rfl) (hH5.sub (List.Sublist.refl _)) (fun w hS => run_pickF (bF h7) (v := B false) rfl) ?_
    refine AN.take 8 rfl rfl (by kernel_rfl) (by kernel_rfl) (by kernel_rfl) (hH5.sub (List.Sublist.refl _)) (fun w hS => run_move (v := B _) rfl) ?_
    refine AN.skipG 9 rfl rfl rfl rfl rfl (by kernel_rfl) (by kernel_rfl) (by kernel_rfl) (hH5.sub (List.Sublist.refl _)) ?_
    refine AN.skipG 10 rfl rfl rfl rfl rfl (by kernel_rfl) (by kernel_rfl) (by kernel_rfl) (hH5.sub (List.Sublist.refl _)) ?_
    refine AN.skipG 11 rfl rfl rfl rfl rfl (by kernel_rfl) (by kernel_rfl) (by kernel_rfl) (hH5.sub (List.Sublist.refl _)) ?_
    refine AN.skipG 12 rfl rfl rfl rfl rfl (by kernel_rfl) (by kernel_rfl) (by kernel_rfl) (hH5.sub (List.Sublist.refl _)) ?_
    refine AN.skipG 13 rfl rfl rfl rfl rfl (by kernel_rfl) (by kernel_rfl) (by kernel_rfl) (hH5.sub (List.Sublist.refl _)) ?_
    refine AN.take 14 rfl rfl (by kernel_rfl) (by kernel_rfl) (by kernel_rfl) (hH5.sub (List.Sublist.refl _)) (fun w hS => run_pickF rfl (v := B false) rfl) ?_
    refine AN.take 15 rfl rfl (by kernel_rfl) (by kernel_rfl) (by kernel_rfl) (hH5.sub (List.Sublist.refl _)) (fun w hS => run_move (v := B _) rfl) ?_
    refine AN.skipG 16 rfl rfl rfl rfl rfl (by kernel_rfl) (by kernel_rfl) (by kernel_rfl) (hH5.sub (List.Sublist.refl _)) ?_
    refine AN.skipG 17 rfl rfl rfl rfl rfl (by kernel_rfl) (by kernel_rfl) (by kernel_rfl) (hH5.sub (List.Sublist.refl _)) ?_
    refine AN.skipG 18 rfl rfl rfl rfl rfl (by kernel_rfl) (by kernel_rfl) (by kernel_rfl) (hH5.sub (List.Sublist.refl _)) ?_
    refine AN.skipG 19 rfl rfl rfl rfl rfl (by kernel_rfl) (by kernel_rfl) (by kernel_rfl) (hH5.sub (List.Sublist.refl _)) ?_
    refine AN.skipG 20 rfl rfl rfl rfl rfl (by kernel_rfl) (by kernel_rfl) (by kernel_rfl) (hH5.sub (List.Sublist.refl _)) ?_
    refine AN.take 21 rfl rfl (by kernel_rfl) (by kernel_rfl) (by kernel_rfl) (hH5.sub (List.Sublist.refl _)) (fun w hS => run_pickF rfl (v := B false) rfl) ?_
    refine AN.take 22 rfl rfl (by kernel_rfl) (by kernel_rfl) (by kernel_rfl) (hH5.sub (List.Sublist.refl _)) (fun w hS => run_assign (v := B _) rfl) ?_
    refine AN.done (by kernel_rfl) ?_
    refine CW.ret ?_
    refine outP1 Tryd.results51 (congrArg B ?_) hH5.below
    (rw [inR, Bool.eq_iff_iff]; simp only [decide_eq_true_eq, Bool.false_eq_true, false_iff]; omega)

theorem c_clearancelaw03_RelateOf (n : Int) (v : Value) (l : List (Int × Int)) (a b : Int) (w : World) (hs : Sl w v 2 l.length (prL l)) (hT : Tab w) : Calls Tryd.prog 10 #[I n, v, .agg #[I a, I b]] w (Pure (B true) w) := by
  have hm := hs.small
  unfold maxLen at hm
  refine enter Tryd.func10 rfl Tryd.ntmps10 rfl ?_
  have hH := Hp.start w
  refine CW.seq ?_
  refine CW.region ?_
  refine RL.new rfl hH (f := fun b => (.pointer (some ⟨b, 0, none⟩))) (run_box (v := .agg _) rfl) ?_
  intro b3 w1 hH2
  refine RL.val rfl (run_assign (v := B false) rfl) ?_
  refine RL.nil ?_
  refine CW.seq ?_
  refine CW.seq ?_
  refine CW.region ?_
  refine RL.val rfl (run_move (by conv => lhs; whnf)) ?_
  refine RL.val rfl (run_lenSl (hs.hp hH2) rfl Tryd.underlying46 rfl) ?_
  refine RL.val rfl (run_gtr rfl rfl) ?_
  refine RL.nil ?_
  refine CW.condP rfl (fun h5 => ?_) (fun h5 => ?_)
  · refine CW.seq ?_
    refine CW.region ?_
    refine RL.callP rfl hH2 (c_clearancelaw03_alive   _ (hT.hp hH2)) (run_call0 Tryd.call29) ?_
    intro w6 hH7
    refine RL.val rfl (run_assign (v := B _) rfl) ?_
    refine RL.nil ?_
    refine CW.ret ?_
    refine outP1 Tryd.results10 (congrArg B ?_) hH7.below
    rfl
  · refine CW.skip ?_
    refine CW.seq ?_
    refine CW.region ?_
    refine RL.val rfl (run_move (v := I _) rfl) ?_
    refine RL.val rfl (run_move (by conv => lhs; whnf)) ?_
    refine RL.callP rfl hH2 (c_relate_Of _ _ _  _ (hs.hp hH2)) (run_call2 Tryd.call43 rfl rfl) ?_
    intro w9 hH10
    refine RL.new rfl hH10 (f := fun b => (.pointer (some ⟨b, 0, none⟩))) (run_alloc zero_rel) ?_
    intro b13 w11 hH12
    refine RL.set hH12 (i := 0) rfl (run_stRel rfl rfl rfl (hH12.blk (i := 0) rfl)) ?_
    intro w14 hH15
    simp only [List.set_cons_zero, List.set_cons_succ] at hH15
    refine RL.nil ?_
    refine CW.seq ?_
    refine CW.region ?_
    refine RL.val rfl (run_mkF1 (by conv => lhs; whnf)) ?_
    refine RL.val rfl (run_assign (v := .func _ _ _) rfl) ?_
    refine RL.nil ?_
    refine CW.seq ?_
    refine CW.region ?_
    refine RL.val rfl (run_assign (v := B false) rfl) ?_
    refine RL.nil ?_
    refine CW.seq ?_
    refine CW.seq ?_
    refine CW.region ?_
    refine RL.val rfl (run_move (by conv => lhs; whnf)) ?_
    refine RL.val rfl (run_lenSl (hs.hp hH15) rfl Tryd.underlying46 rfl) ?_
    refine RL.val rfl (run_move (v := I 0) rfl) ?_
    refine RL.nil ?_
    refine CW.block ?_
    refine CW.loop (G := (Int)) (fun (k : Int) s' w' => (Fr [9, 11, 23, 24, 25, 26, 27, 28, 29, 30, 31, 32, 33, 34, 35, 36, 37, 38] _ s') ∧ (Hp w w' _) ∧ (s' 9 = B (wantTo n (a, b) l k)) ∧ (s' 23 = I k) ∧ (0 ≤ k) ∧ (k ≤ l.length)) (fun (k : Int) => (l.length - k).toNat) (0) ⟨Fr.refl _ _, hH15, rfl, rfl, (by omega), (by omega)⟩ ?_
    rintro k sg16 w16 ⟨fr16, hH16, e9_16, e23_16, h0, hk⟩
    have e0_16 : sg16 0 = I _ := (fr16 0 rfl).trans rfl
    have e1_16 := (fr16 1 rfl).trans (by conv => lhs; whnf)
    have e5_16 : sg16 5 = .pointer (some ⟨_, _, none⟩) := (fr16 5 rfl).trans rfl
    have e6_16 : sg16 6 = B _ := (fr16 6 rfl).trans rfl
    have e7_16 : sg16 7 = .pointer (some ⟨_, _, none⟩) := (fr16 7 rfl).trans rfl
    have e8_16 : sg16 8 = .func _ _ _ := (fr16 8 rfl).trans rfl
    have e21_16 := (fr16 21 rfl).trans (by conv => lhs; whnf)
    have e22_16 : sg16 22 = I _ := (fr16 22 rfl).trans rfl
    refine CW.seq ?_
    refine CW.region ?_
    refine RL.val rfl (run_lss e23_16 e22_16) ?_
    refine RL.nil ?_
    refine CW.seq ?_
    refine CW.condP rfl (fun h19 => ?_) (fun h19 => ?_)
    · refine CW.skip ?_
      refine CW.seq ?_
      refine CW.block ?_
      refine CW.seq ?_
      refine CW.region ?_
      refine RL.val rfl (run_indexAddrS (hs.hp hH16) Tryd.underlying46 Tryd.sizeOf27 e21_16 e23_16 (by omega)) ?_
      refine RL.val rfl (run_ldPair (hs.hp hH16) Tryd.underlying27 rfl rfl rfl (by omega)) ?_
      refine RL.new rfl hH16 (f := fun b => (.pointer (some ⟨b, 0, none⟩))) (run_alloc Tryd.zeroValue27) ?_
      intro b22 w20 hH21
      refine RL.set hH21 (i := 0) rfl (run_stW (c' := #[I _, I _]) rfl rfl rfl (pair_one _ _) (hH21.blk (i := 0) rfl) rfl) ?_
      intro w23 hH24
      simp only [List.set_cons_zero, List.set_cons_succ] at hH24
      refine RL.nil ?_
      refine CW.region ?_
      refine RL.val rfl (run_move e9_16) ?_
      refine RL.val rfl (run_move (v := B _) rfl) ?_
      refine RL.split (dj := 28) rfl (fun h25 => ?_) (fun h25 => ?_)
      · refine RL.gF rfl rfl (bR (c := true) h25) rfl ?_
        refine RL.gF rfl rfl (bR (c := true) h25) rfl ?_
        refine RL.gF rfl rfl (bR (c := true) h25) rfl ?_
        refine RL.gF rfl rfl (bR (c := true) h25) rfl ?_
        refine RL.gU rfl rfl rfl ?_
        refine RL.gU rfl rfl rfl ?_
        refine RL.gU rfl rfl rfl ?_
        refine RL.gF rfl rfl (bR (c := true) h25) rfl ?_
        refine RL.val rfl (run_pickT (bR (c := true) h25) (v := B true) rfl) ?_
        refine RL.val rfl (run_assign (v := B _) rfl) ?_
        refine RL.nil ?_
        refine CW.region ?_
        refine RL.val rfl (run_add e23_16 rfl (by omega)) ?_
        refine RL.val rfl (run_move (v := I _) rfl) ?_
        refine RL.nil ?_
        refine ⟨k + 1, ?_, (((((((((((((((((fr16.u rfl).u rfl).u rfl).u rfl).u rfl).u rfl).u rfl).u rfl).u rfl).u rfl).u rfl).u rfl).u rfl).u rfl).u rfl).u rfl).u rfl).u rfl, (hH24.sub (.cons _ (List.Sublist.refl _))), (congrArg B (by first | exact want_t h0 ‹_› ‹_› | exact want_e h0 ‹_› ‹_› ‹_› | exact want_n h0 ‹_› ‹_› ‹_›)), (congrArg I (by first | rfl | omega)), ?_, ?_⟩
        · ((try dsimp only); omega)
        · omega
        · omega
      · refine RL.gT rfl (bR (c := false) h25) ?_
        refine RL.val rfl (run_ldA (cs := [I _, I _]) Tryd.underlying27 rfl rfl rfl (rangeAt_cells (hH24.blk (i := 0) rfl))) ?_
        refine RL.gT rfl (bR (c := false) h25) ?_
        refine RL.val rfl (run_ldA (cs := [I _, I _]) Tryd.underlying27 rfl rfl e5_16 (rangeAt_cells (hH24.blk (i := 2) rfl))) ?_
        refine RL.gT rfl (bR (c := false) h25) ?_
        refine RL.val rfl (run_eqlPair pairT_fact rfl rfl) ?_
        refine RL.gT rfl (bR (c := false) h25) ?_
        refine RL.val rfl (run_move (v := B _) rfl) ?_
        refine RL.splitP (dj := 32) rfl (fun h27 => ?_) (fun h27 => ?_)
        · refine RL.gT rfl (bT h27) ?_
          refine RL.val rfl (run_move e8_16) ?_
          refine RL.gT rfl (bT h27) ?_
          refine RL.val rfl (run_ldA (cs := [I _, I _]) Tryd.underlying27 rfl rfl rfl (rangeAt_cells (hH24.blk (i := 0) rfl))) ?_
          refine RL.gT rfl (bT h27) ?_
          refine RL.callP rfl hH24 (c_clearancelaw03_RelateOf_1 _ _ (l.getD k.toNat (0, 0))  _ (hH24.blk (i := 1) rfl)) (run_callC1 Tryd.call51 (cs := [.pointer (some ⟨b13, 0, none⟩)]) rfl rfl) ?_
          intro w28 hH29
          refine RL.gT rfl (bR (c := false) h25) ?_
          refine RL.val rfl (run_pickT (bT h27) (v := B _) rfl) ?_
          refine RL.val rfl (run_pickF (bR (c := false) h25) (v := B _) rfl) ?_
          refine RL.val rfl (run_assign (v := B _) rfl) ?_
          refine RL.nil ?_
          refine CW.region ?_
          refine RL.val rfl (run_add e23_16 rfl (by omega)) ?_
          refine RL.val rfl (run_move (v := I _) rfl) ?_
          refine RL.nil ?_
          refine ⟨k + 1, ?_, (((((((((((((((((fr16.u rfl).u rfl).u rfl).u rfl).u rfl).u rfl).u rfl).u rfl).u rfl).u rfl).u rfl).u rfl).u rfl).u rfl).u rfl).u rfl).u rfl).u rfl, (hH29.sub (.cons _ (List.Sublist.refl _))), (congrArg B (by first | exact want_t h0 ‹_› ‹_› | exact want_e h0 ‹_› ‹_› ‹_› | exact want_n h0 ‹_› ‹_› ‹_›)), (congrArg I (by first | rfl | omega)), ?_, ?_⟩
          · ((try dsimp only); omega)
          · omega
          · omega
        · refine RL.gF rfl rfl (bF h27) rfl ?_
          refine RL.gF rfl rfl (bF h27) rfl ?_
          refine RL.gF rfl rfl (bF h27) rfl ?_
          refine RL.gT rfl (bR (c := false) h25) ?_
          refine RL.val rfl (run_pickF (bF h27) (v := B false) rfl) ?_
          refine RL.val rfl (run_pickF (bR (c := false) h25) (v := B _) rfl) ?_
          refine RL.val rfl (run_assign (v := B _) rfl) ?_
          refine RL.nil ?_
          refine CW.region ?_
          refine RL.val rfl (run_add e23_16 rfl (by omega)) ?_
          refine RL.val rfl (run_move (v := I _) rfl) ?_
          refine RL.nil ?_
          refine ⟨k + 1, ?_, (((((((((((((((((fr16.u rfl).u rfl).u rfl).u rfl).u rfl).u rfl).u rfl).u rfl).u rfl).u rfl).u rfl).u rfl).u rfl).u rfl).u rfl).u rfl).u rfl).u rfl, (hH24.sub (.cons _ (List.Sublist.refl _))), (congrArg B (by first | exact want_t h0 ‹_› ‹_› | exact want_e h0 ‹_› ‹_› ‹_› | exact want_n h0 ‹_› ‹_› ‹_›)), (congrArg I (by first | rfl | omega)), ?_, ?_⟩
          · ((try dsimp only); omega)
          · omega
          · omega
    · refine CW.exit (id := 0) rfl ?_
      refine CW.seq ?_
      refine CW.seq ?_
      refine CW.regionD (by kernel_rfl) hH16 ?_
      intro w31 hH32
      refine AN.take 0 rfl rfl (by kernel_rfl) (by kernel_rfl) (by kernel_rfl) (hH32.sub (List.Sublist.refl _)) (fun w hS => run_fieldAddr Tryd.underlying25 rfl (off := 0) rfl Tryd.sizeOf3 (by decide) e7_16) ?_
      refine AN.take 1 rfl rfl (by kernel_rfl) (by kernel_rfl) (by kernel_rfl) (hH32.sub (List.Sublist.refl _)) (fun w hS => run_ld Tryd.underlying3 rfl rfl (hS.cell (i := 0) rfl (relC_N _))) ?_
      refine AN.take 2 rfl rfl (by kernel_rfl) (by kernel_rfl) (by kernel_rfl) (hH32.sub (List.Sublist.refl _)) (fun w hS => run_move e0_16) ?_
      refine AN.take 3 rfl rfl (by kernel_rfl) (by kernel_rfl) (by kernel_rfl) (hH32.sub (List.Sublist.refl _)) (fun w hS => run_bld (vs := [(0, I _)]) rfl (built_rel _)) ?_
      refine AN.one 4 (by kernel_rfl) ?_
      refine AO.callP rfl gnone rfl hH32 (List.Sublist.refl _) (c_clearanceref03_Points _  _) (run_call1 Tryd.call25 rfl) ?_
      intro w33 hH34
      refine AN.take 5 rfl rfl (by kernel_rfl) (by kernel_rfl) (by kernel_rfl) (hH34.sub (List.Sublist.refl _)) (fun w hS => run_neq rfl rfl) ?_
      refine AN.take 6 rfl rfl (by kernel_rfl) (by kernel_rfl) (by kernel_rfl) (hH34.sub (List.Sublist.refl _)) (fun w hS => run_move (v := B _) rfl) ?_
      refine AN.takeG 7 rfl rfl (bF (by rw [of_n]; simp)) rfl (by kernel_rfl) (by kernel_rfl) (by kernel_rfl) (hH34.sub (List.Sublist.refl _)) (fun w hS => run_move e0_16) ?_
      refine AN.takeG 9 rfl rfl (bF (by rw [of_n]; simp)) rfl (by kernel_rfl) (by kernel_rfl) (by kernel_rfl) (hH34.sub (List.Sublist.refl _)) (fun w hS => run_fieldAddr Tryd.underlying25 rfl (off := 0) rfl Tryd.sizeOf3 (by decide) e7_16) ?_
      refine AN.takeG 10 rfl rfl (bF (by rw [of_n]; simp)) rfl (by kernel_rfl) (by kernel_rfl) (by kernel_rfl) (hH34.sub (List.Sublist.refl _)) (fun w hS => run_ld Tryd.underlying3 rfl rfl (hS.cell (i := 0) rfl (relC_N _))) ?_
      refine AN.takeG 11 rfl rfl (bF (by rw [of_n]; simp)) rfl (by kernel_rfl) (by kernel_rfl) (by kernel_rfl) (hH34.sub (List.Sublist.refl _)) (fun w hS => run_bld (vs := [(0, I _)]) rfl (built_rel _)) ?_
      refine AN.one 8 (by kernel_rfl) ?_
      refine AO.callP rfl (gsome rfl (bF (by rw [of_n]; simp))) rfl hH34 (List.Sublist.refl _) (c_relate_New _  _) (run_call1 Tryd.call52 rfl) ?_
      intro w36 hH37
      refine AN.takeG 12 rfl rfl (bF (by rw [of_n]; simp)) rfl (by kernel_rfl) (by kernel_rfl) (by kernel_rfl) (hH37.sub (List.Sublist.refl _)) (fun w hS => run_neqRel relT_fact rfl rfl) ?_
      refine AN.take 13 rfl rfl (by kernel_rfl) (by kernel_rfl) (by kernel_rfl) (hH37.sub (List.Sublist.refl _)) (fun w hS => run_pickF (bF (by rw [of_n]; simp)) (v := B _) rfl) ?_
      refine AN.take 14 rfl rfl (by kernel_rfl) (by kernel_rfl) (by kernel_rfl) (hH37.sub (List.Sublist.refl _)) (fun w hS => run_move (v := B _) rfl) ?_
      refine AN.takeG 15 rfl rfl (bR (c := false) (by rw [decide_eq_true (of_new n l)]; rfl)) rfl (by kernel_rfl) (by kernel_rfl) (by kernel_rfl) (hH37.sub (List.Sublist.refl _)) (fun w hS => run_ldRel Tryd.underlying25 rfl rfl e7_16 (hS.blk (i := 0) rfl)) ?_
      refine AN.takeG 16 rfl rfl (bR (c := false) (by rw [decide_eq_true (of_new n l)]; rfl)) rfl (by kernel_rfl) (by kernel_rfl) (by kernel_rfl) (hH37.sub (List.Sublist.refl _)) (fun w hS => run_fieldAddr Tryd.underlying27 rfl (off := 0) rfl Tryd.sizeOf3 (by decide) e5_16) ?_
      refine AN.takeG 17 rfl rfl (bR (c := false) (by rw [decide_eq_true (of_new n l)]; rfl)) rfl (by kernel_rfl) (by kernel_rfl) (by kernel_rfl) (hH37.sub (List.Sublist.refl _)) (fun w hS => run_ld Tryd.underlying3 rfl rfl (hS.cell (i := 1) rfl (v := I _) rfl)) ?_
      refine AN.takeG 18 rfl rfl (bR (c := false) (by rw [decide_eq_true (of_new n l)]; rfl)) rfl (by kernel_rfl) (by kernel_rfl) (by kernel_rfl) (hH37.sub (List.Sublist.refl _)) (fun w hS => run_fieldAddr Tryd.underlying27 rfl (off := 1) rfl Tryd.sizeOf3 (by decide) e5_16) ?_
      refine AN.takeG 19 rfl rfl (bR (c := false) (by rw [decide_eq_true (of_new n l)]; rfl)) rfl (by kernel_rfl) (by kernel_rfl) (by kernel_rfl) (hH37.sub (List.Sublist.refl _)) (fun w hS => run_ld Tryd.underlying3 rfl rfl (hS.cell (i := 1) rfl (v := I _) rfl)) ?_
      refine AN.takeG 21 rfl rfl (bR (c := false) (by rw [decide_eq_true (of_new n l)]; rfl)) rfl (by kernel_rfl) (by kernel_rfl) (by kernel_rfl) (hH37.sub (List.Sublist.refl _)) (fun w hS => run_move e9_16) ?_
      refine AN.one 20 (by kernel_rfl) ?_
      refine AO.callP rfl (gsome rfl (bR (c := false) (by rw [decide_eq_true (of_new n l)]; rfl))) rfl hH37 (List.Sublist.refl _) (c_relate_Has _ _ _  _) (run_call3 Tryd.call35 rfl rfl rfl) ?_
      intro w39 hH40
      refine AN.takeG 22 rfl rfl (bR (c := false) (by rw [decide_eq_true (of_new n l)]; rfl)) rfl (by kernel_rfl) (by kernel_rfl) (by kernel_rfl) (hH40.sub (List.Sublist.refl _)) (fun w hS => run_neqB Tryd.underlying4 rfl rfl) ?_
      refine AN.take 23 rfl rfl (by kernel_rfl) (by kernel_rfl) (by kernel_rfl) (hH40.sub (List.Sublist.refl _)) (fun w hS => run_pickF (bR (c := false) (by rw [decide_eq_true (of_new n l)]; rfl)) (v := B _) rfl) ?_
      refine AN.done (by kernel_rfl) ?_
      refine CW.condF (bR (c := false) (by rw [of_want n l (a, b) ‹_›]; simp)) ?_
      refine CW.skip ?_
      refine CW.seq ?_
      refine CW.region ?_
      refine RL.val rfl (run_ldRel Tryd.underlying25 rfl rfl e7_16 (hH40.blk (i := 0) rfl)) ?_
      refine RL.val rfl (run_fieldAddr Tryd.underlying27 rfl (off := 0) rfl Tryd.sizeOf3 (by decide) e5_16) ?_
      refine RL.val rfl (run_ld Tryd.underlying3 rfl rfl (hH40.cell (i := 1) rfl (v := I _) rfl)) ?_
      refine RL.val rfl (run_fieldAddr Tryd.underlying27 rfl (off := 1) rfl Tryd.sizeOf3 (by decide) e5_16) ?_
      refine RL.val rfl (run_ld Tryd.underlying3 rfl rfl (hH40.cell (i := 1) rfl (v := I _) rfl)) ?_
      refine RL.callP rfl hH40 (c_relate_With _ _ _  _) (run_call3 Tryd.call53 rfl rfl rfl) ?_
      intro w43 hH44
      refine RL.new rfl hH44 (f := fun b => (.pointer (some ⟨b, 0, none⟩))) (run_alloc zero_rel) ?_
      intro b47 w45 hH46
      refine RL.set hH46 (i := 0) rfl (run_stRel rfl rfl rfl (hH46.blk (i := 0) rfl)) ?_
      intro w48 hH49
      simp only [List.set_cons_zero, List.set_cons_succ] at hH49
      refine RL.nil ?_
      refine CW.seq ?_
      refine CW.regionD (by kernel_rfl) hH49 ?_
      intro w50 hH51
      refine AN.take 0 rfl rfl (by kernel_rfl) (by kernel_rfl) (by kernel_rfl) (hH51.sub (List.Sublist.refl _)) (fun w hS => run_ldRel Tryd.underlying25 rfl rfl rfl (hS.blk (i := 0) rfl)) ?_
      refine AN.take 1 rfl rfl (by kernel_rfl) (by kernel_rfl) (by kernel_rfl) (hH51.sub (List.Sublist.refl _)) (fun w hS => run_move e0_16) ?_
      refine AN.take 3 rfl rfl (by kernel_rfl) (by kernel_rfl) (by kernel_rfl) (hH51.sub (List.Sublist.refl _)) (fun w hS => run_move e1_16) ?_
      refine AN.take 5 rfl rfl (by kernel_rfl) (by kernel_rfl) (by kernel_rfl) (hH51.sub (List.Sublist.refl _)) (fun w hS => run_ldA (cs := [I _, I _]) Tryd.underlying27 rfl rfl e5_16 (rangeAt_cells (hS.blk (i := 2) rfl))) ?_
      refine AN.two 2 6 (by kernel_rfl) ?_ ?_
      · refine AO.new rfl gnone rfl hH51 (List.Sublist.refl _) (f := fun b => .slice (some ⟨b, 0, none⟩) 0 0) (run_mkE Tryd.underlying46 Tryd.sizeOf27) ?_
        intro b54 w52 hH53
        (try simp only [List.flatMap_cons, List.flatMap_nil, clI, clB, clS, clP, clL, clA, List.append_nil, List.cons_append, List.nil_append] at hH53)
        have hH55 := hH53.blkRow 0 2 rfl (by decide)
        refine AN.two 4 6 (by kernel_rfl) ?_ ?_
        · refine AO.app rfl gnone rfl hH55 (j := 0) rfl (fun _ => (.cons _ (List.Sublist.refl _))) (hs.hp hH55) rfl rfl Tryd.underlying46 rfl rfl (size := 2) (bytes := 16) rfl rfl rfl (by decide) (by first | exact prL_cell _ | simp [Value.oneCell']) (by omega) (by simp only [maxLen]; omega) ?_
          intro v58 w56 hH57
          simp only [List.set_cons_zero, List.set_cons_succ] at hH57
          refine AN.one 6 (by kernel_rfl) ?_
          refine AO.new rfl gnone rfl hH57 (.cons _ (List.Sublist.refl _)) (f := fun b => .slice (some ⟨b, 0, none⟩) 1 1) (run_mkL Tryd.underlying46 rfl rfl (sz := 2) (vs := [.agg #[_, _]]) rfl rfl (by decide) (by decide) rfl rfl) ?_
          intro b61 w59 hH60
          (try simp only [List.flatMap_cons, List.flatMap_nil, clI, clB, clS, clP, clL, clA, List.append_nil, List.cons_append, List.nil_append] at hH60)
          refine AN.one 7 (by kernel_rfl) ?_
          refine AO.app rfl gnone rfl hH60 (j := 1) rfl (fun _ => (.cons _ (.cons _ (List.Sublist.refl _)))) (hH60.slBlk (i := 0) (n := 1) (sz := 2) rfl rfl (by decide)) rfl rfl Tryd.underlying46 rfl rfl (size := 2) (bytes := 16) rfl rfl rfl (by decide) (by first | exact prL_cell _ | simp [Value.oneCell']) (by omega) (by simp only [maxLen]; omega) ?_
          intro v64 w62 hH63
          simp only [List.set_cons_zero, List.set_cons_succ] at hH63
          refine AN.one 8 (by kernel_rfl) ?_
          refine AO.callP rfl gnone rfl hH63 (.cons _ (.cons _ (List.Sublist.refl _))) (c_relate_Of n _ (l ++ [(a, b)]) _ ((hH63.sl (i := 1) rfl).conv (by simp) (by simp))) (run_call2 Tryd.call43 rfl rfl) ?_
          intro w65 hH66
          refine AN.take 9 rfl rfl (by kernel_rfl) (by kernel_rfl) (by kernel_rfl) (hH66.sub (.cons _ (.cons _ (List.Sublist.refl _)))) (fun w hS => run_eqlRel relT_fact rfl rfl) ?_
          refine AN.take 10 rfl rfl (by kernel_rfl) (by kernel_rfl) (by kernel_rfl) (hH66.sub (.cons _ (.cons _ (List.Sublist.refl _)))) (fun w hS => run_move (v := B _) rfl) ?_
          refine AN.takeG 11 rfl rfl (bT (by rw [with_of]; exact eq_refl _)) rfl (by kernel_rfl) (by kernel_rfl) (by kernel_rfl) (hH66.sub (.cons _ (.cons _ (List.Sublist.refl _)))) (fun w hS => run_ldRel Tryd.underlying25 rfl rfl rfl (hS.blk (i := 0) rfl)) ?_
          refine AN.takeG 12 rfl rfl (bT (by rw [with_of]; exact eq_refl _)) rfl (by kernel_rfl) (by kernel_rfl) (by kernel_rfl) (hH66.sub (.cons _ (.cons _ (List.Sublist.refl _)))) (fun w hS => run_fieldAddr Tryd.underlying27 rfl (off := 0) rfl Tryd.sizeOf3 (by decide) e5_16) ?_
          refine AN.takeG 13 rfl rfl (bT (by rw [with_of]; exact eq_refl _)) rfl (by kernel_rfl) (by kernel_rfl) (by kernel_rfl) (hH66.sub (.cons _ (.cons _ (List.Sublist.refl _)))) (fun w hS => run_ld Tryd.underlying3 rfl rfl (hS.cell (i := 2) rfl (v := I _) rfl)) ?_
          refine AN.takeG 14 rfl rfl (bT (by rw [with_of]; exact eq_refl _)) rfl (by kernel_rfl) (by kernel_rfl) (by kernel_rfl) (hH66.sub (.cons _ (.cons _ (List.Sublist.refl _)))) (fun w hS => run_fieldAddr Tryd.underlying27 rfl (off := 1) rfl Tryd.sizeOf3 (by decide) e5_16) ?_
          refine AN.takeG 15 rfl rfl (bT (by rw [with_of]; exact eq_refl _)) rfl (by kernel_rfl) (by kernel_rfl) (by kernel_rfl) (hH66.sub (.cons _ (.cons _ (List.Sublist.refl _)))) (fun w hS => run_ld Tryd.underlying3 rfl rfl (hS.cell (i := 2) rfl (v := I _) rfl)) ?_
          refine AN.takeG 17 rfl rfl (bT (by rw [with_of]; exact eq_refl _)) rfl (by kernel_rfl) (by kernel_rfl) (by kernel_rfl) (hH66.sub (.cons _ (.cons _ (List.Sublist.refl _)))) (fun w hS => run_move e8_16) ?_
          refine AN.takeG 18 rfl rfl (bT (by rw [with_of]; exact eq_refl _)) rfl (by kernel_rfl) (by kernel_rfl) (by kernel_rfl) (hH66.sub (.cons _ (.cons _ (List.Sublist.refl _)))) (fun w hS => run_ldA (cs := [I _, I _]) Tryd.underlying27 rfl rfl e5_16 (rangeAt_cells (hS.blk (i := 2) rfl))) ?_
          refine AN.one 16 (by kernel_rfl) ?_
          refine AO.callP rfl (gsome rfl (bT (by rw [with_of]; exact eq_refl _))) rfl hH66 (.cons _ (.cons _ (List.Sublist.refl _))) (c_clearanceref03_Has _ _ _  _) (run_call3 Tryd.call26 rfl rfl rfl) ?_
          intro w68 hH69
          refine AN.one 19 (by kernel_rfl) ?_
          refine AO.callP rfl (gsome rfl (bT (by rw [with_of]; exact eq_refl _))) rfl hH69 (.cons _ (.cons _ (List.Sublist.refl _))) (c_clearancelaw03_RelateOf_1 _ _ (a, b)  _ (hH69.blk (i := 3) rfl)) (run_callC1 Tryd.call51 (cs := [.pointer (some ⟨b13, 0, none⟩)]) rfl rfl) ?_
          intro w71 hH72
          refine AN.takeG 20 rfl rfl (bT (by rw [with_of]; exact eq_refl _)) rfl (by kernel_rfl) (by kernel_rfl) (by kernel_rfl) (hH72.sub (.cons _ (.cons _ (List.Sublist.refl _)))) (fun w hS => run_eqlB Tryd.underlying4 rfl rfl) ?_
          refine AN.take 21 rfl rfl (by kernel_rfl) (by kernel_rfl) (by kernel_rfl) (hH72.sub (.cons _ (.cons _ (List.Sublist.refl _)))) (fun w hS => run_pickT (bT (by rw [with_of]; exact eq_refl _)) (v := B _) rfl) ?_
          refine AN.take 22 rfl rfl (by kernel_rfl) (by kernel_rfl) (by kernel_rfl) (hH72.sub (.cons _ (.cons _ (List.Sublist.refl _)))) (fun w hS => run_move (v := B _) rfl) ?_
          refine AN.one 23 (by kernel_rfl) ?_
          refine AO.callP rfl (gsome rfl (bR (c := true) (by rw [with_of, of_in n l (a, b), inR_of]; simp))) rfl hH72 (.cons _ (.cons _ (List.Sublist.refl _))) (c_clearancelaw03_alive   _ (hT.hp hH72)) (run_call0 Tryd.call29) ?_
          intro w75 hH76
          refine AN.take 24 rfl rfl (by kernel_rfl) (by kernel_rfl) (by kernel_rfl) (hH76.sub (.cons _ (.cons _ (List.Sublist.refl _)))) (fun w hS => run_pickT (bR (c := true) (by rw [with_of, of_in n l (a, b), inR_of]; simp)) (v := B _) rfl) ?_
          refine AN.take 25 rfl rfl (by kernel_rfl) (by kernel_rfl) (by kernel_rfl) (hH76.sub (.cons _ (.cons _ (List.Sublist.refl _)))) (fun w hS => run_assign (v := B _) rfl) ?_
          refine AN.done (by kernel_rfl) ?_
          refine CW.ret ?_
          refine outP1 Tryd.results10 (congrArg B ?_) hH76.below
          rfl
        · refine AO.new rfl gnone rfl hH55 (.cons _ (List.Sublist.refl _)) (f := fun b => .slice (some ⟨b, 0, none⟩) 1 1) (run_mkL Tryd.underlying46 rfl rfl (sz := 2) (vs := [.agg #[_, _]]) rfl rfl (by decide) (by decide) rfl rfl) ?_
          intro b80 w78 hH79
          (try simp only [List.flatMap_cons, List.flatMap_nil, clI, clB, clS, clP, clL, clA, List.append_nil, List.cons_append, List.nil_append] at hH79)
          refine AN.one 4 (by kernel_rfl) ?_
          refine AO.app rfl gnone rfl hH79 (j := 1) rfl (fun _ => (.cons _ (.cons _ (List.Sublist.refl _)))) (hs.hp hH79) rfl rfl Tryd.underlying46 rfl rfl (size := 2) (bytes := 16) rfl rfl rfl (by decide) (by first | exact prL_cell _ | simp [Value.oneCell']) (by omega) (by simp only [maxLen]; omega) ?_
          intro v83 w81 hH82
          simp only [List.set_cons_zero, List.set_cons_succ] at hH82
          refine AN.one 7 (by kernel_rfl) ?_
          refine AO.app rfl gnone rfl hH82 (j := 1) rfl (fun _ => (.cons _ (.cons _ (List.Sublist.refl _)))) (hH82.slBlk (i := 0) (n := 1) (sz := 2) rfl rfl (by decide)) rfl rfl Tryd.underlying46 rfl rfl (size := 2) (bytes := 16) rfl rfl rfl (by decide) (by first | exact prL_cell _ | simp [Value.oneCell']) (by omega) (by simp only [maxLen]; omega) ?_
          intro v86 w84 hH85
          simp only [List.set_cons_zero, List.set_cons_succ] at hH85
          refine AN.one 8 (by kernel_rfl) ?_
          refine AO.callP rfl gnone rfl hH85 (.cons _ (.cons _ (List.Sublist.refl _))) (c_relate_Of n _ (l ++ [(a, b)]) _ ((hH85.sl (i := 1) rfl).conv (by simp) (by simp))) (run_call2 Tryd.call43 rfl rfl) ?_
          intro w87 hH88
          refine AN.take 9 rfl rfl (by kernel_rfl) (by kernel_rfl) (by kernel_rfl) (hH88.sub (.cons _ (.cons _ (List.Sublist.refl _)))) (fun w hS => run_eqlRel relT_fact rfl rfl) ?_
          refine AN.take 10 rfl rfl (by kernel_rfl) (by kernel_rfl) (by kernel_rfl) (hH88.sub (.cons _ (.cons _ (List.Sublist.refl _)))) (fun w hS => run_move (v := B _) rfl) ?_
          refine AN.takeG 11 rfl rfl (bT (by rw [with_of]; exact eq_refl _)) rfl (by kernel_rfl) (by kernel_rfl) (by kernel_rfl) (hH88.sub (.cons _ (.cons _ (List.Sublist.refl _)))) (fun w hS => run_ldRel Tryd.underlying25 rfl rfl rfl (hS.blk (i := 0) rfl)) ?_
          refine AN.takeG 12 rfl rfl (bT (by rw [with_of]; exact eq_refl _)) rfl (by kernel_rfl) (by kernel_rfl) (by kernel_rfl) (hH88.sub (.cons _ (.cons _ (List.Sublist.refl _)))) (fun w hS => run_fieldAddr Tryd.underlying27 rfl (off := 0) rfl Tryd.sizeOf3 (by decide) e5_16) ?_
          refine AN.takeG 13 rfl rfl (bT (by rw [with_of]; exact eq_refl _)) rfl (by kernel_rfl) (by kernel_rfl) (by kernel_rfl) (hH88.sub (.cons _ (.cons _ (List.Sublist.refl _)))) (fun w hS => run_ld Tryd.underlying3 rfl rfl (hS.cell (i := 2) rfl (v := I _) rfl)) ?_
          refine AN.takeG 14 rfl rfl (bT (by rw [with_of]; exact eq_refl _)) rfl (by kernel_rfl) (by kernel_rfl) (by kernel_rfl) (hH88.sub (.cons _ (.cons _ (List.Sublist.refl _)))) (fun w hS => run_fieldAddr Tryd.underlying27 rfl (off := 1) rfl Tryd.sizeOf3 (by decide) e5_16) ?_
          refine AN.takeG 15 rfl rfl (bT (by rw [with_of]; exact eq_refl _)) rfl (by kernel_rfl) (by kernel_rfl) (by kernel_rfl) (hH88.sub (.cons _ (.cons _ (List.Sublist.refl _)))) (fun w hS => run_ld Tryd.underlying3 rfl rfl (hS.cell (i := 2) rfl (v := I _) rfl)) ?_
          refine AN.takeG 17 rfl rfl (bT (by rw [with_of]; exact eq_refl _)) rfl (by kernel_rfl) (by kernel_rfl) (by kernel_rfl) (hH88.sub (.cons _ (.cons _ (List.Sublist.refl _)))) (fun w hS => run_move e8_16) ?_
          refine AN.takeG 18 rfl rfl (bT (by rw [with_of]; exact eq_refl _)) rfl (by kernel_rfl) (by kernel_rfl) (by kernel_rfl) (hH88.sub (.cons _ (.cons _ (List.Sublist.refl _)))) (fun w hS => run_ldA (cs := [I _, I _]) Tryd.underlying27 rfl rfl e5_16 (rangeAt_cells (hS.blk (i := 2) rfl))) ?_
          refine AN.one 16 (by kernel_rfl) ?_
          refine AO.callP rfl (gsome rfl (bT (by rw [with_of]; exact eq_refl _))) rfl hH88 (.cons _ (.cons _ (List.Sublist.refl _))) (c_clearanceref03_Has _ _ _  _) (run_call3 Tryd.call26 rfl rfl rfl) ?_
          intro w90 hH91
          refine AN.one 19 (by kernel_rfl) ?_
          refine AO.callP rfl (gsome rfl (bT (by rw [with_of]; exact eq_refl _))) rfl hH91 (.cons _ (.cons _ (List.Sublist.refl _))) (c_clearancelaw03_RelateOf_1 _ _ (a, b)  _ (hH91.blk (i := 3) rfl)) (run_callC1 Tryd.call51 (cs := [.pointer (some ⟨b13, 0, none⟩)]) rfl rfl) ?_
          intro w93 hH94
          refine AN.takeG 20 rfl rfl (bT (by rw [with_of]; exact eq_refl _)) rfl (by kernel_rfl) (by kernel_rfl) (by kernel_rfl) (hH94.sub (.cons _ (.cons _ (List.Sublist.refl _)))) (fun w hS => run_eqlB Tryd.underlying4 rfl rfl) ?_
          refine AN.take 21 rfl rfl (by kernel_rfl) (by kernel_rfl) (by kernel_rfl) (hH94.sub (.cons _ (.cons _ (List.Sublist.refl _)))) (fun w hS => run_pickT (bT (by rw [with_of]; exact eq_refl _)) (v := B _) rfl) ?_
          refine AN.take 22 rfl rfl (by kernel_rfl) (by kernel_rfl) (by kernel_rfl) (hH94.sub (.cons _ (.cons _ (List.Sublist.refl _)))) (fun w hS => run_move (v := B _) rfl) ?_
          refine AN.one 23 (by kernel_rfl) ?_
          refine AO.callP rfl (gsome rfl (bR (c := true) (by rw [with_of, of_in n l (a, b), inR_of]; simp))) rfl hH94 (.cons _ (.cons _ (List.Sublist.refl _))) (c_clearancelaw03_alive   _ (hT.hp hH94)) (run_call0 Tryd.call29) ?_
          intro w97 hH98
          refine AN.take 24 rfl rfl (by kernel_rfl) (by kernel_rfl) (by kernel_rfl) (hH98.sub (.cons _ (.cons _ (List.Sublist.refl _)))) (fun w hS => run_pickT (bR (c := true) (by rw [with_of, of_in n l (a, b), inR_of]; simp)) (v := B _) rfl) ?_
          refine AN.take 25 rfl rfl (by kernel_rfl) (by kernel_rfl) (by kernel_rfl) (hH98.sub (.cons _ (.cons _ (List.Sublist.refl _)))) (fun w hS => run_assign (v := B _) rfl) ?_
          refine AN.done (by kernel_rfl) ?_
          refine CW.ret ?_
          refine outP1 Tryd.results10 (congrArg B ?_) hH98.below
          rfl
      · refine AO.new rfl gnone rfl hH51 (List.Sublist.refl _) (f := fun b => .slice (some ⟨b, 0, none⟩) 1 1) (run_mkL Tryd.underlying46 rfl rfl (sz := 2) (vs := [.agg #[_, _]]) rfl rfl (by decide) (by decide) rfl rfl) ?_
        intro b102 w100 hH101
        (try simp only [List.flatMap_cons, List.flatMap_nil, clI, clB, clS, clP, clL, clA, List.append_nil, List.cons_append, List.nil_append] at hH101)
        refine AN.one 2 (by kernel_rfl) ?_
        refine AO.new rfl gnone rfl hH101 (.cons _ (List.Sublist.refl _)) (f := fun b => .slice (some ⟨b, 0, none⟩) 0 0) (run_mkE Tryd.underlying46 Tryd.sizeOf27) ?_
        intro b105 w103 hH104
        (try simp only [List.flatMap_cons, List.flatMap_nil, clI, clB, clS, clP, clL, clA, List.append_nil, List.cons_append, List.nil_append] at hH104)
        have hH106 := hH104.blkRow 0 2 rfl (by decide)
        refine AN.one 4 (by kernel_rfl) ?_
        refine AO.app rfl gnone rfl hH106 (j := 0) rfl (fun _ => (.cons _ (.cons _ (List.Sublist.refl _)))) (hs.hp hH106) rfl rfl Tryd.underlying46 rfl rfl (size := 2) (bytes := 16) rfl rfl rfl (by decide) (by first | exact prL_cell _ | simp [Value.oneCell']) (by omega) (by simp only [maxLen]; omega) ?_
        intro v109 w107 hH108
        simp only [List.set_cons_zero, List.set_cons_succ] at hH108
        refine AN.one 7 (by kernel_rfl) ?_
        refine AO.app rfl gnone rfl hH108 (j := 0) rfl (fun _ => (.cons _ (.cons _ (List.Sublist.refl _)))) (hH108.slBlk (i := 1) (n := 1) (sz := 2) rfl rfl (by decide)) rfl rfl Tryd.underlying46 rfl rfl (size := 2) (bytes := 16) rfl rfl rfl (by decide) (by first | exact prL_cell _ | simp [Value.oneCell']) (by omega) (by simp only [maxLen]; omega) ?_
        intro v112 w110 hH111
        simp only [List.set_cons_zero, List.set_cons_succ] at hH111
        refine AN.one 8 (by kernel_rfl) ?_
        refine AO.callP rfl gnone rfl hH111 (.cons _ (.cons _ (List.Sublist.refl _))) (c_relate_Of n _ (l ++ [(a, b)]) _ ((hH111.sl (i := 0) rfl).conv (by simp) (by simp))) (run_call2 Tryd.call43 rfl rfl) ?_
        intro w113 hH114
        refine AN.take 9 rfl rfl (by kernel_rfl) (by kernel_rfl) (by kernel_rfl) (hH114.sub (.cons _ (.cons _ (List.Sublist.refl _)))) (fun w hS => run_eqlRel relT_fact rfl rfl) ?_
        refine AN.take 10 rfl rfl (by kernel_rfl) (by kernel_rfl) (by kernel_rfl) (hH114.sub (.cons _ (.cons _ (List.Sublist.refl _)))) (fun w hS => run_move (v := B _) rfl) ?_
        refine AN.takeG 11 rfl rfl (bT (by rw [with_of]; exact eq_refl _)) rfl (by kernel_rfl) (by kernel_rfl) (by kernel_rfl) (hH114.sub (.cons _ (.cons _ (List.Sublist.refl _)))) (fun w hS => run_ldRel Tryd.underlying25 rfl rfl rfl (hS.blk (i := 0) rfl)) ?_
        refine AN.takeG 12 rfl rfl (bT (by rw [with_of]; exact eq_refl _)) rfl (by kernel_rfl) (by kernel_rfl) (by kernel_rfl) (hH114.sub (.cons _ (.cons _ (List.Sublist.refl _)))) (fun w hS => run_fieldAddr Tryd.underlying27 rfl (off := 0) rfl Tryd.sizeOf3 (by decide) e5_16) ?_
        refine AN.takeG 13 rfl rfl (bT (by rw [with_of]; exact eq_refl _)) rfl (by kernel_rfl) (by kernel_rfl) (by kernel_rfl) (hH114.sub (.cons _ (.cons _ (List.Sublist.refl _)))) (fun w hS => run_ld Tryd.underlying3 rfl rfl (hS.cell (i := 2) rfl (v := I _) rfl)) ?_
        refine AN.takeG 14 rfl rfl (bT (by rw [with_of]; exact eq_refl _)) rfl (by kernel_rfl) (by kernel_rfl) (by kernel_rfl) (hH114.sub (.cons _ (.cons _ (List.Sublist.refl _)))) (fun w hS => run_fieldAddr Tryd.underlying27 rfl (off := 1) rfl Tryd.sizeOf3 (by decide) e5_16) ?_
        refine AN.takeG 15 rfl rfl (bT (by rw [with_of]; exact eq_refl _)) rfl (by kernel_rfl) (by kernel_rfl) (by kernel_rfl) (hH114.sub (.cons _ (.cons _ (List.Sublist.refl _)))) (fun w hS => run_ld Tryd.underlying3 rfl rfl (hS.cell (i := 2) rfl (v := I _) rfl)) ?_
        refine AN.takeG 17 rfl rfl (bT (by rw [with_of]; exact eq_refl _)) rfl (by kernel_rfl) (by kernel_rfl) (by kernel_rfl) (hH114.sub (.cons _ (.cons _ (List.Sublist.refl _)))) (fun w hS => run_move e8_16) ?_
        refine AN.takeG 18 rfl rfl (bT (by rw [with_of]; exact eq_refl _)) rfl (by kernel_rfl) (by kernel_rfl) (by kernel_rfl) (hH114.sub (.cons _ (.cons _ (List.Sublist.refl _)))) (fun w hS => run_ldA (cs := [I _, I _]) Tryd.underlying27 rfl rfl e5_16 (rangeAt_cells (hS.blk (i := 2) rfl))) ?_
        refine AN.one 16 (by kernel_rfl) ?_
        refine AO.callP rfl (gsome rfl (bT (by rw [with_of]; exact eq_refl _))) rfl hH114 (.cons _ (.cons _ (List.Sublist.refl _))) (c_clearanceref03_Has _ _ _  _) (run_call3 Tryd.call26 rfl rfl rfl) ?_
        intro w116 hH117
        refine AN.one 19 (by kernel_rfl) ?_
        refine AO.callP rfl (gsome rfl (bT (by rw [with_of]; exact eq_refl _))) rfl hH117 (.cons _ (.cons _ (List.Sublist.refl _))) (c_clearancelaw03_RelateOf_1 _ _ (a, b)  _ (hH117.blk (i := 3) rfl)) (run_callC1 Tryd.call51 (cs := [.pointer (some ⟨b13, 0, none⟩)]) rfl rfl) ?_
        intro w119 hH120
        refine AN.takeG 20 rfl rfl (bT (by rw [with_of]; exact eq_refl _)) rfl (by kernel_rfl) (by kernel_rfl) (by kernel_rfl) (hH120.sub (.cons _ (.cons _ (List.Sublist.refl _)))) (fun w hS => run_eqlB Tryd.underlying4 rfl rfl) ?_
        refine AN.take 21 rfl rfl (by kernel_rfl) (by kernel_rfl) (by kernel_rfl) (hH120.sub (.cons _ (.cons _ (List.Sublist.refl _)))) (fun w hS => run_pickT (bT (by rw [with_of]; exact eq_refl _)) (v := B _) rfl) ?_
        refine AN.take 22 rfl rfl (by kernel_rfl) (by kernel_rfl) (by kernel_rfl) (hH120.sub (.cons _ (.cons _ (List.Sublist.refl _)))) (fun w hS => run_move (v := B _) rfl) ?_
        refine AN.one 23 (by kernel_rfl) ?_
        refine AO.callP rfl (gsome rfl (bR (c := true) (by rw [with_of, of_in n l (a, b), inR_of]; simp))) rfl hH120 (.cons _ (.cons _ (List.Sublist.refl _))) (c_clearancelaw03_alive   _ (hT.hp hH120)) (run_call0 Tryd.call29) ?_
        intro w123 hH124
        refine AN.take 24 rfl rfl (by kernel_rfl) (by kernel_rfl) (by kernel_rfl) (hH124.sub (.cons _ (.cons _ (List.Sublist.refl _)))) (fun w hS => run_pickT (bR (c := true) (by rw [with_of, of_in n l (a, b), inR_of]; simp)) (v := B _) rfl) ?_
        refine AN.take 25 rfl rfl (by kernel_rfl) (by kernel_rfl) (by kernel_rfl) (hH124.sub (.cons _ (.cons _ (List.Sublist.refl _)))) (fun w hS => run_assign (v := B _) rfl) ?_
        refine AN.done (by kernel_rfl) ?_
        refine CW.ret ?_
        refine outP1 Tryd.results10 (congrArg B ?_) hH124.below
        rfl

theorem c_clearanceref03_between (r : Rl) (i j : Int) (w : World) : Calls Tryd.prog 98 #[.agg (relC r), I i, I j] w (Pure (B (midB r i j (pts r))) w) := by
  have hp := pts_bd r
  refine enter Tryd.func98 rfl Tryd.ntmps98 rfl ?_
  have hH := Hp.start w
  refine CW.seq ?_
  refine CW.region ?_
  refine RL.new rfl hH (f := fun b => (.pointer (some ⟨b, 0, none⟩))) (run_box (v := .agg _) rfl) ?_
  intro b3 w1 hH2
  refine RL.val rfl (run_assign (v := B false) rfl) ?_
  refine RL.nil ?_
  refine CW.seq ?_
  refine CW.seq ?_
  refine CW.region ?_
  refine RL.val rfl (run_assign (v := I 0) rfl) ?_
  refine RL.nil ?_
  refine CW.block ?_
  refine CW.loop (G := (Int)) (fun (k : Int) s' w' => (Fr [6, 7, 8, 9, 10, 11, 12, 13, 14, 15, 16, 17, 18, 19, 20, 21, 22, 23, 24, 25, 26, 27, 28, 29, 30, 31, 32, 33] _ s') ∧ (Hp w w' _) ∧ (s' 7 = I k) ∧ (0 ≤ k) ∧ (k ≤ pts r) ∧ (∀ x : Int, 0 ≤ x → x < k → ¬ (x ≠ i ∧ x ≠ j ∧ hasR r i x = true ∧ hasR r x j = true))) (fun (k : Int) => (pts r - k).toNat) (0) ⟨Fr.refl _ _, hH2, rfl, (by omega), (by omega), fun x a b => absurd b (by omega)⟩ ?_
  rintro k sg4 w4 ⟨fr4, hH4, e7_4, h0, hk, hf⟩
  have e1_4 : sg4 1 = I _ := (fr4 1 rfl).trans rfl
  have e2_4 : sg4 2 = I _ := (fr4 2 rfl).trans rfl
  have e3_4 : sg4 3 = .pointer (some ⟨_, _, none⟩) := (fr4 3 rfl).trans rfl
  refine CW.seq ?_
  refine CW.seq ?_
  refine CW.region ?_
  refine RL.val rfl (run_move e7_4) ?_
  refine RL.val rfl (run_ldRel Tryd.underlying25 rfl rfl e3_4 (hH4.blk (i := 0) rfl)) ?_
  refine RL.callP rfl hH4 (c_clearanceref03_Points _  _) (run_call1 Tryd.call25 rfl) ?_
  intro w5 hH6
  refine RL.val rfl (run_lss rfl rfl) ?_
  refine RL.nil ?_
  refine CW.condP rfl (fun h8 => ?_) (fun h8 => ?_)
  · refine CW.skip ?_
    refine CW.seq ?_
    refine CW.block ?_
    refine CW.seq ?_
    refine CW.region ?_
    refine RL.val rfl (run_move e7_4) ?_
    refine RL.val rfl (run_move e1_4) ?_
    refine RL.val rfl (run_neq rfl rfl) ?_
    refine RL.val rfl (run_move (v := B _) rfl) ?_
    refine RL.splitP (dj := 17) rfl (fun h10 => ?_) (fun h10 => ?_)
    · refine RL.gT rfl (bT h10) ?_
      refine RL.val rfl (run_move e7_4) ?_
      refine RL.gT rfl (bT h10) ?_
      refine RL.val rfl (run_move e2_4) ?_
      refine RL.gT rfl (bT h10) ?_
      refine RL.val rfl (run_neq rfl rfl) ?_
      refine RL.val rfl (run_pickT (bT h10) (v := B _) rfl) ?_
      refine RL.val rfl (run_move (v := B _) rfl) ?_
      refine RL.splitP (dj := 22) rfl (fun h12 => ?_) (fun h12 => ?_)
      · refine RL.gT rfl (bT h12) ?_
        refine RL.val rfl (run_ldRel Tryd.underlying25 rfl rfl e3_4 (hH6.blk (i := 0) rfl)) ?_
        refine RL.gT rfl (bT h12) ?_
        refine RL.val rfl (run_move e1_4) ?_
        refine RL.gT rfl (bT h12) ?_
        refine RL.val rfl (run_move e7_4) ?_
        refine RL.gT rfl (bT h12) ?_
        refine RL.callP rfl hH6 (c_clearanceref03_Has _ _ _  _) (run_call3 Tryd.call26 rfl rfl rfl) ?_
        intro w13 hH14
        refine RL.val rfl (run_pickT (bT h12) (v := B _) rfl) ?_
        refine RL.val rfl (run_move (v := B _) rfl) ?_
        refine RL.split (dj := 28) rfl (fun h16 => ?_) (fun h16 => ?_)
        · refine RL.gT rfl (bR (c := true) h16) ?_
          refine RL.val rfl (run_ldRel Tryd.underlying25 rfl rfl e3_4 (hH14.blk (i := 0) rfl)) ?_
          refine RL.gT rfl (bR (c := true) h16) ?_
          refine RL.val rfl (run_move e7_4) ?_
          refine RL.gT rfl (bR (c := true) h16) ?_
          refine RL.val rfl (run_move e2_4) ?_
          refine RL.gT rfl (bR (c := true) h16) ?_
          refine RL.callP rfl hH14 (c_clearanceref03_Has _ _ _  _) (run_call3 Tryd.call26 rfl rfl rfl) ?_
          intro w17 hH18
          refine RL.val rfl (run_pickT (bR (c := true) h16) (v := B _) rfl) ?_
          refine RL.nil ?_
          refine CW.cond rfl (fun h20 => ?_) (fun h20 => ?_)
          · refine CW.seq ?_
            refine CW.region ?_
            refine RL.val rfl (run_assign (v := B true) rfl) ?_
            refine RL.nil ?_
            refine CW.ret ?_
            refine outP1 Tryd.results98 (congrArg B ?_) hH18.below
            first | exact (mid_found h0 ‹_› ‹_› ‹_› ‹_› ‹_›).symm | exact (mid_none ‹_› hf).symm
          · refine CW.skip ?_
            refine CW.region ?_
            refine RL.val rfl (run_move e7_4) ?_
            refine RL.val rfl (run_add rfl rfl (by omega)) ?_
            refine RL.val rfl (run_assign (v := I _) rfl) ?_
            refine RL.nil ?_
            refine ⟨k + 1, ?_, ((((((((((((((((((((((((((fr4.u rfl).u rfl).u rfl).u rfl).u rfl).u rfl).u rfl).u rfl).u rfl).u rfl).u rfl).u rfl).u rfl).u rfl).u rfl).u rfl).u rfl).u rfl).u rfl).u rfl).u rfl).u rfl).u rfl).u rfl).u rfl).u rfl).u rfl, hH18, (congrArg I (by first | rfl | omega)), ?_, ?_, ?_⟩
            · ((try dsimp only); omega)
            · omega
            · omega
            · exact fun x u v => if e : x = k then e ▸ (by simp [*]) else hf x u (by omega)
        · refine RL.gF rfl rfl (bR (c := false) h16) rfl ?_
          refine RL.gF rfl rfl (bR (c := false) h16) rfl ?_
          refine RL.gF rfl rfl (bR (c := false) h16) rfl ?_
          refine RL.gF rfl rfl (bR (c := false) h16) rfl ?_
          refine RL.val rfl (run_pickF (bR (c := false) h16) (v := B false) rfl) ?_
          refine RL.nil ?_
          refine CW.condF rfl ?_
          refine CW.skip ?_
          refine CW.region ?_
          refine RL.val rfl (run_move e7_4) ?_
          refine RL.val rfl (run_add rfl rfl (by omega)) ?_
          refine RL.val rfl (run_assign (v := I _) rfl) ?_
          refine RL.nil ?_
          refine ⟨k + 1, ?_, ((((((((((((((((((((((((((fr4.u rfl).u rfl).u rfl).u rfl).u rfl).u rfl).u rfl).u rfl).u rfl).u rfl).u rfl).u rfl).u rfl).u rfl).u rfl).u rfl).u rfl).u rfl).u rfl).u rfl).u rfl).u rfl).u rfl).u rfl).u rfl).u rfl).u rfl, hH14, (congrArg I (by first | rfl | omega)), ?_, ?_, ?_⟩
          · ((try dsimp only); omega)
          · omega
          · omega
          · exact fun x u v => if e : x = k then e ▸ (by simp [*]) else hf x u (by omega)
      · refine RL.gF rfl rfl (bF h12) rfl ?_
        refine RL.gF rfl rfl (bF h12) rfl ?_
        refine RL.gF rfl rfl (bF h12) rfl ?_
        refine RL.gF rfl rfl (bF h12) rfl ?_
        refine RL.val rfl (run_pickF (bF h12) (v := B false) rfl) ?_
        refine RL.val rfl (run_move (v := B _) rfl) ?_
        refine RL.gF rfl rfl rfl rfl ?_
        refine RL.gF rfl rfl rfl rfl ?_
        refine RL.gF rfl rfl rfl rfl ?_
        refine RL.gF rfl rfl rfl rfl ?_
        refine RL.val rfl (run_pickF rfl (v := B false) rfl) ?_
        refine RL.nil ?_
        refine CW.condF rfl ?_
        refine CW.skip ?_
        refine CW.region ?_
        refine RL.val rfl (run_move e7_4) ?_
        refine RL.val rfl (run_add rfl rfl (by omega)) ?_
        refine RL.val rfl (run_assign (v := I _) rfl) ?_
        refine RL.nil ?_
        refine ⟨k + 1, ?_, ((((((((((((((((((((((((((fr4.u rfl).u rfl).u rfl).u rfl).u rfl).u rfl).u rfl).u rfl).u rfl).u rfl).u rfl).u rfl).u rfl).u rfl).u rfl).u rfl).u rfl).u rfl).u rfl).u rfl).u rfl).u rfl).u rfl).u rfl).u rfl).u rfl).u rfl, hH6, (congrArg I (by first | rfl | omega)), ?_, ?_, ?_⟩
        · ((try dsimp only); omega)
        · omega
        · omega
        · exact fun x u v => if e : x = k then e ▸ (by simp [*]) else hf x u (by omega)
    · refine RL.gF rfl rfl (bF h10) rfl ?_
      refine RL.gF rfl rfl (bF h10) rfl ?_
      refine RL.gF rfl rfl (bF h10) rfl ?_
      refine RL.val rfl (run_pickF (bF h10) (v := B false) rfl) ?_
      refine RL.val rfl (run_move (v := B _) rfl) ?_
      refine RL.gF rfl rfl rfl rfl ?_
      refine RL.gF rfl rfl rfl rfl ?_
      refine RL.gF rfl rfl rfl rfl ?_
      refine RL.gF rfl rfl rfl rfl ?_
      refine RL.val rfl (run_pickF rfl (v := B false) rfl) ?_
      refine RL.val rfl (run_move (v := B _) rfl) ?_
      refine RL.gF rfl rfl rfl rfl ?_
      refine RL.gF rfl rfl rfl rfl ?_
      refine RL.gF rfl rfl rfl rfl ?_
      refine RL.gF rfl rfl rfl rfl ?_
      refine RL.val rfl (run_pickF rfl (v := B false) rfl) ?_
      refine RL.nil ?_
      refine CW.condF rfl ?_
      refine CW.skip ?_
      refine CW.region ?_
      refine RL.val rfl (run_move e7_4) ?_
      refine RL.val rfl (run_add rfl rfl (by omega)) ?_
      refine RL.val rfl (run_assign (v := I _) rfl) ?_
      refine RL.nil ?_
      refine ⟨k + 1, ?_, ((((((((((((((((((((((((((fr4.u rfl).u rfl).u rfl).u rfl).u rfl).u rfl).u rfl).u rfl).u rfl).u rfl).u rfl).u rfl).u rfl).u rfl).u rfl).u rfl).u rfl).u rfl).u rfl).u rfl).u rfl).u rfl).u rfl).u rfl).u rfl).u rfl).u rfl, hH6, (congrArg I (by first | rfl | omega)), ?_, ?_, ?_⟩
      · ((try dsimp only); omega)
      · omega
      · omega
      · exact fun x u v => if e : x = k then e ▸ (by simp [*]) else hf x u (by omega)
  · refine CW.exit (id := 0) rfl ?_
    refine CW.seq ?_
    refine CW.region ?_
    refine RL.val rfl (run_assign (v := B false) rfl) ?_
    refine RL.nil ?_
    refine CW.ret ?_
    refine outP1 Tryd.results98 (congrArg B ?_) hH6.below
    first | exact (mid_found h0 ‹_› ‹_› ‹_› ‹_› ‹_›).symm | exact (mid_none ‹_› hf).symm

theorem c_clearanceref03_Covers (r : Rl) (w : World) : Calls Tryd.prog 40 #[.agg (relC r)] w (PureRow 27 2 (coversL r).length (prL (coversL r)) w) := by
  have hp := pts_bd r
  refine enter Tryd.func40 rfl Tryd.ntmps40 rfl ?_
  have hH := Hp.start w
  refine CW.seq ?_
  refine CW.region ?_
  refine RL.new rfl hH (f := fun b => (.pointer (some ⟨b, 0, none⟩))) (run_box (v := .agg _) rfl) ?_
  intro b3 w1 hH2
  refine RL.val rfl (run_assign (v := .slice none 0 0) rfl) ?_
  have hH4 := hH2.nilRow 27 2
  refine RL.nil ?_
  refine CW.seq ?_
  refine CW.region ?_
  refine RL.val rfl (run_assign (v := .slice none 0 0) rfl) ?_
  have hH5 := hH4.nilRow 27 2
  refine RL.nil ?_
  refine CW.seq ?_
  refine CW.seq ?_
  refine CW.region ?_
  refine RL.val rfl (run_ldRel Tryd.underlying25 rfl rfl rfl (hH5.blk (i := 2) rfl)) ?_
  refine RL.callP rfl hH5 (c_clearanceref03_Order _  _) (run_call1 Tryd.call75 rfl) ?_
  intro w6 hH7
  refine RL.val rfl (run_not rfl) ?_
  refine RL.nil ?_
  refine CW.cond rfl (fun h10 => ?_) (fun h10 => ?_)
  · refine CW.seq ?_
    refine CW.region ?_
    refine RL.val rfl (run_assign (v := .slice none 0 0) rfl) ?_
    have hH11 := hH7.nilRow 27 2
    refine RL.nil ?_
    refine CW.ret ?_
    exact outR Tryd.results40 rfl hH11 (i := 0) rfl (by first | (rw [coversL, show orderB r = false from nt ‹_›]; rfl) | (rw [coversL, hord, hl, show i = pts r by omega]; rfl)) (by first | (rw [coversL, show orderB r = false from nt ‹_›]; rfl) | (rw [coversL, hord, hl, show i = pts r by omega]; rfl))
  · refine CW.skip ?_
    refine CW.seq ?_
    refine CW.seq ?_
    refine CW.region ?_
    refine RL.val rfl (run_assign (v := I 0) rfl) ?_
    refine RL.nil ?_
    refine CW.block ?_
    have hord : orderB r = true := nf ‹_›
    refine CW.loop (G := (Int) × (List (Int × Int)) × (Value)) (fun (⟨i, l, v3⟩ : (Int) × (List (Int × Int)) × (Value)) s' w' => (Fr [3, 4, 5, 9, 10, 11, 12, 13, 14, 15, 16, 17, 18, 19, 20, 21, 22, 23, 24, 25, 26, 27, 28, 29, 30, 31, 32, 33, 34, 35, 36, 37, 38, 39, 40, 41, 42] _ s') ∧ (Hp w w' (.row v3 27 2 (l.length) (prL l) :: _)) ∧ (s' 3 = v3) ∧ (s' 4 = I i) ∧ (0 ≤ i) ∧ (i ≤ pts r) ∧ (l = coversTo r i)) (fun (⟨i, l, v3⟩ : (Int) × (List (Int × Int)) × (Value)) => (pts r - i).toNat) ((0, [], (.slice none 0 0 : Value))) ⟨Fr.refl _ _, hH7, rfl, rfl, (by omega), (by omega), rfl⟩ ?_
    rintro ⟨i, l, v3⟩ sg12 w12 ⟨fr12, hH12, e3_12, e4_12, h0, h1, hl⟩
    have e1_12 : sg12 1 = .pointer (some ⟨_, _, none⟩) := (fr12 1 rfl).trans rfl
    have e2_12 := (fr12 2 rfl).trans (by conv => lhs; whnf)
    refine CW.seq ?_
    refine CW.seq ?_
    refine CW.region ?_
    refine RL.val rfl (run_move e4_12) ?_
    refine RL.val rfl (run_ldRel Tryd.underlying25 rfl rfl e1_12 (hH12.blk (i := 2) rfl)) ?_
    refine RL.callP rfl hH12 (c_clearanceref03_Points _  _) (run_call1 Tryd.call25 rfl) ?_
    intro w13 hH14
    refine RL.val rfl (run_lss rfl rfl) ?_
    refine RL.nil ?_
    refine CW.condP rfl (fun h16 => ?_) (fun h16 => ?_)
    · refine CW.skip ?_
      refine CW.seq ?_
      refine CW.block ?_
      refine CW.seq ?_
      refine CW.region ?_
      refine RL.val rfl (run_assign (v := I 0) rfl) ?_
      refine RL.nil ?_
      refine CW.block ?_
      refine CW.loop (G := (Int) × (List (Int × Int)) × (Value)) (fun (⟨j, l2, v3⟩ : (Int) × (List (Int × Int)) × (Value)) s' w' => (Fr [3, 5, 15, 16, 17, 18, 19, 20, 21, 22, 23, 24, 25, 26, 27, 28, 29, 30, 31, 32, 33, 34, 35, 36, 37, 38, 39, 40, 41, 42] _ s') ∧ (Hp w w' (.row v3 27 2 (l2.length) (prL l2) :: _)) ∧ (s' 3 = v3) ∧ (s' 5 = I j) ∧ (0 ≤ j) ∧ (j ≤ pts r) ∧ (l2 = coversTo r i ++ covsTo r i j)) (fun (⟨j, l2, v3⟩ : (Int) × (List (Int × Int)) × (Value)) => (pts r - j).toNat) ((0, l, (v3 : Value))) ⟨Fr.refl _ _, hH14, e3_12, rfl, (by omega), (by omega), (by rw [hl, covsTo]; simp [upto])⟩ ?_
      rintro ⟨j, l2, v3⟩ sg17 w17 ⟨fr17, hH17, e3_17, e5_17, j0, j1, h2⟩
      have e1_17 := (fr17 1 rfl).trans e1_12
      have e2_17 := (fr17 2 rfl).trans e2_12
      have e4_17 := (fr17 4 rfl).trans e4_12
      have e9_17 : sg17 9 = I _ := (fr17 9 rfl).trans rfl
      have e10_17 : sg17 10 = .agg _ := (fr17 10 rfl).trans rfl
      have e11_17 : sg17 11 = I _ := (fr17 11 rfl).trans rfl
      have e12_17 : sg17 12 = B _ := (fr17 12 rfl).trans rfl
      refine CW.seq ?_
      refine CW.seq ?_
      refine CW.region ?_
      refine RL.val rfl (run_move e5_17) ?_
      refine RL.val rfl (run_ldRel Tryd.underlying25 rfl rfl e1_17 (hH17.blk (i := 2) rfl)) ?_
      refine RL.callP rfl hH17 (c_clearanceref03_Points _  _) (run_call1 Tryd.call25 rfl) ?_
      intro w18 hH19
      refine RL.val rfl (run_lss rfl rfl) ?_
      refine RL.nil ?_
      refine CW.condP rfl (fun h21 => ?_) (fun h21 => ?_)
      · refine CW.skip ?_
        refine CW.seq ?_
        refine CW.block ?_
        refine CW.seq ?_
        refine CW.region ?_
        refine RL.val rfl (run_move e4_17) ?_
        refine RL.val rfl (run_move e5_17) ?_
        refine RL.val rfl (run_neq rfl rfl) ?_
        refine RL.val rfl (run_move (v := B _) rfl) ?_
        refine RL.splitP (dj := 24) rfl (fun h23 => ?_) (fun h23 => ?_)
        · refine RL.gT rfl (bT h23) ?_
          refine RL.val rfl (run_ldRel Tryd.underlying25 rfl rfl e1_17 (hH19.blk (i := 2) rfl)) ?_
          refine RL.gT rfl (bT h23) ?_
          refine RL.val rfl (run_move e4_17) ?_
          refine RL.gT rfl (bT h23) ?_
          refine RL.val rfl (run_move e5_17) ?_
          refine RL.gT rfl (bT h23) ?_
          refine RL.callP rfl hH19 (c_clearanceref03_Has _ _ _  _) (run_call3 Tryd.call26 rfl rfl rfl) ?_
          intro w24 hH25
          refine RL.val rfl (run_pickT (bT h23) (v := B _) rfl) ?_
          refine RL.val rfl (run_move (v := B _) rfl) ?_
          refine RL.split (dj := 30) rfl (fun h27 => ?_) (fun h27 => ?_)
          · refine RL.gT rfl (bR (c := true) h27) ?_
            refine RL.val rfl (run_ldRel Tryd.underlying25 rfl rfl e1_17 (hH25.blk (i := 2) rfl)) ?_
            refine RL.gT rfl (bR (c := true) h27) ?_
            refine RL.val rfl (run_move e4_17) ?_
            refine RL.gT rfl (bR (c := true) h27) ?_
            refine RL.val rfl (run_move e5_17) ?_
            refine RL.gT rfl (bR (c := true) h27) ?_
            refine RL.callP rfl hH25 (c_clearanceref03_between _ _ _  _) (run_call3 Tryd.call98 rfl rfl rfl) ?_
            intro w28 hH29
            refine RL.gT rfl (bR (c := true) h27) ?_
            refine RL.val rfl (run_not rfl) ?_
            refine RL.val rfl (run_pickT (bR (c := true) h27) (v := B _) rfl) ?_
            refine RL.nil ?_
            refine CW.cond rfl (fun h32 => ?_) (fun h32 => ?_)
            · refine CW.region ?_
              refine RL.val rfl (run_move e3_17) ?_
              refine RL.val rfl (run_move e4_17) ?_
              refine RL.val rfl (run_move e5_17) ?_
              refine RL.val rfl (run_bld (vs := [(0, I _), (1, I _)]) rfl (built_pair _ _)) ?_
              refine RL.new rfl hH29 (f := fun b => (.slice (some ⟨b, 0, none⟩) 1 1)) (run_mkL Tryd.underlying46 rfl rfl (sz := 2) (vs := [.agg #[_, _]]) rfl rfl (by decide) (by decide) rfl rfl) ?_
              intro b35 w33 hH34
              (try simp only [List.flatMap_cons, List.flatMap_nil, clI, clB, clS, clP, clL, clA, List.append_nil, List.cons_append, List.nil_append] at hH34)
              refine RL.app rfl hH34 (i := 1) rfl (hH34.slBlk (i := 0) (n := 1) (sz := 2) rfl rfl (by decide)) rfl rfl Tryd.underlying46 rfl rfl (size := 2) (bytes := 16) rfl rfl rfl (by decide) (by simp [Value.oneCell']) (by have := @cov_len r i; have := @covs_len r i j; rw [h2]; simp; omega) (by have := @cov_len r i; have := @covs_len r i j; rw [h2]; simp only [maxLen]; simp; omega) ?_
              intro v36 w37 hH38
              simp only [List.set_cons_zero, List.set_cons_succ] at hH38
              refine RL.val rfl (run_assign (by conv => lhs; whnf)) ?_
              refine RL.nil ?_
              refine CW.region ?_
              refine RL.val rfl (run_move e5_17) ?_
              refine RL.val rfl (run_add rfl rfl (by omega)) ?_
              refine RL.val rfl (run_assign (v := I _) rfl) ?_
              refine RL.nil ?_
              refine ⟨(j + 1, l2 ++ [(i, j)], v36), ?_, (((((((((((((((((((((((((((((fr17.u rfl).u rfl).u rfl).u rfl).u rfl).u rfl).u rfl).u rfl).u rfl).u rfl).u rfl).u rfl).u rfl).u rfl).u rfl).u rfl).u rfl).u rfl).u rfl).u rfl).u rfl).u rfl).u rfl).u rfl).u rfl).u rfl).u rfl).u rfl).u rfl).u rfl, (Hp.conv (hH38.sub (.cons _ (List.Sublist.refl _))) (by first | rfl | simp)), rfl, (congrArg I (by first | rfl | omega)), ?_, ?_, ?_⟩
              · ((try dsimp only); omega)
              · omega
              · omega
              · (rw [h2]; first | (rw [List.append_assoc, covs_yes j0 (by simp [covP, *])]) | (rw [covs_no j0 (by simp [covP, *])]))
            · refine CW.skip ?_
              refine CW.region ?_
              refine RL.val rfl (run_move e5_17) ?_
              refine RL.val rfl (run_add rfl rfl (by omega)) ?_
              refine RL.val rfl (run_assign (v := I _) rfl) ?_
              refine RL.nil ?_
              refine ⟨(j + 1, l2, v3), ?_, ((((((((((((((((((((((fr17.u rfl).u rfl).u rfl).u rfl).u rfl).u rfl).u rfl).u rfl).u rfl).u rfl).u rfl).u rfl).u rfl).u rfl).u rfl).u rfl).u rfl).u rfl).u rfl).u rfl).u rfl).u rfl).u rfl, (Hp.conv hH29 (by first | rfl | simp)), e3_17, (congrArg I (by first | rfl | omega)), ?_, ?_, ?_⟩
              · ((try dsimp only); omega)
              · omega
              · omega
              · (rw [h2]; first | (rw [List.append_assoc, covs_yes j0 (by simp [covP, *])]) | (rw [covs_no j0 (by simp [covP, *])]))
          · refine RL.gF rfl rfl (bR (c := false) h27) rfl ?_
            refine RL.gF rfl rfl (bR (c := false) h27) rfl ?_
            refine RL.gF rfl rfl (bR (c := false) h27) rfl ?_
            refine RL.gF rfl rfl (bR (c := false) h27) rfl ?_
            refine RL.gF rfl rfl (bR (c := false) h27) rfl ?_
            refine RL.val rfl (run_pickF (bR (c := false) h27) (v := B false) rfl) ?_
            refine RL.nil ?_
            refine CW.condF rfl ?_
            refine CW.skip ?_
            refine CW.region ?_
            refine RL.val rfl (run_move e5_17) ?_
            refine RL.val rfl (run_add rfl rfl (by omega)) ?_
            refine RL.val rfl (run_assign (v := I _) rfl) ?_
            refine RL.nil ?_
            refine ⟨(j + 1, l2, v3), ?_, ((((((((((((((((((((((fr17.u rfl).u rfl).u rfl).u rfl).u rfl).u rfl).u rfl).u rfl).u rfl).u rfl).u rfl).u rfl).u rfl).u rfl).u rfl).u rfl).u rfl).u rfl).u rfl).u rfl).u rfl).u rfl).u rfl, (Hp.conv hH25 (by first | rfl | simp)), e3_17, (congrArg I (by first | rfl | omega)), ?_, ?_, ?_⟩
            · ((try dsimp only); omega)
            · omega
            · omega
            · (rw [h2]; first | (rw [List.append_assoc, covs_yes j0 (by simp [covP, *])]) | (rw [covs_no j0 (by simp [covP, *])]))
        · refine RL.gF rfl rfl (bF h23) rfl ?_
          refine RL.gF rfl rfl (bF h23) rfl ?_
          refine RL.gF rfl rfl (bF h23) rfl ?_
          refine RL.gF rfl rfl (bF h23) rfl ?_
          refine RL.val rfl (run_pickF (bF h23) (v := B false) rfl) ?_
          refine RL.val rfl (run_move (v := B _) rfl) ?_
          refine RL.gF rfl rfl rfl rfl ?_
          refine RL.gF rfl rfl rfl rfl ?_
          refine RL.gF rfl rfl rfl rfl ?_
          refine RL.gF rfl rfl rfl rfl ?_
          refine RL.gF rfl rfl rfl rfl ?_
          refine RL.val rfl (run_pickF rfl (v := B false) rfl) ?_
          refine RL.nil ?_
          refine CW.condF rfl ?_
          refine CW.skip ?_
          refine CW.region ?_
          refine RL.val rfl (run_move e5_17) ?_
          refine RL.val rfl (run_add rfl rfl (by omega)) ?_
          refine RL.val rfl (run_assign (v := I _) rfl) ?_
          refine RL.nil ?_
          refine ⟨(j + 1, l2, v3), ?_, ((((((((((((((((((((((fr17.u rfl).u rfl).u rfl).u rfl).u rfl).u rfl).u rfl).u rfl).u rfl).u rfl).u rfl).u rfl).u rfl).u rfl).u rfl).u rfl).u rfl).u rfl).u rfl).u rfl).u rfl).u rfl).u rfl, (Hp.conv hH19 (by first | rfl | simp)), e3_17, (congrArg I (by first | rfl | omega)), ?_, ?_, ?_⟩
          · ((try dsimp only); omega)
          · omega
          · omega
          · (rw [h2]; first | (rw [List.append_assoc, covs_yes j0 (by simp [covP, *])]) | (rw [covs_no j0 (by simp [covP, *])]))
      · refine CW.exit (id := 2) rfl ?_
        refine CW.region ?_
        refine RL.val rfl (run_move e4_17) ?_
        refine RL.val rfl (run_add rfl rfl (by omega)) ?_
        refine RL.val rfl (run_assign (v := I _) rfl) ?_
        refine RL.nil ?_
        refine ⟨(i + 1, l2, v3), ?_, (((((((((((((fr12.u rfl).u rfl).u rfl).u rfl).u rfl).t fr17 rfl)).u rfl).u rfl).u rfl).u rfl).u rfl).u rfl).u rfl, (Hp.conv hH19 (by first | rfl | simp)), e3_17, (congrArg I (by first | rfl | omega)), ?_, ?_, ?_⟩
        · ((try dsimp only); omega)
        · omega
        · omega
        · (rw [h2, covs_all ⟨h0, by omega⟩ (show j = pts r by omega)]; exact cov_next h0)
    · refine CW.exit (id := 0) rfl ?_
      refine CW.seq ?_
      refine CW.region ?_
      refine RL.val rfl (run_move e3_12) ?_
      refine RL.val rfl (run_assign (by conv => lhs; whnf)) ?_
      refine RL.nil ?_
      refine CW.ret ?_
      exact outR Tryd.results40 rfl hH14 (i := 0) rfl (by first | (rw [coversL, show orderB r = false from nt ‹_›]; rfl) | (rw [coversL, hord, hl, show i = pts r by omega]; rfl)) (by first | (rw [coversL, show orderB r = false from nt ‹_›]; rfl) | (rw [coversL, hord, hl, show i = pts r by omega]; rfl))

theorem c_clearanceref03_Long (r : Rl) (w : World) : Calls Tryd.prog 42 #[.agg (relC r)] w (Pure (.tuple #[I (longV r).1, B (longV r).2]) w) := by
  have hp := pts_bd r
  refine enter Tryd.func42 rfl Tryd.ntmps42 rfl ?_
  have hH := Hp.start w
  refine CW.seq ?_
  refine CW.region ?_
  refine RL.new rfl hH (f := fun b => (.pointer (some ⟨b, 0, none⟩))) (run_box (v := .agg _) rfl) ?_
  intro b3 w1 hH2
  refine RL.val rfl (run_assign (v := I 0) rfl) ?_
  refine RL.val rfl (run_assign (v := B false) rfl) ?_
  refine RL.nil ?_
  refine CW.seq ?_
  refine CW.seq ?_
  refine CW.region ?_
  refine RL.val rfl (run_ldRel Tryd.underlying25 rfl rfl rfl (hH2.blk (i := 0) rfl)) ?_
  refine RL.callP rfl hH2 (c_clearanceref03_Order _  _) (run_call1 Tryd.call75 rfl) ?_
  intro w4 hH5
  refine RL.val rfl (run_not rfl) ?_
  refine RL.nil ?_
  refine CW.cond rfl (fun h8 => ?_) (fun h8 => ?_)
  · refine CW.seq ?_
    refine CW.region ?_
    refine RL.val rfl (run_assign (v := I 0) rfl) ?_
    refine RL.val rfl (run_assign (v := B false) rfl) ?_
    refine RL.nil ?_
    refine CW.ret ?_
    have hord : orderB r = false := nt ‹_›
    refine outP2 Tryd.results42 (congrArg I ?_) (congrArg B ?_) hH5.below <;> rw [longV, hord] <;> rfl
  · refine CW.skip ?_
    refine CW.seq ?_
    refine CW.region ?_
    refine RL.new rfl hH5 (f := fun b => (.pointer (some ⟨b, 0, none⟩))) (run_alloc zero_arr) ?_
    intro b11 w9 hH10
    refine RL.nil ?_
    refine CW.seq ?_
    refine CW.region ?_
    refine RL.val rfl (run_assign (v := I 0) rfl) ?_
    refine RL.nil ?_
    refine CW.seq ?_
    refine CW.seq ?_
    refine CW.region ?_
    refine RL.val rfl (run_assign (v := I 0) rfl) ?_
    refine RL.nil ?_
    refine CW.block ?_
    have hord : orderB r = true := nf ‹_›
    refine CW.loop (G := (Int) × (Nat → Int)) (fun (⟨k, F⟩ : (Int) × (Nat → Int)) s' w' => (Fr [6, 7, 8, 13, 14, 15, 16, 17, 18, 19, 20, 21, 22, 23, 24, 25, 26, 27, 28, 29, 30, 31, 32, 33, 34, 35, 36, 37, 38, 39, 40, 41, 42, 43, 44, 45, 46, 47, 48, 49, 50, 51, 52, 53, 54] _ s') ∧ (Hp w w' (.blk b11 (.cells (arrC F) 78 (0, 0)) :: _)) ∧ (s' 6 = I k) ∧ (0 ≤ k) ∧ (k ≤ pts r) ∧ (FarOk r F) ∧ (FarUp r F k)) (fun (⟨k, F⟩ : (Int) × (Nat → Int)) => (pts r - k).toNat) ((0, fun _ => 0)) ⟨Fr.refl _ _, hH10, rfl, (by omega), (by omega), far_ok0 r, far_up0 (far_ok0 r)⟩ ?_
    rintro ⟨k, F⟩ sg12 w12 ⟨fr12, hH12, e6_12, k0, k1, hF0, hU⟩
    have e1_12 : sg12 1 = .pointer (some ⟨_, _, none⟩) := (fr12 1 rfl).trans rfl
    have e2_12 : sg12 2 = I _ := (fr12 2 rfl).trans rfl
    have e3_12 : sg12 3 = B _ := (fr12 3 rfl).trans rfl
    have e4_12 : sg12 4 = .pointer (some ⟨_, _, none⟩) := (fr12 4 rfl).trans rfl
    have e5_12 : sg12 5 = I _ := (fr12 5 rfl).trans rfl
    refine CW.seq ?_
    refine CW.seq ?_
    refine CW.region ?_
    refine RL.val rfl (run_move e6_12) ?_
    refine RL.val rfl (run_ldRel Tryd.underlying25 rfl rfl e1_12 (hH12.blk (i := 1) rfl)) ?_
    refine RL.callP rfl hH12 (c_clearanceref03_Points _  _) (run_call1 Tryd.call25 rfl) ?_
    intro w13 hH14
    refine RL.val rfl (run_lss rfl rfl) ?_
    refine RL.nil ?_
    refine CW.condP rfl (fun h16 => ?_) (fun h16 => ?_)
    · refine CW.skip ?_
      refine CW.seq ?_
      refine CW.block ?_
      refine CW.seq ?_
      refine CW.region ?_
      refine RL.val rfl (run_assign (v := I 0) rfl) ?_
      refine RL.nil ?_
      refine CW.block ?_
      refine CW.loop (G := (Int) × (Nat → Int)) (fun (⟨i, F1⟩ : (Int) × (Nat → Int)) s' w' => (Fr [7, 8, 19, 20, 21, 22, 23, 24, 25, 26, 27, 28, 29, 30, 31, 32, 33, 34, 35, 36, 37, 38, 39, 40, 41, 42, 43, 44, 45, 46, 47, 48, 49, 50, 51, 52, 53, 54] _ s') ∧ (Hp w w' (.blk b11 (.cells (arrC F1) 78 (0, 0)) :: _)) ∧ (s' 7 = I i) ∧ (0 ≤ i) ∧ (i ≤ pts r) ∧ (FarOk r F1) ∧ (FarGe F F1) ∧ (FarAll r F F1 i)) (fun (⟨i, F1⟩ : (Int) × (Nat → Int)) => (pts r - i).toNat) ((0, F)) ⟨Fr.refl _ _, hH14, rfl, (by omega), (by omega), hF0, FarGe.refl _, FarAll.none _ _ _⟩ ?_
      rintro ⟨i, F1⟩ sg17 w17 ⟨fr17, hH17, e7_17, i0, i1, hF1, hge, hall⟩
      have e1_17 := (fr17 1 rfl).trans e1_12
      have e2_17 := (fr17 2 rfl).trans e2_12
      have e3_17 := (fr17 3 rfl).trans e3_12
      have e4_17 := (fr17 4 rfl).trans e4_12
      have e5_17 := (fr17 5 rfl).trans e5_12
      have e6_17 := (fr17 6 rfl).trans e6_12
      have e13_17 : sg17 13 = I _ := (fr17 13 rfl).trans rfl
      have e14_17 : sg17 14 = .agg _ := (fr17 14 rfl).trans rfl
      have e15_17 : sg17 15 = I _ := (fr17 15 rfl).trans rfl
      have e16_17 : sg17 16 = B _ := (fr17 16 rfl).trans rfl
      refine CW.seq ?_
      refine CW.seq ?_
      refine CW.region ?_
      refine RL.val rfl (run_move e7_17) ?_
      refine RL.val rfl (run_ldRel Tryd.underlying25 rfl rfl e1_17 (hH17.blk (i := 1) rfl)) ?_
      refine RL.callP rfl hH17 (c_clearanceref03_Points _  _) (run_call1 Tryd.call25 rfl) ?_
      intro w18 hH19
      refine RL.val rfl (run_lss rfl rfl) ?_
      refine RL.nil ?_
      refine CW.condP rfl (fun h21 => ?_) (fun h21 => ?_)
      · refine CW.skip ?_
        refine CW.seq ?_
        refine CW.block ?_
        refine CW.seq ?_
        refine CW.region ?_
        refine RL.val rfl (run_assign (v := I 0) rfl) ?_
        refine RL.nil ?_
        refine CW.block ?_
        refine CW.loop (G := (Int) × (Nat → Int)) (fun (⟨j, F2⟩ : (Int) × (Nat → Int)) s' w' => (Fr [8, 25, 26, 27, 28, 29, 30, 31, 32, 33, 34, 35, 36, 37, 38, 39, 40, 41, 42, 43, 44, 45, 46, 47, 48, 49, 50, 51, 52, 53, 54] _ s') ∧ (Hp w w' (.blk b11 (.cells (arrC F2) 78 (0, 0)) :: _)) ∧ (s' 8 = I j) ∧ (0 ≤ j) ∧ (j ≤ pts r) ∧ (FarOk r F2) ∧ (FarGe F F2) ∧ (FarAll r F F2 i) ∧ (FarRow r F F2 i j)) (fun (⟨j, F2⟩ : (Int) × (Nat → Int)) => (pts r - j).toNat) ((0, F1)) ⟨Fr.refl _ _, hH19, rfl, (by omega), (by omega), hF1, hge, hall, FarRow.none _ _ _ _⟩ ?_
        rintro ⟨j, F2⟩ sg22 w22 ⟨fr22, hH22, e8_22, j0, j1, hF, hge2, hall2, hrow⟩
        have e1_22 := (fr22 1 rfl).trans e1_17
        have e2_22 := (fr22 2 rfl).trans e2_17
        have e3_22 := (fr22 3 rfl).trans e3_17
        have e4_22 := (fr22 4 rfl).trans e4_17
        have e5_22 := (fr22 5 rfl).trans e5_17
        have e6_22 := (fr22 6 rfl).trans e6_17
        have e7_22 := (fr22 7 rfl).trans e7_17
        have e13_22 := (fr22 13 rfl).trans e13_17
        have e14_22 := (fr22 14 rfl).trans e14_17
        have e15_22 := (fr22 15 rfl).trans e15_17
        have e16_22 := (fr22 16 rfl).trans e16_17
        have e19_22 : sg22 19 = I _ := (fr22 19 rfl).trans rfl
        have e20_22 : sg22 20 = .agg _ := (fr22 20 rfl).trans rfl
        have e21_22 : sg22 21 = I _ := (fr22 21 rfl).trans rfl
        have e22_22 : sg22 22 = B _ := (fr22 22 rfl).trans rfl
        refine CW.seq ?_
        refine CW.seq ?_
        refine CW.region ?_
        refine RL.val rfl (run_move e8_22) ?_
        refine RL.val rfl (run_ldRel Tryd.underlying25 rfl rfl e1_22 (hH22.blk (i := 1) rfl)) ?_
        refine RL.callP rfl hH22 (c_clearanceref03_Points _  _) (run_call1 Tryd.call25 rfl) ?_
        intro w23 hH24
        refine RL.val rfl (run_lss rfl rfl) ?_
        refine RL.nil ?_
        refine CW.condP rfl (fun h26 => ?_) (fun h26 => ?_)
        · refine CW.skip ?_
          refine CW.seq ?_
          refine CW.block ?_
          refine CW.seq ?_
          refine CW.regionD (by kernel_rfl) hH24 ?_
          intro w27 hH28
          refine AN.take 0 rfl rfl (by kernel_rfl) (by kernel_rfl) (by kernel_rfl) (hH28.sub (List.Sublist.refl _)) (fun w hS => run_move e7_22) ?_
          refine AN.take 1 rfl rfl (by kernel_rfl) (by kernel_rfl) (by kernel_rfl) (hH28.sub (List.Sublist.refl _)) (fun w hS => run_move e8_22) ?_
          refine AN.take 2 rfl rfl (by kernel_rfl) (by kernel_rfl) (by kernel_rfl) (hH28.sub (List.Sublist.refl _)) (fun w hS => run_neq rfl rfl) ?_
          refine AN.take 3 rfl rfl (by kernel_rfl) (by kernel_rfl) (by kernel_rfl) (hH28.sub (List.Sublist.refl _)) (fun w hS => run_move (v := B _) rfl) ?_
          refine AN.splitP (dj := 34) rfl (fun h30 => ?_) (fun h30 => ?_)
          · refine AN.takeG 4 rfl rfl (bT h30) rfl (by kernel_rfl) (by kernel_rfl) (by kernel_rfl) (hH28.sub (List.Sublist.refl _)) (fun w hS => run_ldRel Tryd.underlying25 rfl rfl e1_22 (hS.blk (i := 1) rfl)) ?_
            refine AN.takeG 5 rfl rfl (bT h30) rfl (by kernel_rfl) (by kernel_rfl) (by kernel_rfl) (hH28.sub (List.Sublist.refl _)) (fun w hS => run_move e7_22) ?_
            refine AN.takeG 6 rfl rfl (bT h30) rfl (by kernel_rfl) (by kernel_rfl) (by kernel_rfl) (hH28.sub (List.Sublist.refl _)) (fun w hS => run_move e8_22) ?_
            refine AN.one 7 (by kernel_rfl) ?_
            refine AO.callP rfl (gsome rfl (bT h30)) rfl hH28 (List.Sublist.refl _) (c_clearanceref03_Has _ _ _  _) (run_call3 Tryd.call26 rfl rfl rfl) ?_
            intro w31 hH32
            refine AN.take 8 rfl rfl (by kernel_rfl) (by kernel_rfl) (by kernel_rfl) (hH32.sub (List.Sublist.refl _)) (fun w hS => run_pickT (bT h30) (v := B _) rfl) ?_
            refine AN.take 9 rfl rfl (by kernel_rfl) (by kernel_rfl) (by kernel_rfl) (hH32.sub (List.Sublist.refl _)) (fun w hS => run_move (v := B _) rfl) ?_
            refine AN.split (dj := 40) rfl (fun h34 => ?_) (fun h34 => ?_)
            · refine AN.takeG 10 rfl rfl (bR (c := true) h34) rfl (by kernel_rfl) (by kernel_rfl) (by kernel_rfl) (hH32.sub (List.Sublist.refl _)) (fun w hS => run_move e8_22) ?_
              refine AN.takeG 11 rfl rfl (bR (c := true) h34) rfl (by kernel_rfl) (by kernel_rfl) (by kernel_rfl) (hH32.sub (List.Sublist.refl _)) (fun w hS => run_indexAddrA Tryd.underlying78 Tryd.sizeOf3 e4_22 rfl (by omega)) ?_
              refine AN.takeG 12 rfl rfl (bR (c := true) h34) rfl (by kernel_rfl) (by kernel_rfl) (by kernel_rfl) (hH32.sub (List.Sublist.refl _)) (fun w hS => run_ld Tryd.underlying3 rfl rfl (hS.cell (i := 0) rfl (arrC_at _ (by omega)))) ?_
              refine AN.takeG 13 rfl rfl (bR (c := true) h34) rfl (by kernel_rfl) (by kernel_rfl) (by kernel_rfl) (hH32.sub (List.Sublist.refl _)) (fun w hS => run_move e7_22) ?_
              refine AN.takeG 14 rfl rfl (bR (c := true) h34) rfl (by kernel_rfl) (by kernel_rfl) (by kernel_rfl) (hH32.sub (List.Sublist.refl _)) (fun w hS => run_indexAddrA Tryd.underlying78 Tryd.sizeOf3 e4_22 rfl (by omega)) ?_
              refine AN.takeG 15 rfl rfl (bR (c := true) h34) rfl (by kernel_rfl) (by kernel_rfl) (by kernel_rfl) (hH32.sub (List.Sublist.refl _)) (fun w hS => run_ld Tryd.underlying3 rfl rfl (hS.cell (i := 0) rfl (arrC_at _ (by omega)))) ?_
              refine AN.takeG 16 rfl rfl (bR (c := true) h34) rfl (by kernel_rfl) (by kernel_rfl) (by kernel_rfl) (hH32.sub (List.Sublist.refl _)) (fun w hS => run_leq rfl rfl) ?_
              refine AN.take 17 rfl rfl (by kernel_rfl) (by kernel_rfl) (by kernel_rfl) (hH32.sub (List.Sublist.refl _)) (fun w hS => run_pickT (bR (c := true) h34) (v := B _) rfl) ?_
              refine AN.done (by kernel_rfl) ?_
              refine CW.condP rfl (fun h36 => ?_) (fun h36 => ?_)
              · refine CW.region ?_
                refine RL.val rfl (run_move e8_22) ?_
                refine RL.val rfl (run_move e7_22) ?_
                refine RL.val rfl (run_indexAddrA Tryd.underlying78 Tryd.sizeOf3 e4_22 rfl (by omega)) ?_
                refine RL.val rfl (run_ld Tryd.underlying3 rfl rfl (hH32.cell (i := 0) rfl (arrC_at _ (by omega)))) ?_
                refine RL.val rfl (run_add rfl rfl (by first | omega | (have := far_bd hord hF (show 0 ≤ i by omega) (show i < pts r by omega); omega))) ?_
                refine RL.val rfl (run_indexAddrA Tryd.underlying78 Tryd.sizeOf3 e4_22 rfl (by omega)) ?_
                refine RL.set hH32 (i := 0) rfl (run_st rfl rfl (v := I _) rfl rfl rfl (hH32.blk (i := 0) rfl) (by rw [arrC_size]; omega)) ?_
                intro w37 hH38
                simp only [List.set_cons_zero, List.set_cons_succ] at hH38
                rw [arrC_put] at hH38
                refine RL.nil ?_
                refine CW.region ?_
                refine RL.val rfl (run_move e8_22) ?_
                refine RL.val rfl (run_add rfl rfl (by first | omega | (have := far_bd hord hF (show 0 ≤ i by omega) (show i < pts r by omega); omega))) ?_
                refine RL.val rfl (run_assign (v := I _) rfl) ?_
                refine RL.nil ?_
                refine ⟨(j + 1, _), ?_, ((((((((((((((((((((((((((((((fr22.u rfl).u rfl).u rfl).u rfl).u rfl).u rfl).u rfl).u rfl).u rfl).u rfl).u rfl).u rfl).u rfl).u rfl).u rfl).u rfl).u rfl).u rfl).u rfl).u rfl).u rfl).u rfl).u rfl).u rfl).u rfl).u rfl).u rfl).u rfl).u rfl).u rfl).u rfl, hH38, (congrArg I (by first | rfl | omega)), ?_, ?_, ?_, ?_, ?_, ?_⟩
                · ((try dsimp only); omega)
                · omega
                · omega
                · first | exact hF | exact far_put hF ‹hasR r i j = true› ‹_›
                · first | exact hge2 | exact hge2.put (by omega)
                · first | exact hall2 | exact hall2.put (by omega)
                · first | exact far_stepE hrow ‹_› | exact far_stepR hrow ‹_› | exact far_stepN hrow hge2 ‹_› | exact far_stepY hrow hge2 ‹_›
              · refine CW.skip ?_
                refine CW.region ?_
                refine RL.val rfl (run_move e8_22) ?_
                refine RL.val rfl (run_add rfl rfl (by first | omega | (have := far_bd hord hF (show 0 ≤ i by omega) (show i < pts r by omega); omega))) ?_
                refine RL.val rfl (run_assign (v := I _) rfl) ?_
                refine RL.nil ?_
                refine ⟨(j + 1, _), ?_, ((((((((((((((((((((((((fr22.u rfl).u rfl).u rfl).u rfl).u rfl).u rfl).u rfl).u rfl).u rfl).u rfl).u rfl).u rfl).u rfl).u rfl).u rfl).u rfl).u rfl).u rfl).u rfl).u rfl).u rfl).u rfl).u rfl).u rfl).u rfl, hH32, (congrArg I (by first | rfl | omega)), ?_, ?_, ?_, ?_, ?_, ?_⟩
                · ((try dsimp only); omega)
                · omega
                · omega
                · first | exact hF | exact far_put hF ‹hasR r i j = true› ‹_›
                · first | exact hge2 | exact hge2.put (by omega)
                · first | exact hall2 | exact hall2.put (by omega)
                · first | exact far_stepE hrow ‹_› | exact far_stepR hrow ‹_› | exact far_stepN hrow hge2 ‹_› | exact far_stepY hrow hge2 ‹_›
            · refine AN.skipG 10 rfl rfl (bR (c := false) h34) rfl rfl (by kernel_rfl) (by kernel_rfl) (by kernel_rfl) (hH32.sub (List.Sublist.refl _)) ?_
              refine AN.skipG 11 rfl rfl (bR (c := false) h34) rfl rfl (by kernel_rfl) (by kernel_rfl) (by kernel_rfl) (hH32.sub (List.Sublist.refl _)) ?_
              refine AN.skipG 12 rfl rfl (bR (c := false) h34) rfl rfl (by kernel_rfl) (by kernel_rfl) (by kernel_rfl) (hH32.sub (List.Sublist.refl _)) ?_
              refine AN.skipG 13 rfl rfl (bR (c := false) h34) rfl rfl (by kernel_rfl) (by kernel_rfl) (by kernel_rfl) (hH32.sub (List.Sublist.refl _)) ?_
              refine AN.skipG 14 rfl rfl (bR (c := false) h34) rfl rfl (by kernel_rfl) (by kernel_rfl) (by kernel_rfl) (hH32.sub (List.Sublist.refl _)) ?_
              refine AN.skipG 15 rfl rfl (bR (c := false) h34) rfl rfl (by kernel_rfl) (by kernel_rfl) (by kernel_rfl) (hH32.sub (List.Sublist.refl _)) ?_
              refine AN.skipG 16 rfl rfl (bR (c := false) h34) rfl rfl (by kernel_rfl) (by kernel_rfl) (by kernel_rfl) (hH32.sub (List.Sublist.refl _)) ?_
              refine AN.take 17 rfl rfl (by kernel_rfl) (by kernel_rfl) (by kernel_rfl) (hH32.sub (List.Sublist.refl _)) (fun w hS => run_pickF (bR (c := false) h34) (v := B false) rfl) ?_
              refine AN.done (by kernel_rfl) ?_
              refine CW.condF rfl ?_
              refine CW.skip ?_
              refine CW.region ?_
              refine RL.val rfl (run_move e8_22) ?_
              refine RL.val rfl (run_add rfl rfl (by first | omega | (have := far_bd hord hF (show 0 ≤ i by omega) (show i < pts r by omega); omega))) ?_
              refine RL.val rfl (run_assign (v := I _) rfl) ?_
              refine RL.nil ?_
              refine ⟨(j + 1, _), ?_, ((((((((((((((((((((((((fr22.u rfl).u rfl).u rfl).u rfl).u rfl).u rfl).u rfl).u rfl).u rfl).u rfl).u rfl).u rfl).u rfl).u rfl).u rfl).u rfl).u rfl).u rfl).u rfl).u rfl).u rfl).u rfl).u rfl).u rfl).u rfl, hH32, (congrArg I (by first | rfl | omega)), ?_, ?_, ?_, ?_, ?_, ?_⟩
              · ((try dsimp only); omega)
              · omega
              · omega
              · first | exact hF | exact far_put hF ‹hasR r i j = true› ‹_›
              · first | exact hge2 | exact hge2.put (by omega)
              · first | exact hall2 | exact hall2.put (by omega)
              · first | exact far_stepE hrow ‹_› | exact far_stepR hrow ‹_› | exact far_stepN hrow hge2 ‹_› | exact far_stepY hrow hge2 ‹_›
          · refine AN.skipG 4 rfl rfl (bF h30) rfl rfl (by kernel_rfl) (by kernel_rfl) (by kernel_rfl) (hH28.sub (List.Sublist.refl _)) ?_
            refine AN.skipG 5 rfl rfl (bF h30) rfl rfl (by kernel_rfl) (by kernel_rfl) (by kernel_rfl) (hH28.sub (List.Sublist.refl _)) ?_
            refine AN.skipG 6 rfl rfl (bF h30) rfl rfl (by kernel_rfl) (by kernel_rfl) (by kernel_rfl) (hH28.sub (List.Sublist.refl _)) ?_
            refine AN.skipG 7 rfl rfl (bF h30) rfl rfl (by kernel_rfl) (by kernel_rfl) (by kernel_rfl) (hH28.sub (List.Sublist.refl _)) ?_
            refine AN.take 8 rfl rfl (by kernel_rfl) (by kernel_rfl) (by kernel_rfl) (hH28.sub (List.Sublist.refl _)) (fun w hS => run_pickF (bF h30) (v := B false) rfl) ?_
            refine AN.take 9 rfl rfl (by kernel_rfl) (by kernel_rfl) (by kernel_rfl) (hH28.sub (List.Sublist.refl _)) (fun w hS => run_move (v := B _) rfl) ?_
            refine AN.skipG 10 rfl rfl rfl rfl rfl (by kernel_rfl) (by kernel_rfl) (by kernel_rfl) (hH28.sub (List.Sublist.refl _)) ?_
            refine AN.skipG 11 rfl rfl rfl rfl rfl (by kernel_rfl) (by kernel_rfl) (by kernel_rfl) (hH28.sub (List.Sublist.refl _)) ?_
            refine AN.skipG 12 rfl rfl rfl rfl rfl (by kernel_rfl) (by kernel_rfl) (by kernel_rfl) (hH28.sub (List.Sublist.refl _)) ?_
            refine AN.skipG 13 rfl rfl rfl rfl rfl (by kernel_rfl) (by kernel_rfl) (by kernel_rfl) (hH28.sub (List.Sublist.refl _)) ?_
            refine AN.skipG 14 rfl rfl rfl rfl rfl (by kernel_rfl) (by kernel_rfl) (by kernel_rfl) (hH28.sub (List.Sublist.refl _)) ?_
            refine AN.skipG 15 rfl rfl rfl rfl rfl (by kernel_rfl) (by kernel_rfl) (by kernel_rfl) (hH28.sub (List.Sublist.refl _)) ?_
            refine AN.skipG 16 rfl rfl rfl rfl rfl (by kernel_rfl) (by kernel_rfl) (by kernel_rfl) (hH28.sub (List.Sublist.refl _)) ?_
            refine AN.take 17 rfl rfl (by kernel_rfl) (by kernel_rfl) (by kernel_rfl) (hH28.sub (List.Sublist.refl _)) (fun w hS => run_pickF rfl (v := B false) rfl) ?_
            refine AN.done (by kernel_rfl) ?_
            refine CW.condF rfl ?_
            refine CW.skip ?_
            refine CW.region ?_
            refine RL.val rfl (run_move e8_22) ?_
            refine RL.val rfl (run_add rfl rfl (by first | omega | (have := far_bd hord hF (show 0 ≤ i by omega) (show i < pts r by omega); omega))) ?_
            refine RL.val rfl (run_assign (v := I _) rfl) ?_
            refine RL.nil ?_
            refine ⟨(j + 1, _), ?_, ((((((((((((((((((((((((fr22.u rfl).u rfl).u rfl).u rfl).u rfl).u rfl).u rfl).u rfl).u rfl).u rfl).u rfl).u rfl).u rfl).u rfl).u rfl).u rfl).u rfl).u rfl).u rfl).u rfl).u rfl).u rfl).u rfl).u rfl).u rfl, hH28, (congrArg I (by first | rfl | omega)), ?_, ?_, ?_, ?_, ?_, ?_⟩
            · ((try dsimp only); omega)
            · omega
            · omega
            · first | exact hF | exact far_put hF ‹hasR r i j = true› ‹_›
            · first | exact hge2 | exact hge2.put (by omega)
            · first | exact hall2 | exact hall2.put (by omega)
            · first | exact far_stepE hrow ‹_› | exact far_stepR hrow ‹_› | exact far_stepN hrow hge2 ‹_› | exact far_stepY hrow hge2 ‹_›
        · refine CW.exit (id := 4) rfl ?_
          refine CW.region ?_
          refine RL.val rfl (run_move e7_22) ?_
          refine RL.val rfl (run_add rfl rfl (by first | omega | (have := far_bd hord hF (show 0 ≤ i by omega) (show i < pts r by omega); omega))) ?_
          refine RL.val rfl (run_assign (v := I _) rfl) ?_
          refine RL.nil ?_
          refine ⟨(i + 1, _), ?_, (((((((((((((fr17.u rfl).u rfl).u rfl).u rfl).u rfl).t fr22 rfl)).u rfl).u rfl).u rfl).u rfl).u rfl).u rfl).u rfl, hH24, (congrArg I (by first | rfl | omega)), ?_, ?_, ?_, ?_, ?_⟩
          · ((try dsimp only); omega)
          · omega
          · omega
          · exact hF
          · exact hge2
          · exact hall2.next ‹_› hrow
      · refine CW.exit (id := 2) rfl ?_
        refine CW.region ?_
        refine RL.val rfl (run_move e6_17) ?_
        refine RL.val rfl (run_add rfl rfl (by first | omega | (have := far_bd hord hF (show 0 ≤ i by omega) (show i < pts r by omega); omega))) ?_
        refine RL.val rfl (run_assign (v := I _) rfl) ?_
        refine RL.nil ?_
        refine ⟨(k + 1, _), ?_, (((((((((((((fr12.u rfl).u rfl).u rfl).u rfl).u rfl).t fr17 rfl)).u rfl).u rfl).u rfl).u rfl).u rfl).u rfl).u rfl, hH19, (congrArg I (by first | rfl | omega)), ?_, ?_, ?_, ?_⟩
        · ((try dsimp only); omega)
        · omega
        · omega
        · exact hF1
        · exact far_upS k0 hU hge hall ‹_›
    · refine CW.exit (id := 0) rfl ?_
      refine CW.seq ?_
      refine CW.seq ?_
      refine CW.region ?_
      refine RL.val rfl (run_assign (v := I 0) rfl) ?_
      refine RL.nil ?_
      refine CW.block ?_
      refine CW.loop (G := (Int) × (Int)) (fun (⟨i, best⟩ : (Int) × (Int)) s' w' => (Fr [5, 9, 55, 56, 57, 58, 59, 60, 61, 62, 63, 64, 65, 66, 67, 68] _ s') ∧ (Hp w w' _) ∧ (s' 5 = I best) ∧ (s' 9 = I i) ∧ (0 ≤ i) ∧ (i ≤ pts r) ∧ (0 ≤ best) ∧ (best = 0 ∨ ∃ j : Int, 0 ≤ j ∧ j < pts r ∧ F j.toNat = best) ∧ (∀ j : Int, 0 ≤ j → j < i → F j.toNat ≤ best)) (fun (⟨i, best⟩ : (Int) × (Int)) => (pts r - i).toNat) ((0, 0)) ⟨Fr.refl _ _, hH14, e5_12, rfl, (by omega), (by omega), (by omega), Or.inl rfl, fun j a b => absurd b (by omega)⟩ ?_
      rintro ⟨i, best⟩ sg39 w39 ⟨fr39, hH39, e5_39, e9_39, i0, i1, b0, hb, hm⟩
      have e1_39 := (fr39 1 rfl).trans e1_12
      have e2_39 := (fr39 2 rfl).trans e2_12
      have e3_39 := (fr39 3 rfl).trans e3_12
      have e4_39 := (fr39 4 rfl).trans e4_12
      refine CW.seq ?_
      refine CW.seq ?_
      refine CW.region ?_
      refine RL.val rfl (run_move e9_39) ?_
      refine RL.val rfl (run_ldRel Tryd.underlying25 rfl rfl e1_39 (hH39.blk (i := 1) rfl)) ?_
      refine RL.callP rfl hH39 (c_clearanceref03_Points _  _) (run_call1 Tryd.call25 rfl) ?_
      intro w40 hH41
      refine RL.val rfl (run_lss rfl rfl) ?_
      refine RL.nil ?_
      refine CW.condP rfl (fun h43 => ?_) (fun h43 => ?_)
      · refine CW.skip ?_
        refine CW.seq ?_
        refine CW.block ?_
        refine CW.seq ?_
        refine CW.region ?_
        refine RL.val rfl (run_move e9_39) ?_
        refine RL.val rfl (run_indexAddrA Tryd.underlying78 Tryd.sizeOf3 e4_39 rfl (by omega)) ?_
        refine RL.val rfl (run_ld Tryd.underlying3 rfl rfl (hH41.cell (i := 0) rfl (arrC_at _ (by omega)))) ?_
        refine RL.val rfl (run_move e5_39) ?_
        refine RL.val rfl (run_gtr rfl rfl) ?_
        refine RL.nil ?_
        refine CW.condP rfl (fun h45 => ?_) (fun h45 => ?_)
        · refine CW.region ?_
          refine RL.val rfl (run_move e9_39) ?_
          refine RL.val rfl (run_indexAddrA Tryd.underlying78 Tryd.sizeOf3 e4_39 rfl (by omega)) ?_
          refine RL.val rfl (run_ld Tryd.underlying3 rfl rfl (hH41.cell (i := 0) rfl (arrC_at _ (by omega)))) ?_
          refine RL.val rfl (run_assign (v := I _) rfl) ?_
          refine RL.nil ?_
          refine CW.region ?_
          refine RL.val rfl (run_move e9_39) ?_
          refine RL.val rfl (run_add rfl rfl (by first | omega | (have := far_bd hord hF (show 0 ≤ i by omega) (show i < pts r by omega); omega))) ?_
          refine RL.val rfl (run_assign (v := I _) rfl) ?_
          refine RL.nil ?_
          refine ⟨(i + 1, _), ?_, (((((((((((((((fr39.u rfl).u rfl).u rfl).u rfl).u rfl).u rfl).u rfl).u rfl).u rfl).u rfl).u rfl).u rfl).u rfl).u rfl).u rfl).u rfl, hH41, (congrArg I (by first | rfl | omega)), (congrArg I (by first | rfl | omega)), ?_, ?_, ?_, ?_, ?_⟩
          · ((try dsimp only); omega)
          · omega
          · omega
          · omega
          · first | exact hb | exact .inr ⟨i, i0, by omega, rfl⟩
          · exact fun j u v => if e : j = i then (by rw [e]; omega) else (by have := hm j u (by omega); omega)
        · refine CW.skip ?_
          refine CW.region ?_
          refine RL.val rfl (run_move e9_39) ?_
          refine RL.val rfl (run_add rfl rfl (by first | omega | (have := far_bd hord hF (show 0 ≤ i by omega) (show i < pts r by omega); omega))) ?_
          refine RL.val rfl (run_assign (v := I _) rfl) ?_
          refine RL.nil ?_
          refine ⟨(i + 1, _), ?_, (((((((((((fr39.u rfl).u rfl).u rfl).u rfl).u rfl).u rfl).u rfl).u rfl).u rfl).u rfl).u rfl).u rfl, hH41, e5_39, (congrArg I (by first | rfl | omega)), ?_, ?_, ?_, ?_, ?_⟩
          · ((try dsimp only); omega)
          · omega
          · omega
          · omega
          · first | exact hb | exact .inr ⟨i, i0, by omega, rfl⟩
          · exact fun j u v => if e : j = i then (by rw [e]; omega) else (by have := hm j u (by omega); omega)
      · refine CW.exit (id := 6) rfl ?_
        refine CW.seq ?_
        refine CW.region ?_
        refine RL.val rfl (run_move e5_39) ?_
        refine RL.val rfl (run_assign (v := I _) rfl) ?_
        refine RL.val rfl (run_assign (v := B true) rfl) ?_
        refine RL.nil ?_
        refine CW.ret ?_
        refine outP2 Tryd.results42 (congrArg I ?_) (congrArg B ?_) hH41.below <;> rw [long_ref hord hF0 hU ‹¬ k < pts r› ‹¬ i < pts r› hb hm b0]

theorem c_clearancelaw03_RelateCovers (r : Rl) (w : World) (hT : Tab w) : Calls Tryd.prog 7 #[.agg (relC r)] w (Pure (B true) w) := by
  have hp := pts_bd r
  have hl2 : [r, cloR r].length = 2 := rfl
  refine enter Tryd.func7 rfl Tryd.ntmps7 rfl ?_
  have hH := Hp.start w
  refine CW.seq ?_
  refine CW.region ?_
  refine RL.new rfl hH (f := fun b => (.pointer (some ⟨b, 0, none⟩))) (run_box (v := .agg _) rfl) ?_
  intro b3 w1 hH2
  refine RL.val rfl (run_assign (v := B false) rfl) ?_
  refine RL.nil ?_
  refine CW.seq ?_
  refine CW.seq ?_
  refine CW.regionD (by kernel_rfl) hH2 ?_
  intro w4 hH5
  refine AN.take 0 rfl rfl (by kernel_rfl) (by kernel_rfl) (by kernel_rfl) (hH5.sub (List.Sublist.refl _)) (fun w hS => run_ldRel Tryd.underlying25 rfl rfl rfl (hS.blk (i := 0) rfl)) ?_
  refine AN.take 1 rfl rfl (by kernel_rfl) (by kernel_rfl) (by kernel_rfl) (hH5.sub (List.Sublist.refl _)) (fun w hS => run_ldRel Tryd.underlying25 rfl rfl rfl (hS.blk (i := 0) rfl)) ?_
  refine AN.take 5 rfl rfl (by kernel_rfl) (by kernel_rfl) (by kernel_rfl) (hH5.sub (List.Sublist.refl _)) (fun w hS => run_move (v := I 0) rfl) ?_
  refine AN.one 2 (by kernel_rfl) ?_
  refine AO.callP rfl gnone rfl hH5 (List.Sublist.refl _) (c_clearanceref03_Closure _  _) (run_call1 Tryd.call38 rfl) ?_
  intro w6 hH7
  refine AN.one 3 (by kernel_rfl) ?_
  refine AO.new rfl gnone rfl hH7 (List.Sublist.refl _) (f := fun b => .slice (some ⟨b, 0, none⟩) 2 2) (run_mkRels Tryd.underlying45 rfl rfl rfl (l := [_, _]) rfl (by decide) (by decide) rfl) ?_
  intro b10 w8 hH9
  (try simp only [List.flatMap_cons, List.flatMap_nil, clI, clB, clS, clP, clL, clA, List.append_nil, List.cons_append, List.nil_append] at hH9)
  refine AN.one 4 (by kernel_rfl) ?_
  refine AO.read rfl gnone rfl hH9 (.cons _ (List.Sublist.refl _)) (run_lenSl (hH9.slRels (i := 0) (l := [_, _]) rfl (by simp [maxLen])) rfl Tryd.underlying45 rfl) ?_
  refine AN.done (by kernel_rfl) ?_
  refine CW.block ?_
  refine CW.loop (G := (Int)) (fun (k : Int) s' w' => (Fr [2, 4, 5, 6, 7, 8, 9, 10, 11, 17, 18, 19, 20, 21, 22, 23, 24, 25, 26, 27, 28, 29, 30, 31, 32, 33, 34, 35, 36, 37, 38, 39, 40, 41, 42, 43, 44, 45, 46, 47, 48, 49, 50, 51, 52, 53, 54, 55, 56, 57, 58, 59, 60, 61, 62, 63, 64, 65, 66, 67, 68, 69, 70, 71, 72, 73, 74, 75, 76] _ s') ∧ (Hp w w' _) ∧ (s' 17 = I k) ∧ (0 ≤ k) ∧ (k ≤ 2)) (fun (k : Int) => (2 - k).toNat) (0) ⟨Fr.refl _ _, hH9, rfl, (by omega), (by omega)⟩ ?_
  rintro k sg13 w13 ⟨fr13, hH13, e17_13, h0, hk⟩
  have e15_13 := (fr13 15 rfl).trans (by conv => lhs; whnf)
  have e16_13 : sg13 16 = I _ := (fr13 16 rfl).trans rfl
  refine CW.seq ?_
  refine CW.region ?_
  refine RL.val rfl (run_lss e17_13 e16_13) ?_
  refine RL.nil ?_
  refine CW.seq ?_
  refine CW.condP rfl (fun h15 => ?_) (fun h15 => ?_)
  · refine CW.skip ?_
    refine CW.seq ?_
    refine CW.block ?_
    refine CW.seq ?_
    refine CW.region ?_
    refine RL.val rfl (run_indexAddrS (hH13.slRels (i := 0) (l := [_, _]) rfl (by simp [maxLen])) Tryd.underlying45 Tryd.sizeOf25 e15_13 e17_13 (by first | omega | (simp; omega))) ?_
    refine RL.val rfl (run_ldRelS (hH13.slRels (i := 0) (l := [_, _]) rfl (by simp [maxLen])) Tryd.underlying25 rfl rfl rfl (by first | omega | (simp; omega))) ?_
    refine RL.new rfl hH13 (f := fun b => (.pointer (some ⟨b, 0, none⟩))) (run_alloc zero_rel) ?_
    intro b18 w16 hH17
    refine RL.set hH17 (i := 0) rfl (run_stRel rfl rfl rfl (hH17.blk (i := 0) rfl)) ?_
    intro w19 hH20
    simp only [List.set_cons_zero, List.set_cons_succ] at hH20
    refine RL.nil ?_
    refine CW.seq ?_
    refine CW.regionD (by kernel_rfl) hH20 ?_
    intro w21 hH22
    refine AN.take 0 rfl rfl (by kernel_rfl) (by kernel_rfl) (by kernel_rfl) (hH22.sub (List.Sublist.refl _)) (fun w hS => run_ldRel Tryd.underlying25 rfl rfl rfl (hS.blk (i := 0) rfl)) ?_
    refine AN.take 2 rfl rfl (by kernel_rfl) (by kernel_rfl) (by kernel_rfl) (hH22.sub (List.Sublist.refl _)) (fun w hS => run_ldRel Tryd.underlying25 rfl rfl rfl (hS.blk (i := 0) rfl)) ?_
    refine AN.one 1 (by kernel_rfl) ?_
    refine AO.callR rfl gnone rfl hH22 (List.Sublist.refl _) (c_relate_Covers _  _ (hT.hp hH22)) (run_call1 Tryd.call39 rfl) ?_
    intro v25 w23 hH24
    refine AN.one 3 (by kernel_rfl) ?_
    refine AO.callR rfl gnone rfl hH24 (.cons _ (List.Sublist.refl _)) (c_clearanceref03_Covers _  _) (run_call1 Tryd.call40 rfl) ?_
    intro v28 w26 hH27
    refine AN.take 4 rfl rfl (by kernel_rfl) (by kernel_rfl) (by kernel_rfl) (hH27.sub (.cons _ (.cons _ (List.Sublist.refl _)))) (fun w hS => run_assign (by conv => lhs; whnf)) ?_
    refine AN.take 5 rfl rfl (by kernel_rfl) (by kernel_rfl) (by kernel_rfl) (hH27.sub (.cons _ (.cons _ (List.Sublist.refl _)))) (fun w hS => run_assign (by conv => lhs; whnf)) ?_
    refine AN.done (by kernel_rfl) ?_
    refine CW.seq ?_
    refine CW.seq ?_
    refine CW.region ?_
    refine RL.val rfl (run_move (by conv => lhs; whnf)) ?_
    refine RL.val rfl (run_lenSl (hH27.sl (i := 1) rfl) rfl Tryd.underlying46 rfl) ?_
    refine RL.val rfl (run_move (by conv => lhs; whnf)) ?_
    refine RL.val rfl (run_lenSl (hH27.sl (i := 0) rfl) rfl Tryd.underlying46 rfl) ?_
    refine RL.val rfl (run_neq rfl rfl) ?_
    refine RL.nil ?_
    refine CW.condF (bF (fun h => h rfl)) ?_
    refine CW.skip ?_
    refine CW.seq ?_
    refine CW.seq ?_
    refine CW.region ?_
    refine RL.val rfl (run_move (by conv => lhs; whnf)) ?_
    refine RL.val rfl (run_lenSl (hH27.sl (i := 1) rfl) rfl Tryd.underlying46 rfl) ?_
    refine RL.val rfl (run_move (v := I 0) rfl) ?_
    refine RL.nil ?_
    refine CW.block ?_
    have hcl := coversL_len (r := [r, cloR r].getD k.toNat Rl.none)
    refine CW.loop (G := (Int)) (fun (j : Int) s' w' => (Fr [2, 7, 32, 33, 34, 35, 36, 37, 38, 39, 40, 41, 42, 43, 44] _ s') ∧ (Hp w w' _) ∧ (s' 32 = I j) ∧ (0 ≤ j) ∧ (j ≤ (coversL ([r, cloR r].getD k.toNat Rl.none)).length)) (fun (j : Int) => ((coversL ([r, cloR r].getD k.toNat Rl.none)).length - j).toNat) (0) ⟨Fr.refl _ _, hH27, rfl, (by omega), (by omega)⟩ ?_
    rintro j sg30 w30 ⟨fr30, hH30, e32_30, j0, j1⟩
    have e4_30 : sg30 4 = .pointer (some ⟨_, _, none⟩) := (fr30 4 rfl).trans rfl
    have e5_30 := (fr30 5 rfl).trans (by conv => lhs; whnf)
    have e6_30 := (fr30 6 rfl).trans (by conv => lhs; whnf)
    have e15_30 := (fr30 15 rfl).trans e15_13
    have e16_30 := (fr30 16 rfl).trans e16_13
    have e17_30 := (fr30 17 rfl).trans e17_13
    have e18_30 := (fr30 18 rfl).trans (by conv => lhs; whnf)
    have e19_30 : sg30 19 = .pointer (some ⟨_, _, none⟩) := (fr30 19 rfl).trans rfl
    have e20_30 : sg30 20 = .agg _ := (fr30 20 rfl).trans rfl
    have e21_30 : sg30 21 = .agg _ := (fr30 21 rfl).trans rfl
    have e22_30 := (fr30 22 rfl).trans (by conv => lhs; whnf)
    have e23_30 : sg30 23 = .agg _ := (fr30 23 rfl).trans rfl
    have e24_30 := (fr30 24 rfl).trans (by conv => lhs; whnf)
    have e25_30 := (fr30 25 rfl).trans (by conv => lhs; whnf)
    have e26_30 : sg30 26 = I _ := (fr30 26 rfl).trans rfl
    have e27_30 := (fr30 27 rfl).trans (by conv => lhs; whnf)
    have e28_30 : sg30 28 = I _ := (fr30 28 rfl).trans rfl
    have e29_30 : sg30 29 = B _ := (fr30 29 rfl).trans rfl
    have e30_30 := (fr30 30 rfl).trans (by conv => lhs; whnf)
    have e31_30 : sg30 31 = I _ := (fr30 31 rfl).trans rfl
    refine CW.seq ?_
    refine CW.region ?_
    refine RL.val rfl (run_lss e32_30 e31_30) ?_
    refine RL.nil ?_
    refine CW.seq ?_
    refine CW.condP rfl (fun h32 => ?_) (fun h32 => ?_)
    · refine CW.skip ?_
      refine CW.seq ?_
      refine CW.block ?_
      refine CW.seq ?_
      refine CW.region ?_
      refine RL.val rfl (run_move e32_30) ?_
      refine RL.val rfl (run_assign (v := I _) rfl) ?_
      refine RL.nil ?_
      refine CW.seq ?_
      refine CW.regionD (by kernel_rfl) hH30 ?_
      intro w33 hH34
      refine AN.take 0 rfl rfl (by kernel_rfl) (by kernel_rfl) (by kernel_rfl) (hH34.sub (List.Sublist.refl _)) (fun w hS => run_move e5_30) ?_
      refine AN.take 1 rfl rfl (by kernel_rfl) (by kernel_rfl) (by kernel_rfl) (hH34.sub (List.Sublist.refl _)) (fun w hS => run_move (v := I _) rfl) ?_
      refine AN.take 2 rfl rfl (by kernel_rfl) (by kernel_rfl) (by kernel_rfl) (hH34.sub (List.Sublist.refl _)) (fun w hS => run_indexAddrS (hS.sl (i := 1) rfl) Tryd.underlying46 Tryd.sizeOf27 rfl rfl (by first | omega | (simp; omega))) ?_
      refine AN.take 3 rfl rfl (by kernel_rfl) (by kernel_rfl) (by kernel_rfl) (hH34.sub (List.Sublist.refl _)) (fun w hS => run_ldPair (hS.sl (i := 1) rfl) Tryd.underlying27 rfl rfl rfl (by first | omega | (simp; omega))) ?_
      refine AN.take 4 rfl rfl (by kernel_rfl) (by kernel_rfl) (by kernel_rfl) (hH34.sub (List.Sublist.refl _)) (fun w hS => run_move e6_30) ?_
      refine AN.take 5 rfl rfl (by kernel_rfl) (by kernel_rfl) (by kernel_rfl) (hH34.sub (List.Sublist.refl _)) (fun w hS => run_move (v := I _) rfl) ?_
      refine AN.take 6 rfl rfl (by kernel_rfl) (by kernel_rfl) (by kernel_rfl) (hH34.sub (List.Sublist.refl _)) (fun w hS => run_indexAddrS (hS.sl (i := 0) rfl) Tryd.underlying46 Tryd.sizeOf27 rfl rfl (by first | omega | (simp; omega))) ?_
      refine AN.take 7 rfl rfl (by kernel_rfl) (by kernel_rfl) (by kernel_rfl) (hH34.sub (List.Sublist.refl _)) (fun w hS => run_ldPair (hS.sl (i := 0) rfl) Tryd.underlying27 rfl rfl rfl (by first | omega | (simp; omega))) ?_
      refine AN.take 8 rfl rfl (by kernel_rfl) (by kernel_rfl) (by kernel_rfl) (hH34.sub (List.Sublist.refl _)) (fun w hS => run_neqPair pairT_fact rfl rfl) ?_
      refine AN.done (by kernel_rfl) ?_
      refine CW.condF (bR (c := false) (by simp)) ?_
      refine CW.skip ?_
      refine CW.region ?_
      refine RL.val rfl (run_add e32_30 rfl (by omega)) ?_
      refine RL.val rfl (run_move (v := I _) rfl) ?_
      refine RL.nil ?_
      refine ⟨j + 1, ?_, (((((((((((((fr30.u rfl).u rfl).u rfl).u rfl).u rfl).u rfl).u rfl).u rfl).u rfl).u rfl).u rfl).u rfl).u rfl).u rfl, hH34, (congrArg I (by first | rfl | omega)), ?_, ?_⟩
      · ((try dsimp only); omega)
      · omega
      · omega
    · refine CW.exit (id := 2) rfl ?_
      refine CW.seq ?_
      refine CW.region ?_
      refine RL.val rfl (run_ldRel Tryd.underlying25 rfl rfl e4_30 (hH30.blk (i := 2) rfl)) ?_
      refine RL.callP rfl hH30 (c_relate_Long _  _ (hT.hp hH30)) (run_call1 Tryd.call41 rfl) ?_
      intro w36 hH37
      refine RL.val rfl (run_move (by conv => lhs; whnf)) ?_
      refine RL.val rfl (run_extract rfl (v := I _) rfl) ?_
      refine RL.val rfl (run_extract rfl (v := B _) rfl) ?_
      refine RL.val rfl (run_assign (v := I _) rfl) ?_
      refine RL.val rfl (run_assign (v := B _) rfl) ?_
      refine RL.nil ?_
      refine CW.seq ?_
      refine CW.region ?_
      refine RL.val rfl (run_ldRel Tryd.underlying25 rfl rfl e4_30 (hH37.blk (i := 2) rfl)) ?_
      refine RL.callP rfl hH37 (c_clearanceref03_Long _  _) (run_call1 Tryd.call42 rfl) ?_
      intro w39 hH40
      refine RL.val rfl (run_move (by conv => lhs; whnf)) ?_
      refine RL.val rfl (run_extract rfl (v := I _) rfl) ?_
      refine RL.val rfl (run_extract rfl (v := B _) rfl) ?_
      refine RL.val rfl (run_assign (v := I _) rfl) ?_
      refine RL.val rfl (run_assign (v := B _) rfl) ?_
      refine RL.nil ?_
      refine CW.seq ?_
      refine CW.regionD (by kernel_rfl) hH40 ?_
      intro w42 hH43
      refine AN.take 0 rfl rfl (by kernel_rfl) (by kernel_rfl) (by kernel_rfl) (hH43.sub (List.Sublist.refl _)) (fun w hS => run_move (v := I _) rfl) ?_
      refine AN.take 1 rfl rfl (by kernel_rfl) (by kernel_rfl) (by kernel_rfl) (hH43.sub (List.Sublist.refl _)) (fun w hS => run_move (v := I _) rfl) ?_
      refine AN.take 2 rfl rfl (by kernel_rfl) (by kernel_rfl) (by kernel_rfl) (hH43.sub (List.Sublist.refl _)) (fun w hS => run_neq rfl rfl) ?_
      refine AN.take 3 rfl rfl (by kernel_rfl) (by kernel_rfl) (by kernel_rfl) (hH43.sub (List.Sublist.refl _)) (fun w hS => run_move (v := B _) rfl) ?_
      refine AN.takeG 4 rfl rfl (bF (fun h => h rfl)) rfl (by kernel_rfl) (by kernel_rfl) (by kernel_rfl) (hH43.sub (List.Sublist.refl _)) (fun w hS => run_move (v := B _) rfl) ?_
      refine AN.takeG 5 rfl rfl (bF (fun h => h rfl)) rfl (by kernel_rfl) (by kernel_rfl) (by kernel_rfl) (hH43.sub (List.Sublist.refl _)) (fun w hS => run_move (v := B _) rfl) ?_
      refine AN.takeG 6 rfl rfl (bF (fun h => h rfl)) rfl (by kernel_rfl) (by kernel_rfl) (by kernel_rfl) (hH43.sub (List.Sublist.refl _)) (fun w hS => run_neqB Tryd.underlying4 rfl rfl) ?_
      refine AN.take 7 rfl rfl (by kernel_rfl) (by kernel_rfl) (by kernel_rfl) (hH43.sub (List.Sublist.refl _)) (fun w hS => run_pickF (bF (fun h => h rfl)) (v := B _) rfl) ?_
      refine AN.take 8 rfl rfl (by kernel_rfl) (by kernel_rfl) (by kernel_rfl) (hH43.sub (List.Sublist.refl _)) (fun w hS => run_move (v := B _) rfl) ?_
      refine AN.takeG 9 rfl rfl (bR (c := false) (by simp)) rfl (by kernel_rfl) (by kernel_rfl) (by kernel_rfl) (hH43.sub (List.Sublist.refl _)) (fun w hS => run_move (v := B _) rfl) ?_
      refine AN.takeG 10 rfl rfl (bR (c := false) (by simp)) rfl (by kernel_rfl) (by kernel_rfl) (by kernel_rfl) (hH43.sub (List.Sublist.refl _)) (fun w hS => run_move (v := B _) rfl) ?_
      refine AN.split (dj := 65) rfl (fun h46 => ?_) (fun h46 => ?_)
      · refine AN.takeG 11 rfl rfl (bR (c := true) h46) rfl (by kernel_rfl) (by kernel_rfl) (by kernel_rfl) (hH43.sub (List.Sublist.refl _)) (fun w hS => run_fieldAddr Tryd.underlying25 rfl (off := 0) rfl Tryd.sizeOf3 (by decide) e4_30) ?_
        refine AN.takeG 12 rfl rfl (bR (c := true) h46) rfl (by kernel_rfl) (by kernel_rfl) (by kernel_rfl) (hH43.sub (List.Sublist.refl _)) (fun w hS => run_ld Tryd.underlying3 rfl rfl (hS.cell (i := 2) rfl (relC_N _))) ?_
        refine AN.takeG 13 rfl rfl (bR (c := true) h46) rfl (by kernel_rfl) (by kernel_rfl) (by kernel_rfl) (hH43.sub (List.Sublist.refl _)) (fun w hS => run_move e5_30) ?_
        refine AN.takeG 16 rfl rfl (bR (c := true) h46) rfl (by kernel_rfl) (by kernel_rfl) (by kernel_rfl) (hH43.sub (List.Sublist.refl _)) (fun w hS => run_ldRel Tryd.underlying25 rfl rfl e4_30 (hS.blk (i := 2) rfl)) ?_
        refine AN.one 14 (by kernel_rfl) ?_
        refine AO.callP rfl (gsome rfl (bR (c := true) h46)) rfl hH43 (List.Sublist.refl _) (c_relate_Of _ _ _  _ (hH43.sl (i := 1) rfl)) (run_call2 Tryd.call43 rfl rfl) ?_
        intro w47 hH48
        refine AN.one 15 (by kernel_rfl) ?_
        refine AO.callP rfl (gsome rfl (bR (c := true) h46)) rfl hH48 (List.Sublist.refl _) (c_relate_Closure _  _) (run_call1 Tryd.call24 rfl) ?_
        intro w49 hH50
        refine AN.one 17 (by kernel_rfl) ?_
        refine AO.callP rfl (gsome rfl (bR (c := true) h46)) rfl hH50 (List.Sublist.refl _) (c_relate_Same _ _  _) (run_call2 Tryd.call36 rfl rfl) ?_
        intro w51 hH52
        refine AN.takeG 18 rfl rfl (bR (c := true) h46) rfl (by kernel_rfl) (by kernel_rfl) (by kernel_rfl) (hH52.sub (List.Sublist.refl _)) (fun w hS => run_not (bT (cov_back (long_is ‹_›)))) ?_
        refine AN.takeG 19 rfl rfl (bR (c := false) (by simp)) rfl (by kernel_rfl) (by kernel_rfl) (by kernel_rfl) (hH52.sub (List.Sublist.refl _)) (fun w hS => run_pickT (bR (c := true) h46) (v := B _) rfl) ?_
        refine AN.take 20 rfl rfl (by kernel_rfl) (by kernel_rfl) (by kernel_rfl) (hH52.sub (List.Sublist.refl _)) (fun w hS => run_pickF (bR (c := false) (by simp)) (v := B _) rfl) ?_
        refine AN.done (by kernel_rfl) ?_
        refine CW.condF rfl ?_
        refine CW.skip ?_
        refine CW.region ?_
        refine RL.val rfl (run_add e17_30 rfl (by omega)) ?_
        refine RL.val rfl (run_move (v := I _) rfl) ?_
        refine RL.nil ?_
        refine ⟨k + 1, ?_, (((((((((((((((((((((((((((((((((((((((((((((((((((((((((fr13.u rfl).u rfl).u rfl).u rfl).u rfl).u rfl).u rfl).u rfl).u rfl).u rfl).u rfl).u rfl).u rfl).u rfl).u rfl).u rfl).u rfl).u rfl).t fr30 rfl)).u rfl).u rfl).u rfl).u rfl).u rfl).u rfl).u rfl).u rfl).u rfl).u rfl).u rfl).u rfl).u rfl).u rfl).u rfl).u rfl).u rfl).u rfl).u rfl).u rfl).u rfl).u rfl).u rfl).u rfl).u rfl).u rfl).u rfl).u rfl).u rfl).u rfl).u rfl).u rfl).u rfl).u rfl).u rfl).u rfl).u rfl).u rfl, (hH52.sub (.cons _ (.cons _ (.cons _ (List.Sublist.refl _))))), (congrArg I (by first | rfl | omega)), ?_, ?_⟩
        · ((try dsimp only); omega)
        · omega
        · omega
      · refine AN.skipG 11 rfl rfl (bR (c := false) h46) rfl rfl (by kernel_rfl) (by kernel_rfl) (by kernel_rfl) (hH43.sub (List.Sublist.refl _)) ?_
        refine AN.skipG 12 rfl rfl (bR (c := false) h46) rfl rfl (by kernel_rfl) (by kernel_rfl) (by kernel_rfl) (hH43.sub (List.Sublist.refl _)) ?_
        refine AN.skipG 13 rfl rfl (bR (c := false) h46) rfl rfl (by kernel_rfl) (by kernel_rfl) (by kernel_rfl) (hH43.sub (List.Sublist.refl _)) ?_
        refine AN.skipG 14 rfl rfl (bR (c := false) h46) rfl rfl (by kernel_rfl) (by kernel_rfl) (by kernel_rfl) (hH43.sub (List.Sublist.refl _)) ?_
        refine AN.skipG 15 rfl rfl (bR (c := false) h46) rfl rfl (by kernel_rfl) (by kernel_rfl) (by kernel_rfl) (hH43.sub (List.Sublist.refl _)) ?_
        refine AN.skipG 16 rfl rfl (bR (c := false) h46) rfl rfl (by kernel_rfl) (by kernel_rfl) (by kernel_rfl) (hH43.sub (List.Sublist.refl _)) ?_
        refine AN.skipG 17 rfl rfl (bR (c := false) h46) rfl rfl (by kernel_rfl) (by kernel_rfl) (by kernel_rfl) (hH43.sub (List.Sublist.refl _)) ?_
        refine AN.skipG 18 rfl rfl (bR (c := false) h46) rfl rfl (by kernel_rfl) (by kernel_rfl) (by kernel_rfl) (hH43.sub (List.Sublist.refl _)) ?_
        refine AN.takeG 19 rfl rfl (bR (c := false) (by simp)) rfl (by kernel_rfl) (by kernel_rfl) (by kernel_rfl) (hH43.sub (List.Sublist.refl _)) (fun w hS => run_pickF (bR (c := false) h46) (v := B false) rfl) ?_
        refine AN.take 20 rfl rfl (by kernel_rfl) (by kernel_rfl) (by kernel_rfl) (hH43.sub (List.Sublist.refl _)) (fun w hS => run_pickF (bR (c := false) (by simp)) (v := B _) rfl) ?_
        refine AN.done (by kernel_rfl) ?_
        refine CW.condF rfl ?_
        refine CW.skip ?_
        refine CW.region ?_
        refine RL.val rfl (run_add e17_30 rfl (by omega)) ?_
        refine RL.val rfl (run_move (v := I _) rfl) ?_
        refine RL.nil ?_
        refine ⟨k + 1, ?_, (((((((((((((((((((((((((((((((((((((((((((((((((((((((((fr13.u rfl).u rfl).u rfl).u rfl).u rfl).u rfl).u rfl).u rfl).u rfl).u rfl).u rfl).u rfl).u rfl).u rfl).u rfl).u rfl).u rfl).u rfl).t fr30 rfl)).u rfl).u rfl).u rfl).u rfl).u rfl).u rfl).u rfl).u rfl).u rfl).u rfl).u rfl).u rfl).u rfl).u rfl).u rfl).u rfl).u rfl).u rfl).u rfl).u rfl).u rfl).u rfl).u rfl).u rfl).u rfl).u rfl).u rfl).u rfl).u rfl).u rfl).u rfl).u rfl).u rfl).u rfl).u rfl).u rfl).u rfl).u rfl, (hH43.sub (.cons _ (.cons _ (.cons _ (List.Sublist.refl _))))), (congrArg I (by first | rfl | omega)), ?_, ?_⟩
        · ((try dsimp only); omega)
        · omega
        · omega
  · refine CW.exit (id := 0) rfl ?_
    refine CW.seq ?_
    refine CW.region ?_
    refine RL.callP rfl hH13 (c_clearancelaw03_alive   _ (hT.hp hH13)) (run_call0 Tryd.call29) ?_
    intro w55 hH56
    refine RL.val rfl (run_assign (v := B _) rfl) ?_
    refine RL.nil ?_
    refine CW.ret ?_
    refine outP1 Tryd.results7 (congrArg B ?_) hH56.below
    rfl

theorem c_hasse_in (r : Rl) (i : Int) (w : World) : Calls Tryd.prog 114 #[.agg (relC r), I i] w (Pure (B (isP r i)) w) := by
  have hp := pts_bd r
  have hnn : (newR r.n).n = pts r := rfl
  refine enter Tryd.func114 rfl Tryd.ntmps114 rfl ?_
  have hH := Hp.start w
  refine CW.seq ?_
  refine CW.region ?_
  refine RL.new rfl hH (f := fun b => (.pointer (some ⟨b, 0, none⟩))) (run_box (v := .agg _) rfl) ?_
  intro b3 w1 hH2
  refine RL.val rfl (run_assign (v := B false) rfl) ?_
  refine RL.nil ?_
  refine CW.seq ?_
  refine CW.region ?_
  refine RL.val rfl (run_move (v := I _) rfl) ?_
  refine RL.val rfl (run_geq rfl rfl) ?_
  refine RL.val rfl (run_move (v := B _) rfl) ?_
  refine RL.splitP (dj := 7) rfl (fun h5 => ?_) (fun h5 => ?_)
  · refine RL.gT rfl (bT h5) ?_
    refine RL.val rfl (run_move (v := I _) rfl) ?_
    refine RL.gT rfl (bT h5) ?_
    refine RL.val rfl (run_fieldAddr Tryd.underlying25 rfl (off := 0) rfl Tryd.sizeOf3 (by decide) rfl) ?_
    refine RL.gT rfl (bT h5) ?_
    refine RL.val rfl (run_ld Tryd.underlying3 rfl rfl (hH2.cell (i := 0) rfl (relC_N _))) ?_
    refine RL.gT rfl (bT h5) ?_
    refine RL.callP rfl hH2 (c_relate_New _  _) (run_call1 Tryd.call52 rfl) ?_
    intro w6 hH7
    refine RL.gT rfl (bT h5) ?_
    refine RL.val rfl (run_field Tryd.underlying25 rfl Tryd.isAgg3 rfl (relC_N _)) ?_
    refine RL.gT rfl (bT h5) ?_
    refine RL.val rfl (run_lss rfl rfl) ?_
    refine RL.val rfl (run_pickT (bT h5) (v := B _) rfl) ?_
    refine RL.val rfl (run_assign (v := B _) rfl) ?_
    refine RL.nil ?_
    refine CW.ret ?_
    refine outP1 Tryd.results114 (congrArg B ?_) hH7.below
    (rw [isP, Bool.eq_iff_iff]; simp only [decide_eq_true_eq, Bool.false_eq_true, false_iff]; omega)
  · refine RL.gF rfl rfl (bF h5) rfl ?_
    refine RL.gF rfl rfl (bF h5) rfl ?_
    refine RL.gF rfl rfl (bF h5) rfl ?_
    refine RL.gF rfl rfl (bF h5) rfl ?_
    refine RL.gF rfl rfl (bF h5) rfl ?_
    refine RL.gF rfl rfl (bF h5) rfl ?_
    refine RL.val rfl (run_pickF (bF h5) (v := B false) rfl) ?_
    refine RL.val rfl (run_assign (v := B _) rfl) ?_
    refine RL.nil ?_
    refine CW.ret ?_
    refine outP1 Tryd.results114 (congrArg B ?_) hH2.below
    (rw [isP, Bool.eq_iff_iff]; simp only [decide_eq_true_eq, Bool.false_eq_true, false_iff]; omega)

theorem c_hasse_above (r : Rl) (i : Int) (w : World) (hT : Tab w) : Calls Tryd.prog 86 #[.agg (relC r), I i] w (Pure (U (aboveR r i)) w) := by
  refine enter Tryd.func86 rfl Tryd.ntmps86 rfl ?_
  have hH := Hp.start w
  refine CW.seq ?_
  refine CW.region ?_
  refine RL.new rfl hH (f := fun b => (.pointer (some ⟨b, 0, none⟩))) (run_box (v := .agg _) rfl) ?_
  intro b3 w1 hH2
  refine RL.val rfl (run_assign (v := U 0#64) rfl) ?_
  refine RL.nil ?_
  refine CW.seq ?_
  refine CW.regionD (by kernel_rfl) hH2 ?_
  intro w4 hH5
  refine AN.take 0 rfl rfl (by kernel_rfl) (by kernel_rfl) (by kernel_rfl) (hH5.sub (List.Sublist.refl _)) (fun w hS => run_ldRel Tryd.underlying25 rfl rfl rfl (hS.blk (i := 0) rfl)) ?_
  refine AN.take 1 rfl rfl (by kernel_rfl) (by kernel_rfl) (by kernel_rfl) (hH5.sub (List.Sublist.refl _)) (fun w hS => run_move (v := I _) rfl) ?_
  refine AN.one 2 (by kernel_rfl) ?_
  refine AO.new rfl gnone rfl hH5 (List.Sublist.refl _) (f := fun b => .slice (some ⟨b, 0, none⟩) 1 1) (run_mkL Tryd.underlying36 rfl rfl (sz := 1) (vs := [I _]) rfl rfl (by decide) (by decide) rfl rfl) ?_
  intro b8 w6 hH7
  (try simp only [List.flatMap_cons, List.flatMap_nil, clI, clB, clS, clP, clL, clA, List.append_nil, List.cons_append, List.nil_append] at hH7)
  refine AN.one 3 (by kernel_rfl) ?_
  refine AO.callP rfl gnone rfl hH7 (.cons _ (List.Sublist.refl _)) (c_mask_Of _ [i] _ (hH7.slBlk (i := 0) (n := 1) (sz := 1) rfl rfl (by decide))) (run_call1 Tryd.call65 rfl) ?_
  intro w9 hH10
  refine AN.one 4 (by kernel_rfl) ?_
  refine AO.callP rfl gnone rfl hH10 (.cons _ (List.Sublist.refl _)) (c_relate_Up _ _  _ (hT.hp hH10)) (run_call2 Tryd.call32 rfl rfl) ?_
  intro w11 hH12
  refine AN.take 5 rfl rfl (by kernel_rfl) (by kernel_rfl) (by kernel_rfl) (hH12.sub (.cons _ (List.Sublist.refl _))) (fun w hS => run_assign (v := U _) rfl) ?_
  refine AN.done (by kernel_rfl) ?_
  refine CW.ret ?_
  refine outP1 Tryd.results86 (congrArg U ?_) hH12.below
  rfl

theorem c_hasse_below (r : Rl) (i : Int) (w : World) (hT : Tab w) : Calls Tryd.prog 87 #[.agg (relC r), I i] w (Pure (U (belowR r i)) w) := by
  refine enter Tryd.func87 rfl Tryd.ntmps87 rfl ?_
  have hH := Hp.start w
  refine CW.seq ?_
  refine CW.region ?_
  refine RL.new rfl hH (f := fun b => (.pointer (some ⟨b, 0, none⟩))) (run_box (v := .agg _) rfl) ?_
  intro b3 w1 hH2
  refine RL.val rfl (run_assign (v := U 0#64) rfl) ?_
  refine RL.nil ?_
  refine CW.seq ?_
  refine CW.seq ?_
  refine CW.region ?_
  refine RL.val rfl (run_ldRel Tryd.underlying25 rfl rfl rfl (hH2.blk (i := 0) rfl)) ?_
  refine RL.val rfl (run_move (v := I _) rfl) ?_
  refine RL.callP rfl hH2 (c_hasse_in _ _  _) (run_call2 Tryd.call114 rfl rfl) ?_
  intro w4 hH5
  refine RL.val rfl (run_not rfl) ?_
  refine RL.nil ?_
  refine CW.cond rfl (fun h8 => ?_) (fun h8 => ?_)
  · refine CW.seq ?_
    refine CW.region ?_
    refine RL.val rfl (run_assign (v := U 0#64) rfl) ?_
    refine RL.nil ?_
    refine CW.ret ?_
    refine outP1 Tryd.results87 (congrArg U ?_) hH5.below
    first | rw [belowR, if_neg (by simpa using ‹(!isP r i) = true›)] | rw [belowR, if_pos (by simpa using ‹(!isP r i) = false›)]
  · refine CW.skip ?_
    refine CW.seq ?_
    refine CW.regionD (by kernel_rfl) hH5 ?_
    intro w9 hH10
    refine AN.take 0 rfl rfl (by kernel_rfl) (by kernel_rfl) (by kernel_rfl) (hH10.sub (List.Sublist.refl _)) (fun w hS => run_ldRel Tryd.underlying25 rfl rfl rfl (hS.blk (i := 0) rfl)) ?_
    refine AN.take 1 rfl rfl (by kernel_rfl) (by kernel_rfl) (by kernel_rfl) (hH10.sub (List.Sublist.refl _)) (fun w hS => run_move (v := I _) rfl) ?_
    refine AN.one 2 (by kernel_rfl) ?_
    refine AO.new rfl gnone rfl hH10 (List.Sublist.refl _) (f := fun b => .slice (some ⟨b, 0, none⟩) 1 1) (run_mkL Tryd.underlying36 rfl rfl (sz := 1) (vs := [I _]) rfl rfl (by decide) (by decide) rfl rfl) ?_
    intro b13 w11 hH12
    (try simp only [List.flatMap_cons, List.flatMap_nil, clI, clB, clS, clP, clL, clA, List.append_nil, List.cons_append, List.nil_append] at hH12)
    refine AN.one 3 (by kernel_rfl) ?_
    refine AO.callP rfl gnone rfl hH12 (.cons _ (List.Sublist.refl _)) (c_mask_Of _ [i] _ (hH12.slBlk (i := 0) (n := 1) (sz := 1) rfl rfl (by decide))) (run_call1 Tryd.call65 rfl) ?_
    intro w14 hH15
    refine AN.one 4 (by kernel_rfl) ?_
    refine AO.callP rfl gnone rfl hH15 (.cons _ (List.Sublist.refl _)) (c_relate_Down _ _  _) (run_call2 Tryd.call33 rfl rfl) ?_
    intro w16 hH17
    refine AN.take 5 rfl rfl (by kernel_rfl) (by kernel_rfl) (by kernel_rfl) (hH17.sub (.cons _ (List.Sublist.refl _))) (fun w hS => run_assign (v := U _) rfl) ?_
    refine AN.done (by kernel_rfl) ?_
    refine CW.ret ?_
    refine outP1 Tryd.results87 (congrArg U ?_) hH17.below
    first | rw [belowR, if_neg (by simpa using ‹(!isP r i) = true›)] | rw [belowR, if_pos (by simpa using ‹(!isP r i) = false›)]

theorem c_hasse_nearest (r : Rl) (i j : Int) (f : FuncId) (gg : Int → BitVec 64) (w : World) (hf : ∀ args w, (callFunc f args).run Tryd.prog w = .ok (.enter f args) w) (go : ∀ i w, Tab w → Calls Tryd.prog f #[.agg (relC r), I i] w (Pure (U (gg i)) w)) (hn : ∀ u, hasB (gg i &&& gg j) u = true → u < pts r) (hT : Tab w) : Calls Tryd.prog 85 #[.agg (relC r), I i, I j, .func (.func f) #[] #[]] w (Pure (.tuple #[I (nearV gg (pts r) i j).1, B (nearV gg (pts r) i j).2]) w) := by
  have hl := lst_len (gg i &&& gg j)
  refine enter Tryd.func85 rfl Tryd.ntmps85 rfl ?_
  have hH := Hp.start w
  refine CW.seq ?_
  refine CW.region ?_
  refine RL.new rfl hH (f := fun b => (.pointer (some ⟨b, 0, none⟩))) (run_box (v := .agg _) rfl) ?_
  intro b3 w1 hH2
  refine RL.val rfl (run_assign (v := I 0) rfl) ?_
  refine RL.val rfl (run_assign (v := B false) rfl) ?_
  refine RL.nil ?_
  refine CW.seq ?_
  refine CW.regionD (by kernel_rfl) hH2 ?_
  intro w4 hH5
  refine AN.take 0 rfl rfl (by kernel_rfl) (by kernel_rfl) (by kernel_rfl) (hH5.sub (List.Sublist.refl _)) (fun w hS => run_move (v := .func _ _ _) rfl) ?_
  refine AN.take 1 rfl rfl (by kernel_rfl) (by kernel_rfl) (by kernel_rfl) (hH5.sub (List.Sublist.refl _)) (fun w hS => run_ldRel Tryd.underlying25 rfl rfl rfl (hS.blk (i := 0) rfl)) ?_
  refine AN.take 2 rfl rfl (by kernel_rfl) (by kernel_rfl) (by kernel_rfl) (hH5.sub (List.Sublist.refl _)) (fun w hS => run_move (v := I _) rfl) ?_
  refine AN.take 4 rfl rfl (by kernel_rfl) (by kernel_rfl) (by kernel_rfl) (hH5.sub (List.Sublist.refl _)) (fun w hS => run_move (v := .func _ _ _) rfl) ?_
  refine AN.take 5 rfl rfl (by kernel_rfl) (by kernel_rfl) (by kernel_rfl) (hH5.sub (List.Sublist.refl _)) (fun w hS => run_ldRel Tryd.underlying25 rfl rfl rfl (hS.blk (i := 0) rfl)) ?_
  refine AN.take 6 rfl rfl (by kernel_rfl) (by kernel_rfl) (by kernel_rfl) (hH5.sub (List.Sublist.refl _)) (fun w hS => run_move (v := I _) rfl) ?_
  refine AN.one 3 (by kernel_rfl) ?_
  refine AO.callP rfl gnone rfl hH5 (List.Sublist.refl _) (go _ _ (hT.hp hH5)) (run_callC2 hf (cs := []) rfl rfl rfl) ?_
  intro w6 hH7
  refine AN.one 7 (by kernel_rfl) ?_
  refine AO.callP rfl gnone rfl hH7 (List.Sublist.refl _) (go _ _ (hT.hp hH7)) (run_callC2 hf (cs := []) rfl rfl rfl) ?_
  intro w8 hH9
  refine AN.take 8 rfl rfl (by kernel_rfl) (by kernel_rfl) (by kernel_rfl) (hH9.sub (List.Sublist.refl _)) (fun w hS => run_andU rfl rfl) ?_
  refine AN.take 9 rfl rfl (by kernel_rfl) (by kernel_rfl) (by kernel_rfl) (hH9.sub (List.Sublist.refl _)) (fun w hS => run_assign (v := U _) rfl) ?_
  refine AN.done (by kernel_rfl) ?_
  refine CW.seq ?_
  refine CW.seq ?_
  refine CW.region ?_
  refine RL.val rfl (run_move (v := U _) rfl) ?_
  refine RL.callR rfl hH9 (c_mask_List _  _ (hT.hp hH9)) (run_call1 Tryd.call84 rfl) ?_
  intro v12 w10 hH11
  refine RL.val rfl (run_lenSl (hH11.sl (i := 0) rfl) rfl Tryd.underlying36 rfl) ?_
  refine RL.val rfl (run_move (v := I 0) rfl) ?_
  refine RL.nil ?_
  refine CW.block ?_
  refine CW.loop (G := (Int)) (fun (a : Int) s' w' => (Fr [8, 9, 12, 25, 26, 27, 28, 29, 30, 31, 32, 33, 34, 35, 36] _ s') ∧ (Hp w w' _) ∧ (s' 25 = I a) ∧ (0 ≤ a) ∧ (a ≤ (lst (gg i &&& gg j)).length) ∧ (∀ b : Int, 0 ≤ b → b < a → subB (gg i &&& gg j) (gg ((lst (gg i &&& gg j)).getD b.toNat 0)) = false)) (fun (a : Int) => ((lst (gg i &&& gg j)).length - a).toNat) (0) ⟨Fr.refl _ _, hH11, rfl, (by omega), (by omega), fun b x y => absurd y (by omega)⟩ ?_
  rintro a sg13 w13 ⟨fr13, hH13, e25_13, a0, a1, hg⟩
  have e3_13 : sg13 3 = .func _ _ _ := (fr13 3 rfl).trans rfl
  have e4_13 : sg13 4 = .pointer (some ⟨_, _, none⟩) := (fr13 4 rfl).trans rfl
  have e10_13 : sg13 10 = U _ := (fr13 10 rfl).trans rfl
  have e23_13 := (fr13 23 rfl).trans (by conv => lhs; whnf)
  have e24_13 : sg13 24 = I _ := (fr13 24 rfl).trans rfl
  refine CW.seq ?_
  refine CW.region ?_
  refine RL.val rfl (run_lss e25_13 e24_13) ?_
  refine RL.nil ?_
  refine CW.seq ?_
  refine CW.condP rfl (fun h15 => ?_) (fun h15 => ?_)
  · refine CW.skip ?_
    refine CW.seq ?_
    refine CW.block ?_
    refine CW.seq ?_
    refine CW.region ?_
    refine RL.val rfl (run_indexAddrS (hH13.sl (i := 0) rfl) Tryd.underlying36 Tryd.sizeOf3 e23_13 e25_13 (by omega)) ?_
    refine RL.val rfl (run_ld Tryd.underlying3 rfl rfl ((hH13.sl (i := 0) rfl).cell _ _ (map_at (by omega)))) ?_
    refine RL.val rfl (run_assign (v := I _) rfl) ?_
    refine RL.nil ?_
    refine CW.seq ?_
    refine CW.region ?_
    refine RL.val rfl (run_move e10_13) ?_
    refine RL.val rfl (run_move e3_13) ?_
    refine RL.val rfl (run_ldRel Tryd.underlying25 rfl rfl e4_13 (hH13.blk (i := 1) rfl)) ?_
    refine RL.val rfl (run_move (v := I _) rfl) ?_
    refine RL.callP rfl hH13 (go _ _ (hT.hp hH13)) (run_callC2 hf (cs := []) rfl rfl rfl) ?_
    intro w16 hH17
    refine RL.callP rfl hH17 (c_mask_Sub _ _  _) (run_call2 Tryd.call60 rfl rfl) ?_
    intro w18 hH19
    refine RL.nil ?_
    refine CW.cond rfl (fun h21 => ?_) (fun h21 => ?_)
    · refine CW.seq ?_
      refine CW.region ?_
      refine RL.val rfl (run_move (v := I _) rfl) ?_
      refine RL.val rfl (run_assign (v := I _) rfl) ?_
      refine RL.val rfl (run_assign (v := B true) rfl) ?_
      refine RL.nil ?_
      refine CW.ret ?_
      refine outP2 Tryd.results85 (congrArg I ?_) (congrArg B ?_) hH19.below <;> rw [near_yes hn a0 ‹_› ‹_› hg]
    · refine CW.skip ?_
      refine CW.region ?_
      refine RL.val rfl (run_add e25_13 rfl (by omega)) ?_
      refine RL.val rfl (run_move (v := I _) rfl) ?_
      refine RL.nil ?_
      refine ⟨a + 1, ?_, (((((((((((fr13.u rfl).u rfl).u rfl).u rfl).u rfl).u rfl).u rfl).u rfl).u rfl).u rfl).u rfl).u rfl, hH19, (congrArg I (by first | rfl | omega)), ?_, ?_, ?_⟩
      · ((try dsimp only); omega)
      · omega
      · omega
      · exact fun b x y => if e : b = a then e ▸ ‹_› else hg b x (by omega)
  · refine CW.exit (id := 0) rfl ?_
    refine CW.seq ?_
    refine CW.region ?_
    refine RL.val rfl (run_assign (v := I 0) rfl) ?_
    refine RL.val rfl (run_assign (v := B false) rfl) ?_
    refine RL.nil ?_
    refine CW.ret ?_
    refine outP2 Tryd.results85 (congrArg I ?_) (congrArg B ?_) hH13.below <;> rw [near_no ‹_› hg]

theorem c_hasse_Join (r : Rl) (i j : Int) (w : World) (hT : Tab w) : Calls Tryd.prog 19 #[.agg (relC r), I i, I j] w (Pure (.tuple #[I (joinV r i j).1, B (joinV r i j).2]) w) := by
  refine enter Tryd.func19 rfl Tryd.ntmps19 rfl ?_
  have hH := Hp.start w
  refine CW.seq ?_
  refine CW.region ?_
  refine RL.new rfl hH (f := fun b => (.pointer (some ⟨b, 0, none⟩))) (run_box (v := .agg _) rfl) ?_
  intro b3 w1 hH2
  refine RL.val rfl (run_assign (v := I 0) rfl) ?_
  refine RL.val rfl (run_assign (v := B false) rfl) ?_
  refine RL.nil ?_
  refine CW.seq ?_
  refine CW.region ?_
  refine RL.val rfl (run_ldRel Tryd.underlying25 rfl rfl rfl (hH2.blk (i := 0) rfl)) ?_
  refine RL.val rfl (run_move (v := I _) rfl) ?_
  refine RL.val rfl (run_move (v := I _) rfl) ?_
  refine RL.callP rfl hH2 (c_hasse_nearest r i j 86 (aboveR r) _ Tryd.call86 (fun i w h => c_hasse_above r i w h) (fun u h => above_in h) (hT.hp hH2)) (run_call4 Tryd.call85 rfl rfl rfl rfl) ?_
  intro w4 hH5
  refine RL.val rfl (run_extract rfl (v := I _) rfl) ?_
  refine RL.val rfl (run_extract rfl (v := B _) rfl) ?_
  refine RL.val rfl (run_assign (v := I _) rfl) ?_
  refine RL.val rfl (run_assign (v := B _) rfl) ?_
  refine RL.nil ?_
  refine CW.ret ?_
  refine outP2 Tryd.results19 (congrArg I ?_) (congrArg B ?_) hH5.below
  all_goals rfl

theorem c_hasse_Meet (r : Rl) (i j : Int) (w : World) (hT : Tab w) : Calls Tryd.prog 21 #[.agg (relC r), I i, I j] w (Pure (.tuple #[I (meetV r i j).1, B (meetV r i j).2]) w) := by
  refine enter Tryd.func21 rfl Tryd.ntmps21 rfl ?_
  have hH := Hp.start w
  refine CW.seq ?_
  refine CW.region ?_
  refine RL.new rfl hH (f := fun b => (.pointer (some ⟨b, 0, none⟩))) (run_box (v := .agg _) rfl) ?_
  intro b3 w1 hH2
  refine RL.val rfl (run_assign (v := I 0) rfl) ?_
  refine RL.val rfl (run_assign (v := B false) rfl) ?_
  refine RL.nil ?_
  refine CW.seq ?_
  refine CW.region ?_
  refine RL.val rfl (run_ldRel Tryd.underlying25 rfl rfl rfl (hH2.blk (i := 0) rfl)) ?_
  refine RL.val rfl (run_move (v := I _) rfl) ?_
  refine RL.val rfl (run_move (v := I _) rfl) ?_
  refine RL.callP rfl hH2 (c_hasse_nearest r i j 87 (belowR r) _ Tryd.call87 (fun i w h => c_hasse_below r i w h) (fun u h => below_inR h) (hT.hp hH2)) (run_call4 Tryd.call85 rfl rfl rfl rfl) ?_
  intro w4 hH5
  refine RL.val rfl (run_extract rfl (v := I _) rfl) ?_
  refine RL.val rfl (run_extract rfl (v := B _) rfl) ?_
  refine RL.val rfl (run_assign (v := I _) rfl) ?_
  refine RL.val rfl (run_assign (v := B _) rfl) ?_
  refine RL.nil ?_
  refine CW.ret ?_
  refine outP2 Tryd.results21 (congrArg I ?_) (congrArg B ?_) hH5.below
  all_goals rfl

theorem c_hasse_Word (r : Rl) (i : Int) (w : World) (hT : Tab w) : Calls Tryd.prog 56 #[.agg (relC r), I i] w (Pure (U (belowR r i)) w) := by
  refine enter Tryd.func56 rfl Tryd.ntmps56 rfl ?_
  have hH := Hp.start w
  refine CW.seq ?_
  refine CW.region ?_
  refine RL.new rfl hH (f := fun b => (.pointer (some ⟨b, 0, none⟩))) (run_box (v := .agg _) rfl) ?_
  intro b3 w1 hH2
  refine RL.val rfl (run_assign (v := U 0#64) rfl) ?_
  refine RL.nil ?_
  refine CW.seq ?_
  refine CW.region ?_
  refine RL.val rfl (run_ldRel Tryd.underlying25 rfl rfl rfl (hH2.blk (i := 0) rfl)) ?_
  refine RL.val rfl (run_move (v := I _) rfl) ?_
  refine RL.callP rfl hH2 (c_hasse_below _ _  _ (hT.hp hH2)) (run_call2 Tryd.call87 rfl rfl) ?_
  intro w4 hH5
  refine RL.val rfl (run_assign (v := U _) rfl) ?_
  refine RL.nil ?_
  refine CW.ret ?_
  refine outP1 Tryd.results56 (congrArg U ?_) hH5.below
  rfl

theorem c_hasse_Point (r : Rl) (s : BitVec 64) (w : World) (hT : Tab w) : Calls Tryd.prog 54 #[.agg (relC r), U s] w (Pure (.tuple #[I (pointV r s).1, B (pointV r s).2]) w) := by
  have hp := pts_bd r
  have hnn : (newR r.n).n = pts r := rfl
  refine enter Tryd.func54 rfl Tryd.ntmps54 rfl ?_
  have hH := Hp.start w
  refine CW.seq ?_
  refine CW.region ?_
  refine RL.new rfl hH (f := fun b => (.pointer (some ⟨b, 0, none⟩))) (run_box (v := .agg _) rfl) ?_
  intro b3 w1 hH2
  refine RL.val rfl (run_assign (v := I 0) rfl) ?_
  refine RL.val rfl (run_assign (v := B false) rfl) ?_
  refine RL.nil ?_
  refine CW.seq ?_
  refine CW.seq ?_
  refine CW.region ?_
  refine RL.val rfl (run_fieldAddr Tryd.underlying25 rfl (off := 0) rfl Tryd.sizeOf3 (by decide) rfl) ?_
  refine RL.val rfl (run_ld Tryd.underlying3 rfl rfl (hH2.cell (i := 0) rfl (relC_N _))) ?_
  refine RL.callP rfl hH2 (c_relate_New _  _) (run_call1 Tryd.call52 rfl) ?_
  intro w4 hH5
  refine RL.val rfl (run_field Tryd.underlying25 rfl Tryd.isAgg3 rfl (relC_N _)) ?_
  refine RL.val rfl (run_move (v := I 0) rfl) ?_
  refine RL.nil ?_
  refine CW.block ?_
  refine CW.loop (G := (Int)) (fun (k : Int) s' w' => (Fr [4, 5, 6, 11, 12, 13, 14, 15, 16, 17, 18, 19, 20] _ s') ∧ (Hp w w' _) ∧ (s' 11 = I k) ∧ (0 ≤ k) ∧ (k ≤ pts r) ∧ (∀ j : Int, 0 ≤ j → j < k → belowR r j ≠ s)) (fun (k : Int) => (pts r - k).toNat) (0) ⟨Fr.refl _ _, hH5, rfl, (by omega), (by omega), fun j x y => absurd y (by omega)⟩ ?_
  rintro k sg6 w6 ⟨fr6, hH6, e11_6, h0, hk, hg⟩
  have e1_6 : sg6 1 = U _ := (fr6 1 rfl).trans rfl
  have e2_6 : sg6 2 = .pointer (some ⟨_, _, none⟩) := (fr6 2 rfl).trans rfl
  have e10_6 : sg6 10 = I _ := (fr6 10 rfl).trans rfl
  refine CW.seq ?_
  refine CW.region ?_
  refine RL.val rfl (run_lss e11_6 e10_6) ?_
  refine RL.nil ?_
  refine CW.seq ?_
  refine CW.condP rfl (fun h8 => ?_) (fun h8 => ?_)
  · refine CW.skip ?_
    refine CW.seq ?_
    refine CW.block ?_
    refine CW.seq ?_
    refine CW.region ?_
    refine RL.val rfl (run_move e11_6) ?_
    refine RL.val rfl (run_assign (v := I _) rfl) ?_
    refine RL.nil ?_
    refine CW.seq ?_
    refine CW.region ?_
    refine RL.val rfl (run_ldRel Tryd.underlying25 rfl rfl e2_6 (hH6.blk (i := 0) rfl)) ?_
    refine RL.val rfl (run_move (v := I _) rfl) ?_
    refine RL.callP rfl hH6 (c_hasse_Word _ _  _ (hT.hp hH6)) (run_call2 Tryd.call56 rfl rfl) ?_
    intro w9 hH10
    refine RL.val rfl (run_move e1_6) ?_
    refine RL.val rfl (run_eqlU rfl rfl) ?_
    refine RL.nil ?_
    refine CW.condP rfl (fun h12 => ?_) (fun h12 => ?_)
    · refine CW.seq ?_
      refine CW.region ?_
      refine RL.val rfl (run_move (v := I _) rfl) ?_
      refine RL.val rfl (run_assign (v := I _) rfl) ?_
      refine RL.val rfl (run_assign (v := B true) rfl) ?_
      refine RL.nil ?_
      refine CW.ret ?_
      refine outP2 Tryd.results54 (congrArg I ?_) (congrArg B ?_) hH10.below <;> rw [point_yes h0 (by omega) ‹_› hg]
    · refine CW.skip ?_
      refine CW.region ?_
      refine RL.val rfl (run_add e11_6 rfl (by omega)) ?_
      refine RL.val rfl (run_move (v := I _) rfl) ?_
      refine RL.nil ?_
      refine ⟨k + 1, ?_, (((((((((fr6.u rfl).u rfl).u rfl).u rfl).u rfl).u rfl).u rfl).u rfl).u rfl).u rfl, hH10, (congrArg I (by first | rfl | omega)), ?_, ?_, ?_⟩
      · ((try dsimp only); omega)
      · omega
      · omega
      · exact fun j x y => if e : j = k then e ▸ ‹¬ belowR r k = s› else hg j x (by omega)
  · refine CW.exit (id := 0) rfl ?_
    refine CW.seq ?_
    refine CW.region ?_
    refine RL.val rfl (run_assign (v := I 0) rfl) ?_
    refine RL.val rfl (run_assign (v := B false) rfl) ?_
    refine RL.nil ?_
    refine CW.ret ?_
    refine outP2 Tryd.results54 (congrArg I ?_) (congrArg B ?_) hH6.below <;> rw [point_no (by omega) hg]

theorem c_hasse_Raise (r : Rl) (a b : BitVec 64) (w : World) (hT : Tab w) : Calls Tryd.prog 58 #[.agg (relC r), U a, U b] w (Pure (U (raiseV r a b)) w) := by
  refine enter Tryd.func58 rfl Tryd.ntmps58 rfl ?_
  have hH := Hp.start w
  refine CW.seq ?_
  refine CW.region ?_
  refine RL.new rfl hH (f := fun b => (.pointer (some ⟨b, 0, none⟩))) (run_box (v := .agg _) rfl) ?_
  intro b3 w1 hH2
  refine RL.val rfl (run_assign (v := U 0#64) rfl) ?_
  refine RL.nil ?_
  refine CW.seq ?_
  refine CW.seq ?_
  refine CW.region ?_
  refine RL.val rfl (run_ldRel Tryd.underlying25 rfl rfl rfl (hH2.blk (i := 0) rfl)) ?_
  refine RL.val rfl (run_move (v := U _) rfl) ?_
  refine RL.callP rfl hH2 (c_hasse_Point _ _  _ (hT.hp hH2)) (run_call2 Tryd.call54 rfl rfl) ?_
  intro w4 hH5
  refine RL.val rfl (run_move (by conv => lhs; whnf)) ?_
  refine RL.val rfl (run_extract rfl (v := I _) rfl) ?_
  refine RL.val rfl (run_extract rfl (v := B _) rfl) ?_
  refine RL.val rfl (run_assign (v := I _) rfl) ?_
  refine RL.val rfl (run_assign (v := B _) rfl) ?_
  refine RL.nil ?_
  refine CW.seq ?_
  refine CW.region ?_
  refine RL.val rfl (run_move (v := B _) rfl) ?_
  refine RL.nil ?_
  refine CW.cond rfl (fun h7 => ?_) (fun h7 => ?_)
  · refine CW.seq ?_
    refine CW.region ?_
    refine RL.val rfl (run_ldRel Tryd.underlying25 rfl rfl rfl (hH5.blk (i := 0) rfl)) ?_
    refine RL.val rfl (run_move (v := U _) rfl) ?_
    refine RL.callP rfl hH5 (c_hasse_Point _ _  _ (hT.hp hH5)) (run_call2 Tryd.call54 rfl rfl) ?_
    intro w8 hH9
    refine RL.val rfl (run_move (by conv => lhs; whnf)) ?_
    refine RL.val rfl (run_extract rfl (v := I _) rfl) ?_
    refine RL.val rfl (run_extract rfl (v := B _) rfl) ?_
    refine RL.val rfl (run_assign (v := I _) rfl) ?_
    refine RL.val rfl (run_assign (v := B _) rfl) ?_
    refine RL.nil ?_
    refine CW.seq ?_
    refine CW.region ?_
    refine RL.val rfl (run_move (v := B _) rfl) ?_
    refine RL.nil ?_
    refine CW.cond rfl (fun h11 => ?_) (fun h11 => ?_)
    · refine CW.seq ?_
      refine CW.region ?_
      refine RL.val rfl (run_ldRel Tryd.underlying25 rfl rfl rfl (hH9.blk (i := 0) rfl)) ?_
      refine RL.val rfl (run_move (v := I _) rfl) ?_
      refine RL.val rfl (run_move (v := I _) rfl) ?_
      refine RL.callP rfl hH9 (c_hasse_Join _ _ _  _ (hT.hp hH9)) (run_call3 Tryd.call19 rfl rfl rfl) ?_
      intro w12 hH13
      refine RL.val rfl (run_move (by conv => lhs; whnf)) ?_
      refine RL.val rfl (run_extract rfl (v := I _) rfl) ?_
      refine RL.val rfl (run_extract rfl (v := B _) rfl) ?_
      refine RL.val rfl (run_assign (v := I _) rfl) ?_
      refine RL.val rfl (run_assign (v := B _) rfl) ?_
      refine RL.nil ?_
      refine CW.seq ?_
      refine CW.region ?_
      refine RL.val rfl (run_move (v := B _) rfl) ?_
      refine RL.nil ?_
      refine CW.cond rfl (fun h15 => ?_) (fun h15 => ?_)
      · refine CW.seq ?_
        refine CW.region ?_
        refine RL.val rfl (run_ldRel Tryd.underlying25 rfl rfl rfl (hH13.blk (i := 0) rfl)) ?_
        refine RL.val rfl (run_move (v := I _) rfl) ?_
        refine RL.callP rfl hH13 (c_hasse_Word _ _  _ (hT.hp hH13)) (run_call2 Tryd.call56 rfl rfl) ?_
        intro w16 hH17
        refine RL.val rfl (run_assign (v := U _) rfl) ?_
        refine RL.nil ?_
        refine CW.ret ?_
        refine outP1 Tryd.results58 (congrArg U ?_) hH17.below
        first | rw [raise_yes ‹_› ‹_› ‹_›] | rw [raise_no1 ‹_›] | rw [raise_no2 ‹_›] | rw [raise_no3 ‹_›]
      · refine CW.skip ?_
        refine CW.seq ?_
        refine CW.region ?_
        refine RL.val rfl (run_move (v := U _) rfl) ?_
        refine RL.val rfl (run_move (v := U _) rfl) ?_
        refine RL.val rfl (run_orU rfl rfl) ?_
        refine RL.val rfl (run_assign (v := U _) rfl) ?_
        refine RL.nil ?_
        refine CW.ret ?_
        refine outP1 Tryd.results58 (congrArg U ?_) hH13.below
        first | rw [raise_yes ‹_› ‹_› ‹_›] | rw [raise_no1 ‹_›] | rw [raise_no2 ‹_›] | rw [raise_no3 ‹_›]
    · refine CW.skip ?_
      refine CW.seq ?_
      refine CW.region ?_
      refine RL.val rfl (run_move (v := U _) rfl) ?_
      refine RL.val rfl (run_move (v := U _) rfl) ?_
      refine RL.val rfl (run_orU rfl rfl) ?_
      refine RL.val rfl (run_assign (v := U _) rfl) ?_
      refine RL.nil ?_
      refine CW.ret ?_
      refine outP1 Tryd.results58 (congrArg U ?_) hH9.below
      first | rw [raise_yes ‹_› ‹_› ‹_›] | rw [raise_no1 ‹_›] | rw [raise_no2 ‹_›] | rw [raise_no3 ‹_›]
  · refine CW.skip ?_
    refine CW.seq ?_
    refine CW.region ?_
    refine RL.val rfl (run_move (v := U _) rfl) ?_
    refine RL.val rfl (run_move (v := U _) rfl) ?_
    refine RL.val rfl (run_orU rfl rfl) ?_
    refine RL.val rfl (run_assign (v := U _) rfl) ?_
    refine RL.nil ?_
    refine CW.ret ?_
    refine outP1 Tryd.results58 (congrArg U ?_) hH5.below
    first | rw [raise_yes ‹_› ‹_› ‹_›] | rw [raise_no1 ‹_›] | rw [raise_no2 ‹_›] | rw [raise_no3 ‹_›]

theorem c_hasse_end (r : Rl) (f : FuncId) (gg : Int → BitVec 64) (w : World) (hf : ∀ args w, (callFunc f args).run Tryd.prog w = .ok (.enter f args) w) (go : ∀ i w, Tab w → Calls Tryd.prog f #[.agg (relC r), I i] w (Pure (U (gg i)) w)) (hT : Tab w) : Calls Tryd.prog 99 #[.agg (relC r), .func (.func f) #[] #[]] w (Pure (.tuple #[I (endV r gg).1, B (endV r gg).2]) w) := by
  have hp := pts_bd r
  have hnn : (newR r.n).n = pts r := rfl
  refine enter Tryd.func99 rfl Tryd.ntmps99 rfl ?_
  have hH := Hp.start w
  refine CW.seq ?_
  refine CW.region ?_
  refine RL.new rfl hH (f := fun b => (.pointer (some ⟨b, 0, none⟩))) (run_box (v := .agg _) rfl) ?_
  intro b3 w1 hH2
  refine RL.val rfl (run_assign (v := I 0) rfl) ?_
  refine RL.val rfl (run_assign (v := B false) rfl) ?_
  refine RL.nil ?_
  refine CW.seq ?_
  refine CW.region ?_
  refine RL.val rfl (run_fieldAddr Tryd.underlying25 rfl (off := 0) rfl Tryd.sizeOf3 (by decide) rfl) ?_
  refine RL.val rfl (run_ld Tryd.underlying3 rfl rfl (hH2.cell (i := 0) rfl (relC_N _))) ?_
  refine RL.callP rfl hH2 (c_relate_New _  _) (run_call1 Tryd.call52 rfl) ?_
  intro w4 hH5
  refine RL.val rfl (run_field Tryd.underlying25 rfl Tryd.isAgg3 rfl (relC_N _)) ?_
  refine RL.val rfl (run_assign (v := I _) rfl) ?_
  refine RL.nil ?_
  refine CW.seq ?_
  refine CW.seq ?_
  refine CW.region ?_
  refine RL.val rfl (run_move (v := I _) rfl) ?_
  refine RL.val rfl (run_move (v := I 0) rfl) ?_
  refine RL.nil ?_
  refine CW.block ?_
  refine CW.loop (G := (Int)) (fun (k : Int) s' w' => (Fr [4, 5, 7, 13, 14, 15, 16, 17, 18, 19, 20, 21, 22, 23, 24] _ s') ∧ (Hp w w' _) ∧ (s' 13 = I k) ∧ (0 ≤ k) ∧ (k ≤ pts r) ∧ (∀ j : Int, 0 ≤ j → j < k → gg j ≠ below (pts r))) (fun (k : Int) => (pts r - k).toNat) (0) ⟨Fr.refl _ _, hH5, rfl, (by omega), (by omega), fun j x y => absurd y (by omega)⟩ ?_
  rintro k sg6 w6 ⟨fr6, hH6, e13_6, h0, hk, hg⟩
  have e1_6 : sg6 1 = .func _ _ _ := (fr6 1 rfl).trans rfl
  have e2_6 : sg6 2 = .pointer (some ⟨_, _, none⟩) := (fr6 2 rfl).trans rfl
  have e6_6 : sg6 6 = I _ := (fr6 6 rfl).trans rfl
  have e12_6 : sg6 12 = I _ := (fr6 12 rfl).trans rfl
  refine CW.seq ?_
  refine CW.region ?_
  refine RL.val rfl (run_lss e13_6 e12_6) ?_
  refine RL.nil ?_
  refine CW.seq ?_
  refine CW.condP rfl (fun h8 => ?_) (fun h8 => ?_)
  · refine CW.skip ?_
    refine CW.seq ?_
    refine CW.block ?_
    refine CW.seq ?_
    refine CW.region ?_
    refine RL.val rfl (run_move e13_6) ?_
    refine RL.val rfl (run_assign (v := I _) rfl) ?_
    refine RL.nil ?_
    refine CW.seq ?_
    refine CW.region ?_
    refine RL.val rfl (run_move e1_6) ?_
    refine RL.val rfl (run_ldRel Tryd.underlying25 rfl rfl e2_6 (hH6.blk (i := 0) rfl)) ?_
    refine RL.val rfl (run_move (v := I _) rfl) ?_
    refine RL.callP rfl hH6 (go _ _ (hT.hp hH6)) (run_callC2 hf (cs := []) rfl rfl rfl) ?_
    intro w9 hH10
    refine RL.val rfl (run_move e6_6) ?_
    refine RL.callP rfl hH10 (c_mask_Below _  _) (run_call1 Tryd.call92 rfl) ?_
    intro w11 hH12
    refine RL.val rfl (run_eqlU rfl rfl) ?_
    refine RL.nil ?_
    refine CW.condP rfl (fun h14 => ?_) (fun h14 => ?_)
    · refine CW.seq ?_
      refine CW.region ?_
      refine RL.val rfl (run_move (v := I _) rfl) ?_
      refine RL.val rfl (run_assign (v := I _) rfl) ?_
      refine RL.val rfl (run_assign (v := B true) rfl) ?_
      refine RL.nil ?_
      refine CW.ret ?_
      refine outP2 Tryd.results99 (congrArg I ?_) (congrArg B ?_) hH12.below <;> rw [end_yes h0 (by omega) ‹_› hg]
    · refine CW.skip ?_
      refine CW.region ?_
      refine RL.val rfl (run_add e13_6 rfl (by omega)) ?_
      refine RL.val rfl (run_move (v := I _) rfl) ?_
      refine RL.nil ?_
      refine ⟨k + 1, ?_, (((((((((((fr6.u rfl).u rfl).u rfl).u rfl).u rfl).u rfl).u rfl).u rfl).u rfl).u rfl).u rfl).u rfl, hH12, (congrArg I (by first | rfl | omega)), ?_, ?_, ?_⟩
      · ((try dsimp only); omega)
      · omega
      · omega
      · exact fun j x y => if e : j = k then e ▸ ‹¬ gg k = below _› else hg j x (by omega)
  · refine CW.exit (id := 0) rfl ?_
    refine CW.seq ?_
    refine CW.region ?_
    refine RL.val rfl (run_assign (v := I 0) rfl) ?_
    refine RL.val rfl (run_assign (v := B false) rfl) ?_
    refine RL.nil ?_
    refine CW.ret ?_
    refine outP2 Tryd.results99 (congrArg I ?_) (congrArg B ?_) hH6.below <;> rw [end_no (by omega) hg]

theorem c_hasse_Bottom (r : Rl) (w : World) (hT : Tab w) : Calls Tryd.prog 44 #[.agg (relC r)] w (Pure (.tuple #[I (endV r (aboveR r)).1, B (endV r (aboveR r)).2]) w) := by
  refine enter Tryd.func44 rfl Tryd.ntmps44 rfl ?_
  have hH := Hp.start w
  refine CW.seq ?_
  refine CW.region ?_
  refine RL.new rfl hH (f := fun b => (.pointer (some ⟨b, 0, none⟩))) (run_box (v := .agg _) rfl) ?_
  intro b3 w1 hH2
  refine RL.val rfl (run_assign (v := I 0) rfl) ?_
  refine RL.val rfl (run_assign (v := B false) rfl) ?_
  refine RL.nil ?_
  refine CW.seq ?_
  refine CW.region ?_
  refine RL.val rfl (run_ldRel Tryd.underlying25 rfl rfl rfl (hH2.blk (i := 0) rfl)) ?_
  refine RL.callP rfl hH2 (c_hasse_end r 86 (aboveR r) _ Tryd.call86 (fun i w h => c_hasse_above r i w h) (hT.hp hH2)) (run_call2 Tryd.call99 rfl rfl) ?_
  intro w4 hH5
  refine RL.val rfl (run_extract rfl (v := I _) rfl) ?_
  refine RL.val rfl (run_extract rfl (v := B _) rfl) ?_
  refine RL.val rfl (run_assign (v := I _) rfl) ?_
  refine RL.val rfl (run_assign (v := B _) rfl) ?_
  refine RL.nil ?_
  refine CW.ret ?_
  refine outP2 Tryd.results44 (congrArg I ?_) (congrArg B ?_) hH5.below
  all_goals rfl

theorem c_hasse_Top (r : Rl) (w : World) (hT : Tab w) : Calls Tryd.prog 46 #[.agg (relC r)] w (Pure (.tuple #[I (endV r (belowR r)).1, B (endV r (belowR r)).2]) w) := by
  refine enter Tryd.func46 rfl Tryd.ntmps46 rfl ?_
  have hH := Hp.start w
  refine CW.seq ?_
  refine CW.region ?_
  refine RL.new rfl hH (f := fun b => (.pointer (some ⟨b, 0, none⟩))) (run_box (v := .agg _) rfl) ?_
  intro b3 w1 hH2
  refine RL.val rfl (run_assign (v := I 0) rfl) ?_
  refine RL.val rfl (run_assign (v := B false) rfl) ?_
  refine RL.nil ?_
  refine CW.seq ?_
  refine CW.region ?_
  refine RL.val rfl (run_ldRel Tryd.underlying25 rfl rfl rfl (hH2.blk (i := 0) rfl)) ?_
  refine RL.callP rfl hH2 (c_hasse_end r 87 (belowR r) _ Tryd.call87 (fun i w h => c_hasse_below r i w h) (hT.hp hH2)) (run_call2 Tryd.call99 rfl rfl) ?_
  intro w4 hH5
  refine RL.val rfl (run_extract rfl (v := I _) rfl) ?_
  refine RL.val rfl (run_extract rfl (v := B _) rfl) ?_
  refine RL.val rfl (run_assign (v := I _) rfl) ?_
  refine RL.val rfl (run_assign (v := B _) rfl) ?_
  refine RL.nil ?_
  refine CW.ret ?_
  refine outP2 Tryd.results46 (congrArg I ?_) (congrArg B ?_) hH5.below
  all_goals rfl

theorem c_hasse_Lattice (r : Rl) (w : World) (hT : Tab w) : Calls Tryd.prog 47 #[.agg (relC r)] w (Pure (B (latB r)) w) := by
  have hp := pts_bd r
  refine enter Tryd.func47 rfl Tryd.ntmps47 rfl ?_
  have hH := Hp.start w
  refine CW.seq ?_
  refine CW.region ?_
  refine RL.new rfl hH (f := fun b => (.pointer (some ⟨b, 0, none⟩))) (run_box (v := .agg _) rfl) ?_
  intro b3 w1 hH2
  refine RL.val rfl (run_assign (v := B false) rfl) ?_
  refine RL.nil ?_
  refine CW.seq ?_
  refine CW.seq ?_
  refine CW.region ?_
  refine RL.val rfl (run_fieldAddr Tryd.underlying25 rfl (off := 0) rfl Tryd.sizeOf3 (by decide) rfl) ?_
  refine RL.val rfl (run_ld Tryd.underlying3 rfl rfl (hH2.cell (i := 0) rfl (relC_N _))) ?_
  refine RL.val rfl (run_lss rfl rfl) ?_
  refine RL.val rfl (run_move (v := B _) rfl) ?_
  refine RL.splitP (dj := 12) rfl (fun h5 => ?_) (fun h5 => ?_)
  · refine RL.gF rfl rfl (bT h5) rfl ?_
    refine RL.gF rfl rfl (bT h5) rfl ?_
    refine RL.gF rfl rfl (bT h5) rfl ?_
    refine RL.val rfl (run_pickT (bT h5) (v := B true) rfl) ?_
    refine RL.val rfl (run_move (v := B _) rfl) ?_
    refine RL.gF rfl rfl rfl rfl ?_
    refine RL.gF rfl rfl rfl rfl ?_
    refine RL.gF rfl rfl rfl rfl ?_
    refine RL.val rfl (run_pickT rfl (v := B true) rfl) ?_
    refine RL.nil ?_
    refine CW.condT rfl ?_
    refine CW.seq ?_
    refine CW.region ?_
    refine RL.val rfl (run_assign (v := B false) rfl) ?_
    refine RL.nil ?_
    refine CW.ret ?_
    refine outP1 Tryd.results47 (congrArg B ?_) hH2.below
    first | exact (lat_no1 (by omega)).symm | exact (lat_no2 (nt ‹_›)).symm | exact (lat_no3 ‹i < r.n› j0 ‹j < i› (by rw [bothB, nt ‹(!(joinV r i j).2) = true›]; rfl)).symm | exact (lat_no3 ‹i < r.n› j0 ‹j < i› (by rw [bothB, nt ‹(!(meetV r i j).2) = true›]; simp)).symm | exact (lat_yes hn ho ‹_› hg).symm
  · refine RL.gT rfl (bF h5) ?_
    refine RL.val rfl (run_fieldAddr Tryd.underlying25 rfl (off := 0) rfl Tryd.sizeOf3 (by decide) rfl) ?_
    refine RL.gT rfl (bF h5) ?_
    refine RL.val rfl (run_ld Tryd.underlying3 rfl rfl (hH2.cell (i := 0) rfl (relC_N _))) ?_
    refine RL.gT rfl (bF h5) ?_
    refine RL.val rfl (run_gtr rfl rfl) ?_
    refine RL.val rfl (run_pickF (bF h5) (v := B _) rfl) ?_
    refine RL.val rfl (run_move (v := B _) rfl) ?_
    refine RL.splitP (dj := 17) rfl (fun h7 => ?_) (fun h7 => ?_)
    · refine RL.gF rfl rfl (bT h7) rfl ?_
      refine RL.gF rfl rfl (bT h7) rfl ?_
      refine RL.gF rfl rfl (bT h7) rfl ?_
      refine RL.val rfl (run_pickT (bT h7) (v := B true) rfl) ?_
      refine RL.nil ?_
      refine CW.condT rfl ?_
      refine CW.seq ?_
      refine CW.region ?_
      refine RL.val rfl (run_assign (v := B false) rfl) ?_
      refine RL.nil ?_
      refine CW.ret ?_
      refine outP1 Tryd.results47 (congrArg B ?_) hH2.below
      first | exact (lat_no1 (by omega)).symm | exact (lat_no2 (nt ‹_›)).symm | exact (lat_no3 ‹i < r.n› j0 ‹j < i› (by rw [bothB, nt ‹(!(joinV r i j).2) = true›]; rfl)).symm | exact (lat_no3 ‹i < r.n› j0 ‹j < i› (by rw [bothB, nt ‹(!(meetV r i j).2) = true›]; simp)).symm | exact (lat_yes hn ho ‹_› hg).symm
    · refine RL.gT rfl (bF h7) ?_
      refine RL.val rfl (run_ldRel Tryd.underlying25 rfl rfl rfl (hH2.blk (i := 0) rfl)) ?_
      refine RL.gT rfl (bF h7) ?_
      refine RL.callP rfl hH2 (c_relate_Order _  _ (hT.hp hH2)) (run_call1 Tryd.call74 rfl) ?_
      intro w8 hH9
      refine RL.gT rfl (bF h7) ?_
      refine RL.val rfl (run_not rfl) ?_
      refine RL.val rfl (run_pickF (bF h7) (v := B _) rfl) ?_
      refine RL.nil ?_
      refine CW.cond rfl (fun h12 => ?_) (fun h12 => ?_)
      · refine CW.seq ?_
        refine CW.region ?_
        refine RL.val rfl (run_assign (v := B false) rfl) ?_
        refine RL.nil ?_
        refine CW.ret ?_
        refine outP1 Tryd.results47 (congrArg B ?_) hH9.below
        first | exact (lat_no1 (by omega)).symm | exact (lat_no2 (nt ‹_›)).symm | exact (lat_no3 ‹i < r.n› j0 ‹j < i› (by rw [bothB, nt ‹(!(joinV r i j).2) = true›]; rfl)).symm | exact (lat_no3 ‹i < r.n› j0 ‹j < i› (by rw [bothB, nt ‹(!(meetV r i j).2) = true›]; simp)).symm | exact (lat_yes hn ho ‹_› hg).symm
      · refine CW.skip ?_
        refine CW.seq ?_
        refine CW.seq ?_
        refine CW.region ?_
        refine RL.val rfl (run_fieldAddr Tryd.underlying25 rfl (off := 0) rfl Tryd.sizeOf3 (by decide) rfl) ?_
        refine RL.val rfl (run_ld Tryd.underlying3 rfl rfl (hH9.cell (i := 0) rfl (relC_N _))) ?_
        refine RL.val rfl (run_move (v := I 0) rfl) ?_
        refine RL.nil ?_
        refine CW.block ?_
        have hn : 1 ≤ r.n ∧ r.n ≤ 64 := by omega
        have ho : orderB r = true := nf ‹_›
        refine CW.loop (G := (Int)) (fun (i : Int) s' w' => (Fr [2, 3, 4, 5, 6, 7, 8, 24, 25, 26, 27, 28, 29, 30, 31, 32, 33, 34, 35, 36, 37, 38, 39, 40, 41, 42, 43, 44, 45, 46, 47, 48, 49, 50, 51, 52] _ s') ∧ (Hp w w' _) ∧ (s' 24 = I i) ∧ (0 ≤ i) ∧ (i ≤ r.n) ∧ (∀ a b : Int, 0 ≤ b → b < a → a < i → bothB r a b = true)) (fun (i : Int) => (r.n - i).toNat) (0) ⟨Fr.refl _ _, hH9, rfl, (by omega), (by omega), fun a b x y z => absurd z (by omega)⟩ ?_
        rintro i sg13 w13 ⟨fr13, hH13, e24_13, i0, i1, hg⟩
        have e1_13 : sg13 1 = .pointer (some ⟨_, _, none⟩) := (fr13 1 rfl).trans rfl
        have e23_13 : sg13 23 = I _ := (fr13 23 rfl).trans rfl
        refine CW.seq ?_
        refine CW.region ?_
        refine RL.val rfl (run_lss e24_13 e23_13) ?_
        refine RL.nil ?_
        refine CW.seq ?_
        refine CW.condP rfl (fun h15 => ?_) (fun h15 => ?_)
        · refine CW.skip ?_
          refine CW.seq ?_
          refine CW.block ?_
          refine CW.seq ?_
          refine CW.region ?_
          refine RL.val rfl (run_move e24_13) ?_
          refine RL.val rfl (run_assign (v := I _) rfl) ?_
          refine RL.nil ?_
          refine CW.seq ?_
          refine CW.region ?_
          refine RL.val rfl (run_move (v := I _) rfl) ?_
          refine RL.val rfl (run_move (v := I 0) rfl) ?_
          refine RL.nil ?_
          refine CW.block ?_
          refine CW.loop (G := (Int)) (fun (j : Int) s' w' => (Fr [2, 4, 5, 6, 7, 8, 28, 29, 30, 31, 32, 33, 34, 35, 36, 37, 38, 39, 40, 41, 42, 43, 44, 45, 46, 47, 48, 49, 50, 51] _ s') ∧ (Hp w w' _) ∧ (s' 28 = I j) ∧ (0 ≤ j) ∧ (j ≤ i) ∧ (∀ b : Int, 0 ≤ b → b < j → bothB r i b = true)) (fun (j : Int) => (i - j).toNat) (0) ⟨Fr.refl _ _, hH13, rfl, (by omega), (by omega), fun b x y => absurd y (by omega)⟩ ?_
          rintro j sg16 w16 ⟨fr16, hH16, e28_16, j0, j1, hh⟩
          have e1_16 := (fr16 1 rfl).trans e1_13
          have e3_16 : sg16 3 = I _ := (fr16 3 rfl).trans rfl
          have e23_16 := (fr16 23 rfl).trans e23_13
          have e24_16 := (fr16 24 rfl).trans e24_13
          have e25_16 : sg16 25 = B _ := (fr16 25 rfl).trans rfl
          have e26_16 : sg16 26 = I _ := (fr16 26 rfl).trans rfl
          have e27_16 : sg16 27 = I _ := (fr16 27 rfl).trans rfl
          refine CW.seq ?_
          refine CW.region ?_
          refine RL.val rfl (run_lss e28_16 e27_16) ?_
          refine RL.nil ?_
          refine CW.seq ?_
          refine CW.condP rfl (fun h18 => ?_) (fun h18 => ?_)
          · refine CW.skip ?_
            refine CW.seq ?_
            refine CW.block ?_
            refine CW.seq ?_
            refine CW.region ?_
            refine RL.val rfl (run_move e28_16) ?_
            refine RL.val rfl (run_assign (v := I _) rfl) ?_
            refine RL.nil ?_
            refine CW.seq ?_
            refine CW.region ?_
            refine RL.val rfl (run_ldRel Tryd.underlying25 rfl rfl e1_16 (hH16.blk (i := 0) rfl)) ?_
            refine RL.val rfl (run_move e3_16) ?_
            refine RL.val rfl (run_move (v := I _) rfl) ?_
            refine RL.callP rfl hH16 (c_hasse_Join _ _ _  _ (hT.hp hH16)) (run_call3 Tryd.call19 rfl rfl rfl) ?_
            intro w19 hH20
            refine RL.val rfl (run_move (by conv => lhs; whnf)) ?_
            refine RL.val rfl (run_extract rfl (v := I _) rfl) ?_
            refine RL.val rfl (run_extract rfl (v := B _) rfl) ?_
            refine RL.val rfl (run_assign (v := I _) rfl) ?_
            refine RL.val rfl (run_assign (v := B _) rfl) ?_
            refine RL.nil ?_
            refine CW.seq ?_
            refine CW.region ?_
            refine RL.val rfl (run_ldRel Tryd.underlying25 rfl rfl e1_16 (hH20.blk (i := 0) rfl)) ?_
            refine RL.val rfl (run_move e3_16) ?_
            refine RL.val rfl (run_move (v := I _) rfl) ?_
            refine RL.callP rfl hH20 (c_hasse_Meet _ _ _  _ (hT.hp hH20)) (run_call3 Tryd.call21 rfl rfl rfl) ?_
            intro w22 hH23
            refine RL.val rfl (run_move (by conv => lhs; whnf)) ?_
            refine RL.val rfl (run_extract rfl (v := I _) rfl) ?_
            refine RL.val rfl (run_extract rfl (v := B _) rfl) ?_
            refine RL.val rfl (run_assign (v := I _) rfl) ?_
            refine RL.val rfl (run_assign (v := B _) rfl) ?_
            refine RL.nil ?_
            refine CW.seq ?_
            refine CW.region ?_
            refine RL.val rfl (run_move (v := B _) rfl) ?_
            refine RL.val rfl (run_not rfl) ?_
            refine RL.val rfl (run_move (v := B _) rfl) ?_
            refine RL.split (dj := 47) rfl (fun h26 => ?_) (fun h26 => ?_)
            · refine RL.gF rfl rfl (bR (c := true) h26) rfl ?_
              refine RL.gF rfl rfl (bR (c := true) h26) rfl ?_
              refine RL.val rfl (run_pickT (bR (c := true) h26) (v := B true) rfl) ?_
              refine RL.nil ?_
              refine CW.condT rfl ?_
              refine CW.seq ?_
              refine CW.region ?_
              refine RL.val rfl (run_assign (v := B false) rfl) ?_
              refine RL.nil ?_
              refine CW.ret ?_
              refine outP1 Tryd.results47 (congrArg B ?_) hH23.below
              first | exact (lat_no1 (by omega)).symm | exact (lat_no2 (nt ‹_›)).symm | exact (lat_no3 ‹i < r.n› j0 ‹j < i› (by rw [bothB, nt ‹(!(joinV r i j).2) = true›]; rfl)).symm | exact (lat_no3 ‹i < r.n› j0 ‹j < i› (by rw [bothB, nt ‹(!(meetV r i j).2) = true›]; simp)).symm | exact (lat_yes hn ho ‹_› hg).symm
            · refine RL.gT rfl (bR (c := false) h26) ?_
              refine RL.val rfl (run_move (v := B _) rfl) ?_
              refine RL.gT rfl (bR (c := false) h26) ?_
              refine RL.val rfl (run_not rfl) ?_
              refine RL.val rfl (run_pickF (bR (c := false) h26) (v := B _) rfl) ?_
              refine RL.nil ?_
              refine CW.cond rfl (fun h28 => ?_) (fun h28 => ?_)
              · refine CW.seq ?_
                refine CW.region ?_
                refine RL.val rfl (run_assign (v := B false) rfl) ?_
                refine RL.nil ?_
                refine CW.ret ?_
                refine outP1 Tryd.results47 (congrArg B ?_) hH23.below
                first | exact (lat_no1 (by omega)).symm | exact (lat_no2 (nt ‹_›)).symm | exact (lat_no3 ‹i < r.n› j0 ‹j < i› (by rw [bothB, nt ‹(!(joinV r i j).2) = true›]; rfl)).symm | exact (lat_no3 ‹i < r.n› j0 ‹j < i› (by rw [bothB, nt ‹(!(meetV r i j).2) = true›]; simp)).symm | exact (lat_yes hn ho ‹_› hg).symm
              · refine CW.skip ?_
                refine CW.region ?_
                refine RL.val rfl (run_add e28_16 rfl (by omega)) ?_
                refine RL.val rfl (run_move (v := I _) rfl) ?_
                refine RL.nil ?_
                refine ⟨j + 1, ?_, ((((((((((((((((((((((((((((fr16.u rfl).u rfl).u rfl).u rfl).u rfl).u rfl).u rfl).u rfl).u rfl).u rfl).u rfl).u rfl).u rfl).u rfl).u rfl).u rfl).u rfl).u rfl).u rfl).u rfl).u rfl).u rfl).u rfl).u rfl).u rfl).u rfl).u rfl).u rfl).u rfl, hH23, (congrArg I (by first | rfl | omega)), ?_, ?_, ?_⟩
                · ((try dsimp only); omega)
                · omega
                · omega
                · exact fun b x y => if e : b = j then e ▸ (by rw [bothB, Bool.and_eq_true]; exact ⟨nf ‹(!(joinV r i j).2) = false›, nf ‹(!(meetV r i j).2) = false›⟩) else hh b x (by omega)
          · refine CW.exit (id := 2) rfl ?_
            refine CW.region ?_
            refine RL.val rfl (run_add e24_16 rfl (by omega)) ?_
            refine RL.val rfl (run_move (v := I _) rfl) ?_
            refine RL.nil ?_
            refine ⟨i + 1, ?_, (((((((((fr13.u rfl).u rfl).u rfl).u rfl).u rfl).t fr16 rfl)).u rfl).u rfl).u rfl, hH16, (congrArg I (by first | rfl | omega)), ?_, ?_, ?_⟩
            · ((try dsimp only); omega)
            · omega
            · omega
            · exact fun a b x y z => if e : a = i then e ▸ hh b x (by omega) else hg a b x y (by omega)
        · refine CW.exit (id := 0) rfl ?_
          refine CW.seq ?_
          refine CW.region ?_
          refine RL.val rfl (run_assign (v := B true) rfl) ?_
          refine RL.nil ?_
          refine CW.ret ?_
          refine outP1 Tryd.results47 (congrArg B ?_) hH13.below
          first | exact (lat_no1 (by omega)).symm | exact (lat_no2 (nt ‹_›)).symm | exact (lat_no3 ‹i < r.n› j0 ‹j < i› (by rw [bothB, nt ‹(!(joinV r i j).2) = true›]; rfl)).symm | exact (lat_no3 ‹i < r.n› j0 ‹j < i› (by rw [bothB, nt ‹(!(meetV r i j).2) = true›]; simp)).symm | exact (lat_yes hn ho ‹_› hg).symm

end Go.Proofs.YtgpneklbdmgjgaaDoor.W
