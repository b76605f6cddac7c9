/-
  The walks of the functions that the laws of this seat reach, part 3: each returns what its plain counterpart tells, and turns nothing that was there.
-/
import Derived.Test.YtgpneklbdmgjgaaDoorProg
import Derived.Test.YtgpneklbdmgjgaaDoorEnv
import Derived.Test.YtgpneklbdmgjgaaDoorPlain
import Derived.Test.YtgpneklbdmgjgaaDoorBase
import Derived.Test.YtgpneklbdmgjgaaDoorOrd
import Derived.Test.YtgpneklbdmgjgaaDoorRel
import Derived.Test.YtgpneklbdmgjgaaDoorClo
import Derived.Test.YtgpneklbdmgjgaaDoorCov
import Derived.Test.YtgpneklbdmgjgaaDoorArr
import Derived.Test.YtgpneklbdmgjgaaDoorHas
import Derived.Test.YtgpneklbdmgjgaaDoorGrd
import Derived.Test.YtgpneklbdmgjgaaDoorWalksB
namespace Go.Proofs.YtgpneklbdmgjgaaDoor.W
open Go Go.RowKit Go.Proofs.YtgpneklbdmgjgaaDoor.E Go.Proofs.YtgpneklbdmgjgaaDoor.M
set_option linter.unusedVariables false
set_option linter.unusedSimpArgs false
set_option maxRecDepth 100000

theorem c_clearanceref06_Join (r : Rl) (i j : Int) (w : World) : Calls Tryd.prog 20 #[.agg (relC r), I i, I j] w (Pure (.tuple #[I (joinV r i j).1, B (joinV r i j).2]) w) := by
  have hp := pts_bd r
  refine enter Tryd.func20 rfl Tryd.ntmps20 rfl ?_
  have hH := Hp.start w
  refine CW.seq ?_
  refine CW.region ?_
  refine RL.new rfl hH (f := fun b => (.pointer (some ⟨b, 0, none⟩))) (run_box (v := .agg _) rfl) ?_
  intro b3 w1 hH2
  refine RL.val rfl (run_assign (v := I 0) rfl) ?_
  refine RL.val rfl (run_assign (v := B false) rfl) ?_
  refine RL.nil ?_
  refine CW.seq ?_
  refine CW.seq ?_
  refine CW.region ?_
  refine RL.val rfl (run_assign (v := I 0) rfl) ?_
  refine RL.nil ?_
  refine CW.block ?_
  refine CW.loop (G := (Int)) (fun (u : Int) s' w' => (Fr [6, 7, 8, 9, 10, 11, 12, 13, 14, 15, 16, 17, 18, 19, 20, 21, 22, 23, 24, 25, 26, 27, 28, 29, 30, 31, 32, 33, 34, 35, 36, 37, 38, 39, 40, 41, 42, 43, 44, 45, 46, 47, 48, 49, 50, 51] _ s') ∧ (Hp w w' _) ∧ (s' 8 = I u) ∧ (0 ≤ u) ∧ (u ≤ pts r) ∧ (∀ x : Int, 0 ≤ x → x < u → nearP (aboveR r) i j x = false)) (fun (u : Int) => (pts r - u).toNat) (0) ⟨Fr.refl _ _, hH2, rfl, (by omega), (by omega), fun x a b => absurd b (by omega)⟩ ?_
  rintro u sg4 w4 ⟨fr4, hH4, e8_4, u0, u1, hg⟩
  have e1_4 : sg4 1 = I _ := (fr4 1 rfl).trans rfl
  have e2_4 : sg4 2 = I _ := (fr4 2 rfl).trans rfl
  have e3_4 : sg4 3 = .pointer (some ⟨_, _, none⟩) := (fr4 3 rfl).trans rfl
  refine CW.seq ?_
  refine CW.seq ?_
  refine CW.region ?_
  refine RL.val rfl (run_move e8_4) ?_
  refine RL.val rfl (run_ldRel Tryd.underlying25 rfl rfl e3_4 (hH4.blk (i := 0) rfl)) ?_
  refine RL.callP rfl hH4 (c_clearanceref03_Points _  _) (run_call1 Tryd.call25 rfl) ?_
  intro w5 hH6
  refine RL.val rfl (run_lss rfl rfl) ?_
  refine RL.nil ?_
  refine CW.condP rfl (fun h8 => ?_) (fun h8 => ?_)
  · refine CW.skip ?_
    refine CW.seq ?_
    refine CW.block ?_
    refine CW.seq ?_
    refine CW.region ?_
    refine RL.val rfl (run_ldRel Tryd.underlying25 rfl rfl e3_4 (hH6.blk (i := 0) rfl)) ?_
    refine RL.val rfl (run_move e1_4) ?_
    refine RL.val rfl (run_move e8_4) ?_
    refine RL.callP rfl hH6 (c_clearanceref03_Has _ _ _  _) (run_call3 Tryd.call26 rfl rfl rfl) ?_
    intro w9 hH10
    refine RL.val rfl (run_move (v := B _) rfl) ?_
    refine RL.split (dj := 21) rfl (fun h12 => ?_) (fun h12 => ?_)
    · refine RL.gT rfl (bR (c := true) h12) ?_
      refine RL.val rfl (run_ldRel Tryd.underlying25 rfl rfl e3_4 (hH10.blk (i := 0) rfl)) ?_
      refine RL.gT rfl (bR (c := true) h12) ?_
      refine RL.val rfl (run_move e2_4) ?_
      refine RL.gT rfl (bR (c := true) h12) ?_
      refine RL.val rfl (run_move e8_4) ?_
      refine RL.gT rfl (bR (c := true) h12) ?_
      refine RL.callP rfl hH10 (c_clearanceref03_Has _ _ _  _) (run_call3 Tryd.call26 rfl rfl rfl) ?_
      intro w13 hH14
      refine RL.val rfl (run_pickT (bR (c := true) h12) (v := B _) rfl) ?_
      refine RL.val rfl (run_assign (v := B _) rfl) ?_
      refine RL.nil ?_
      refine CW.seq ?_
      refine CW.seq ?_
      refine CW.region ?_
      refine RL.val rfl (run_assign (v := I 0) rfl) ?_
      refine RL.nil ?_
      refine CW.block ?_
      refine CW.loop (G := (Int)) (fun (v : Int) s' w' => (Fr [9, 10, 27, 28, 29, 30, 31, 32, 33, 34, 35, 36, 37, 38, 39, 40, 41, 42, 43, 44, 45, 46, 47, 48, 49] _ s') ∧ (Hp w w' _) ∧ (s' 9 = B (goodJ r i j u v)) ∧ (s' 10 = I v) ∧ (0 ≤ v) ∧ (v ≤ pts r)) (fun (v : Int) => (pts r - v).toNat) (0) ⟨Fr.refl _ _, hH14, (congrArg B (by simp [goodJ, upto, *])), rfl, (by omega), (by omega)⟩ ?_
      rintro v sg16 w16 ⟨fr16, hH16, e9_16, e10_16, v0, v1⟩
      have e1_16 := (fr16 1 rfl).trans e1_4
      have e2_16 := (fr16 2 rfl).trans e2_4
      have e3_16 := (fr16 3 rfl).trans e3_4
      have e8_16 := (fr16 8 rfl).trans e8_4
      have e11_16 : sg16 11 = I _ := (fr16 11 rfl).trans rfl
      have e12_16 : sg16 12 = .agg _ := (fr16 12 rfl).trans rfl
      have e13_16 : sg16 13 = I _ := (fr16 13 rfl).trans rfl
      have e14_16 : sg16 14 = B _ := (fr16 14 rfl).trans rfl
      have e17_16 : sg16 17 = .agg _ := (fr16 17 rfl).trans rfl
      have e18_16 : sg16 18 = I _ := (fr16 18 rfl).trans rfl
      have e19_16 : sg16 19 = I _ := (fr16 19 rfl).trans rfl
      have e20_16 : sg16 20 = B _ := (fr16 20 rfl).trans rfl
      have e21_16 : sg16 21 = B _ := (fr16 21 rfl).trans rfl
      have e22_16 : sg16 22 = .agg _ := (fr16 22 rfl).trans rfl
      have e23_16 : sg16 23 = I _ := (fr16 23 rfl).trans rfl
      have e24_16 : sg16 24 = I _ := (fr16 24 rfl).trans rfl
      have e25_16 : sg16 25 = B _ := (fr16 25 rfl).trans rfl
      have e26_16 : sg16 26 = B _ := (fr16 26 rfl).trans rfl
      refine CW.seq ?_
      refine CW.seq ?_
      refine CW.region ?_
      refine RL.val rfl (run_move e10_16) ?_
      refine RL.val rfl (run_ldRel Tryd.underlying25 rfl rfl e3_16 (hH16.blk (i := 0) rfl)) ?_
      refine RL.callP rfl hH16 (c_clearanceref03_Points _  _) (run_call1 Tryd.call25 rfl) ?_
      intro w18 hH19
      refine RL.val rfl (run_lss rfl rfl) ?_
      refine RL.nil ?_
      refine CW.condP rfl (fun h21 => ?_) (fun h21 => ?_)
      · refine CW.skip ?_
        refine CW.seq ?_
        refine CW.block ?_
        refine CW.seq ?_
        refine CW.region ?_
        refine RL.val rfl (run_ldRel Tryd.underlying25 rfl rfl e3_16 (hH19.blk (i := 0) rfl)) ?_
        refine RL.val rfl (run_move e1_16) ?_
        refine RL.val rfl (run_move e10_16) ?_
        refine RL.callP rfl hH19 (c_clearanceref03_Has _ _ _  _) (run_call3 Tryd.call26 rfl rfl rfl) ?_
        intro w22 hH23
        refine RL.val rfl (run_move (v := B _) rfl) ?_
        refine RL.split (dj := 37) rfl (fun h25 => ?_) (fun h25 => ?_)
        · refine RL.gT rfl (bR (c := true) h25) ?_
          refine RL.val rfl (run_ldRel Tryd.underlying25 rfl rfl e3_16 (hH23.blk (i := 0) rfl)) ?_
          refine RL.gT rfl (bR (c := true) h25) ?_
          refine RL.val rfl (run_move e2_16) ?_
          refine RL.gT rfl (bR (c := true) h25) ?_
          refine RL.val rfl (run_move e10_16) ?_
          refine RL.gT rfl (bR (c := true) h25) ?_
          refine RL.callP rfl hH23 (c_clearanceref03_Has _ _ _  _) (run_call3 Tryd.call26 rfl rfl rfl) ?_
          intro w26 hH27
          refine RL.val rfl (run_pickT (bR (c := true) h25) (v := B _) rfl) ?_
          refine RL.val rfl (run_move (v := B _) rfl) ?_
          refine RL.split (dj := 43) rfl (fun h29 => ?_) (fun h29 => ?_)
          · refine RL.gT rfl (bR (c := true) h29) ?_
            refine RL.val rfl (run_ldRel Tryd.underlying25 rfl rfl e3_16 (hH27.blk (i := 0) rfl)) ?_
            refine RL.gT rfl (bR (c := true) h29) ?_
            refine RL.val rfl (run_move e8_16) ?_
            refine RL.gT rfl (bR (c := true) h29) ?_
            refine RL.val rfl (run_move e10_16) ?_
            refine RL.gT rfl (bR (c := true) h29) ?_
            refine RL.callP rfl hH27 (c_clearanceref03_Has _ _ _  _) (run_call3 Tryd.call26 rfl rfl rfl) ?_
            intro w30 hH31
            refine RL.gT rfl (bR (c := true) h29) ?_
            refine RL.val rfl (run_not rfl) ?_
            refine RL.val rfl (run_pickT (bR (c := true) h29) (v := B _) rfl) ?_
            refine RL.nil ?_
            refine CW.cond rfl (fun h34 => ?_) (fun h34 => ?_)
            · refine CW.region ?_
              refine RL.val rfl (run_assign (v := B false) rfl) ?_
              refine RL.nil ?_
              refine CW.region ?_
              refine RL.val rfl (run_move e10_16) ?_
              refine RL.val rfl (run_add rfl rfl (by omega)) ?_
              refine RL.val rfl (run_assign (v := I _) rfl) ?_
              refine RL.nil ?_
              refine ⟨v + 1, ?_, ((((((((((((((((((((((((fr16.u rfl).u rfl).u rfl).u rfl).u rfl).u rfl).u rfl).u rfl).u rfl).u rfl).u rfl).u rfl).u rfl).u rfl).u rfl).u rfl).u rfl).u rfl).u rfl).u rfl).u rfl).u rfl).u rfl).u rfl).u rfl, hH31, (congrArg B (by rw [goodJ_next v0]; simp [*])), (congrArg I (by first | rfl | omega)), ?_, ?_⟩
              · ((try dsimp only); omega)
              · omega
              · omega
            · refine CW.skip ?_
              refine CW.region ?_
              refine RL.val rfl (run_move e10_16) ?_
              refine RL.val rfl (run_add rfl rfl (by omega)) ?_
              refine RL.val rfl (run_assign (v := I _) rfl) ?_
              refine RL.nil ?_
              refine ⟨v + 1, ?_, (((((((((((((((((((((((fr16.u rfl).u rfl).u rfl).u rfl).u rfl).u rfl).u rfl).u rfl).u rfl).u rfl).u rfl).u rfl).u rfl).u rfl).u rfl).u rfl).u rfl).u rfl).u rfl).u rfl).u rfl).u rfl).u rfl).u rfl, hH31, (Eq.trans e9_16 (congrArg B (by rw [goodJ_next v0]; simp [*]))), (congrArg I (by first | rfl | omega)), ?_, ?_⟩
              · ((try dsimp only); omega)
              · omega
              · omega
          · refine RL.gF rfl rfl (bR (c := false) h29) rfl ?_
            refine RL.gF rfl rfl (bR (c := false) h29) rfl ?_
            refine RL.gF rfl rfl (bR (c := false) h29) rfl ?_
            refine RL.gF rfl rfl (bR (c := false) h29) rfl ?_
            refine RL.gF rfl rfl (bR (c := false) h29) rfl ?_
            refine RL.val rfl (run_pickF (bR (c := false) h29) (v := B false) rfl) ?_
            refine RL.nil ?_
            refine CW.condF rfl ?_
            refine CW.skip ?_
            refine CW.region ?_
            refine RL.val rfl (run_move e10_16) ?_
            refine RL.val rfl (run_add rfl rfl (by omega)) ?_
            refine RL.val rfl (run_assign (v := I _) rfl) ?_
            refine RL.nil ?_
            refine ⟨v + 1, ?_, (((((((((((((((((((((((fr16.u rfl).u rfl).u rfl).u rfl).u rfl).u rfl).u rfl).u rfl).u rfl).u rfl).u rfl).u rfl).u rfl).u rfl).u rfl).u rfl).u rfl).u rfl).u rfl).u rfl).u rfl).u rfl).u rfl).u rfl, hH27, (Eq.trans e9_16 (congrArg B (by rw [goodJ_next v0]; simp [*]))), (congrArg I (by first | rfl | omega)), ?_, ?_⟩
            · ((try dsimp only); omega)
            · omega
            · omega
        · refine RL.gF rfl rfl (bR (c := false) h25) rfl ?_
          refine RL.gF rfl rfl (bR (c := false) h25) rfl ?_
          refine RL.gF rfl rfl (bR (c := false) h25) rfl ?_
          refine RL.gF rfl rfl (bR (c := false) h25) rfl ?_
          refine RL.val rfl (run_pickF (bR (c := false) h25) (v := B false) rfl) ?_
          refine RL.val rfl (run_move (v := B _) rfl) ?_
          refine RL.gF rfl rfl rfl rfl ?_
          refine RL.gF rfl rfl rfl rfl ?_
          refine RL.gF rfl rfl rfl rfl ?_
          refine RL.gF rfl rfl rfl rfl ?_
          refine RL.gF rfl rfl rfl rfl ?_
          refine RL.val rfl (run_pickF rfl (v := B false) rfl) ?_
          refine RL.nil ?_
          refine CW.condF rfl ?_
          refine CW.skip ?_
          refine CW.region ?_
          refine RL.val rfl (run_move e10_16) ?_
          refine RL.val rfl (run_add rfl rfl (by omega)) ?_
          refine RL.val rfl (run_assign (v := I _) rfl) ?_
          refine RL.nil ?_
          refine ⟨v + 1, ?_, (((((((((((((((((((((((fr16.u rfl).u rfl).u rfl).u rfl).u rfl).u rfl).u rfl).u rfl).u rfl).u rfl).u rfl).u rfl).u rfl).u rfl).u rfl).u rfl).u rfl).u rfl).u rfl).u rfl).u rfl).u rfl).u rfl).u rfl, hH23, (Eq.trans e9_16 (congrArg B (by rw [goodJ_next v0]; simp [*]))), (congrArg I (by first | rfl | omega)), ?_, ?_⟩
          · ((try dsimp only); omega)
          · omega
          · omega
      · refine CW.exit (id := 2) rfl ?_
        refine CW.seq ?_
        refine CW.region ?_
        refine RL.val rfl (run_move e9_16) ?_
        refine RL.nil ?_
        refine CW.cond rfl (fun h35 => ?_) (fun h35 => ?_)
        · refine CW.seq ?_
          refine CW.region ?_
          refine RL.val rfl (run_move e8_16) ?_
          refine RL.val rfl (run_assign (v := I _) rfl) ?_
          refine RL.val rfl (run_assign (v := B true) rfl) ?_
          refine RL.nil ?_
          refine CW.ret ?_
          first | (refine outP2 Tryd.results20 (congrArg I ?_) (congrArg B ?_) hH19.below <;> rw [join_yes u0 ‹_› (show v = pts r by omega) ‹_› hg]) | (refine outP2 Tryd.results20 (congrArg I ?_) (congrArg B ?_) hH19.below <;> rw [join_no ‹_› hg])
        · refine CW.skip ?_
          refine CW.region ?_
          refine RL.val rfl (run_move e8_16) ?_
          refine RL.val rfl (run_add rfl rfl (by omega)) ?_
          refine RL.val rfl (run_assign (v := I _) rfl) ?_
          refine RL.nil ?_
          refine ⟨u + 1, ?_, (((((((((((((((((((((((((fr4.u rfl).u rfl).u rfl).u rfl).u rfl).u rfl).u rfl).u rfl).u rfl).u rfl).u rfl).u rfl).u rfl).u rfl).u rfl).u rfl).t fr16 rfl)).u rfl).u rfl).u rfl).u rfl).u rfl).u rfl).u rfl).u rfl, hH19, (congrArg I (by first | rfl | omega)), ?_, ?_, ?_⟩
          · ((try dsimp only); omega)
          · omega
          · omega
          · exact fun x a b => if e : x = u then e ▸ (by rw [near_join r i j u (show v = pts r by omega)]; assumption) else hg x a (by omega)
    · refine RL.gF rfl rfl (bR (c := false) h12) rfl ?_
      refine RL.gF rfl rfl (bR (c := false) h12) rfl ?_
      refine RL.gF rfl rfl (bR (c := false) h12) rfl ?_
      refine RL.gF rfl rfl (bR (c := false) h12) rfl ?_
      refine RL.val rfl (run_pickF (bR (c := false) h12) (v := B false) rfl) ?_
      refine RL.val rfl (run_assign (v := B _) rfl) ?_
      refine RL.nil ?_
      refine CW.seq ?_
      refine CW.seq ?_
      refine CW.region ?_
      refine RL.val rfl (run_assign (v := I 0) rfl) ?_
      refine RL.nil ?_
      refine CW.block ?_
      refine CW.loop (G := (Int)) (fun (v : Int) s' w' => (Fr [9, 10, 27, 28, 29, 30, 31, 32, 33, 34, 35, 36, 37, 38, 39, 40, 41, 42, 43, 44, 45, 46, 47, 48, 49] _ s') ∧ (Hp w w' _) ∧ (s' 9 = B (goodJ r i j u v)) ∧ (s' 10 = I v) ∧ (0 ≤ v) ∧ (v ≤ pts r)) (fun (v : Int) => (pts r - v).toNat) (0) ⟨Fr.refl _ _, hH10, (congrArg B (by simp [goodJ, upto, *])), rfl, (by omega), (by omega)⟩ ?_
      rintro v sg36 w36 ⟨fr36, hH36, e9_36, e10_36, v0, v1⟩
      have e1_36 := (fr36 1 rfl).trans e1_4
      have e2_36 := (fr36 2 rfl).trans e2_4
      have e3_36 := (fr36 3 rfl).trans e3_4
      have e8_36 := (fr36 8 rfl).trans e8_4
      have e11_36 : sg36 11 = I _ := (fr36 11 rfl).trans rfl
      have e12_36 : sg36 12 = .agg _ := (fr36 12 rfl).trans rfl
      have e13_36 : sg36 13 = I _ := (fr36 13 rfl).trans rfl
      have e14_36 : sg36 14 = B _ := (fr36 14 rfl).trans rfl
      have e17_36 : sg36 17 = .agg _ := (fr36 17 rfl).trans rfl
      have e18_36 : sg36 18 = I _ := (fr36 18 rfl).trans rfl
      have e19_36 : sg36 19 = I _ := (fr36 19 rfl).trans rfl
      have e20_36 : sg36 20 = B _ := (fr36 20 rfl).trans rfl
      have e21_36 : sg36 21 = B _ := (fr36 21 rfl).trans rfl
      have e22_36 := (fr36 22 rfl).trans (by conv => lhs; whnf)
      have e23_36 := (fr36 23 rfl).trans (by conv => lhs; whnf)
      have e24_36 := (fr36 24 rfl).trans (by conv => lhs; whnf)
      have e25_36 := (fr36 25 rfl).trans (by conv => lhs; whnf)
      have e26_36 : sg36 26 = B _ := (fr36 26 rfl).trans rfl
      refine CW.seq ?_
      refine CW.seq ?_
      refine CW.region ?_
      refine RL.val rfl (run_move e10_36) ?_
      refine RL.val rfl (run_ldRel Tryd.underlying25 rfl rfl e3_36 (hH36.blk (i := 0) rfl)) ?_
      refine RL.callP rfl hH36 (c_clearanceref03_Points _  _) (run_call1 Tryd.call25 rfl) ?_
      intro w38 hH39
      refine RL.val rfl (run_lss rfl rfl) ?_
      refine RL.nil ?_
      refine CW.condP rfl (fun h41 => ?_) (fun h41 => ?_)
      · refine CW.skip ?_
        refine CW.seq ?_
        refine CW.block ?_
        refine CW.seq ?_
        refine CW.region ?_
        refine RL.val rfl (run_ldRel Tryd.underlying25 rfl rfl e3_36 (hH39.blk (i := 0) rfl)) ?_
        refine RL.val rfl (run_move e1_36) ?_
        refine RL.val rfl (run_move e10_36) ?_
        refine RL.callP rfl hH39 (c_clearanceref03_Has _ _ _  _) (run_call3 Tryd.call26 rfl rfl rfl) ?_
        intro w42 hH43
        refine RL.val rfl (run_move (v := B _) rfl) ?_
        refine RL.split (dj := 37) rfl (fun h45 => ?_) (fun h45 => ?_)
        · refine RL.gT rfl (bR (c := true) h45) ?_
          refine RL.val rfl (run_ldRel Tryd.underlying25 rfl rfl e3_36 (hH43.blk (i := 0) rfl)) ?_
          refine RL.gT rfl (bR (c := true) h45) ?_
          refine RL.val rfl (run_move e2_36) ?_
          refine RL.gT rfl (bR (c := true) h45) ?_
          refine RL.val rfl (run_move e10_36) ?_
          refine RL.gT rfl (bR (c := true) h45) ?_
          refine RL.callP rfl hH43 (c_clearanceref03_Has _ _ _  _) (run_call3 Tryd.call26 rfl rfl rfl) ?_
          intro w46 hH47
          refine RL.val rfl (run_pickT (bR (c := true) h45) (v := B _) rfl) ?_
          refine RL.val rfl (run_move (v := B _) rfl) ?_
          refine RL.split (dj := 43) rfl (fun h49 => ?_) (fun h49 => ?_)
          · refine RL.gT rfl (bR (c := true) h49) ?_
            refine RL.val rfl (run_ldRel Tryd.underlying25 rfl rfl e3_36 (hH47.blk (i := 0) rfl)) ?_
            refine RL.gT rfl (bR (c := true) h49) ?_
            refine RL.val rfl (run_move e8_36) ?_
            refine RL.gT rfl (bR (c := true) h49) ?_
            refine RL.val rfl (run_move e10_36) ?_
            refine RL.gT rfl (bR (c := true) h49) ?_
            refine RL.callP rfl hH47 (c_clearanceref03_Has _ _ _  _) (run_call3 Tryd.call26 rfl rfl rfl) ?_
            intro w50 hH51
            refine RL.gT rfl (bR (c := true) h49) ?_
            refine RL.val rfl (run_not rfl) ?_
            refine RL.val rfl (run_pickT (bR (c := true) h49) (v := B _) rfl) ?_
            refine RL.nil ?_
            refine CW.cond rfl (fun h54 => ?_) (fun h54 => ?_)
            · refine CW.region ?_
              refine RL.val rfl (run_assign (v := B false) rfl) ?_
              refine RL.nil ?_
              refine CW.region ?_
              refine RL.val rfl (run_move e10_36) ?_
              refine RL.val rfl (run_add rfl rfl (by omega)) ?_
              refine RL.val rfl (run_assign (v := I _) rfl) ?_
              refine RL.nil ?_
              refine ⟨v + 1, ?_, ((((((((((((((((((((((((fr36.u rfl).u rfl).u rfl).u rfl).u rfl).u rfl).u rfl).u rfl).u rfl).u rfl).u rfl).u rfl).u rfl).u rfl).u rfl).u rfl).u rfl).u rfl).u rfl).u rfl).u rfl).u rfl).u rfl).u rfl).u rfl, hH51, (congrArg B (by rw [goodJ_next v0]; simp [*])), (congrArg I (by first | rfl | omega)), ?_, ?_⟩
              · ((try dsimp only); omega)
              · omega
              · omega
            · refine CW.skip ?_
              refine CW.region ?_
              refine RL.val rfl (run_move e10_36) ?_
              refine RL.val rfl (run_add rfl rfl (by omega)) ?_
              refine RL.val rfl (run_assign (v := I _) rfl) ?_
              refine RL.nil ?_
              refine ⟨v + 1, ?_, (((((((((((((((((((((((fr36.u rfl).u rfl).u rfl).u rfl).u rfl).u rfl).u rfl).u rfl).u rfl).u rfl).u rfl).u rfl).u rfl).u rfl).u rfl).u rfl).u rfl).u rfl).u rfl).u rfl).u rfl).u rfl).u rfl).u rfl, hH51, (Eq.trans e9_36 (congrArg B (by rw [goodJ_next v0]; simp [*]))), (congrArg I (by first | rfl | omega)), ?_, ?_⟩
              · ((try dsimp only); omega)
              · omega
              · omega
          · refine RL.gF rfl rfl (bR (c := false) h49) rfl ?_
            refine RL.gF rfl rfl (bR (c := false) h49) rfl ?_
            refine RL.gF rfl rfl (bR (c := false) h49) rfl ?_
            refine RL.gF rfl rfl (bR (c := false) h49) rfl ?_
            refine RL.gF rfl rfl (bR (c := false) h49) rfl ?_
            refine RL.val rfl (run_pickF (bR (c := false) h49) (v := B false) rfl) ?_
            refine RL.nil ?_
            refine CW.condF rfl ?_
            refine CW.skip ?_
            refine CW.region ?_
            refine RL.val rfl (run_move e10_36) ?_
            refine RL.val rfl (run_add rfl rfl (by omega)) ?_
            refine RL.val rfl (run_assign (v := I _) rfl) ?_
            refine RL.nil ?_
            refine ⟨v + 1, ?_, (((((((((((((((((((((((fr36.u rfl).u rfl).u rfl).u rfl).u rfl).u rfl).u rfl).u rfl).u rfl).u rfl).u rfl).u rfl).u rfl).u rfl).u rfl).u rfl).u rfl).u rfl).u rfl).u rfl).u rfl).u rfl).u rfl).u rfl, hH47, (Eq.trans e9_36 (congrArg B (by rw [goodJ_next v0]; simp [*]))), (congrArg I (by first | rfl | omega)), ?_, ?_⟩
            · ((try dsimp only); omega)
            · omega
            · omega
        · refine RL.gF rfl rfl (bR (c := false) h45) rfl ?_
          refine RL.gF rfl rfl (bR (c := false) h45) rfl ?_
          refine RL.gF rfl rfl (bR (c := false) h45) rfl ?_
          refine RL.gF rfl rfl (bR (c := false) h45) rfl ?_
          refine RL.val rfl (run_pickF (bR (c := false) h45) (v := B false) rfl) ?_
          refine RL.val rfl (run_move (v := B _) rfl) ?_
          refine RL.gF rfl rfl rfl rfl ?_
          refine RL.gF rfl rfl rfl rfl ?_
          refine RL.gF rfl rfl rfl rfl ?_
          refine RL.gF rfl rfl rfl rfl ?_
          refine RL.gF rfl rfl rfl rfl ?_
          refine RL.val rfl (run_pickF rfl (v := B false) rfl) ?_
          refine RL.nil ?_
          refine CW.condF rfl ?_
          refine CW.skip ?_
          refine CW.region ?_
          refine RL.val rfl (run_move e10_36) ?_
          refine RL.val rfl (run_add rfl rfl (by omega)) ?_
          refine RL.val rfl (run_assign (v := I _) rfl) ?_
          refine RL.nil ?_
          refine ⟨v + 1, ?_, (((((((((((((((((((((((fr36.u rfl).u rfl).u rfl).u rfl).u rfl).u rfl).u rfl).u rfl).u rfl).u rfl).u rfl).u rfl).u rfl).u rfl).u rfl).u rfl).u rfl).u rfl).u rfl).u rfl).u rfl).u rfl).u rfl).u rfl, hH43, (Eq.trans e9_36 (congrArg B (by rw [goodJ_next v0]; simp [*]))), (congrArg I (by first | rfl | omega)), ?_, ?_⟩
          · ((try dsimp only); omega)
          · omega
          · omega
      · refine CW.exit (id := 2) rfl ?_
        refine CW.seq ?_
        refine CW.region ?_
        refine RL.val rfl (run_move e9_36) ?_
        refine RL.nil ?_
        refine CW.cond rfl (fun h55 => ?_) (fun h55 => ?_)
        · refine CW.seq ?_
          refine CW.region ?_
          refine RL.val rfl (run_move e8_36) ?_
          refine RL.val rfl (run_assign (v := I _) rfl) ?_
          refine RL.val rfl (run_assign (v := B true) rfl) ?_
          refine RL.nil ?_
          refine CW.ret ?_
          first | (refine outP2 Tryd.results20 (congrArg I ?_) (congrArg B ?_) hH39.below <;> rw [join_yes u0 ‹_› (show v = pts r by omega) ‹_› hg]) | (refine outP2 Tryd.results20 (congrArg I ?_) (congrArg B ?_) hH39.below <;> rw [join_no ‹_› hg])
        · refine CW.skip ?_
          refine CW.region ?_
          refine RL.val rfl (run_move e8_36) ?_
          refine RL.val rfl (run_add rfl rfl (by omega)) ?_
          refine RL.val rfl (run_assign (v := I _) rfl) ?_
          refine RL.nil ?_
          refine ⟨u + 1, ?_, (((((((((((((((((((((((((fr4.u rfl).u rfl).u rfl).u rfl).u rfl).u rfl).u rfl).u rfl).u rfl).u rfl).u rfl).u rfl).u rfl).u rfl).u rfl).u rfl).t fr36 rfl)).u rfl).u rfl).u rfl).u rfl).u rfl).u rfl).u rfl).u rfl, hH39, (congrArg I (by first | rfl | omega)), ?_, ?_, ?_⟩
          · ((try dsimp only); omega)
          · omega
          · omega
          · exact fun x a b => if e : x = u then e ▸ (by rw [near_join r i j u (show v = pts r by omega)]; assumption) else hg x a (by omega)
  · refine CW.exit (id := 0) rfl ?_
    refine CW.seq ?_
    refine CW.region ?_
    refine RL.val rfl (run_assign (v := I 0) rfl) ?_
    refine RL.val rfl (run_assign (v := B false) rfl) ?_
    refine RL.nil ?_
    refine CW.ret ?_
    first | (refine outP2 Tryd.results20 (congrArg I ?_) (congrArg B ?_) hH6.below <;> rw [join_yes u0 ‹_› (show v = pts r by omega) ‹_› hg]) | (refine outP2 Tryd.results20 (congrArg I ?_) (congrArg B ?_) hH6.below <;> rw [join_no ‹_› hg])

theorem c_clearanceref06_Meet (r : Rl) (i j : Int) (w : World) : Calls Tryd.prog 22 #[.agg (relC r), I i, I j] w (Pure (.tuple #[I (meetV r i j).1, B (meetV r i j).2]) w) := by
  have hp := pts_bd r
  refine enter Tryd.func22 rfl Tryd.ntmps22 rfl ?_
  have hH := Hp.start w
  refine CW.seq ?_
  refine CW.region ?_
  refine RL.new rfl hH (f := fun b => (.pointer (some ⟨b, 0, none⟩))) (run_box (v := .agg _) rfl) ?_
  intro b3 w1 hH2
  refine RL.val rfl (run_assign (v := I 0) rfl) ?_
  refine RL.val rfl (run_assign (v := B false) rfl) ?_
  refine RL.nil ?_
  refine CW.seq ?_
  refine CW.seq ?_
  refine CW.region ?_
  refine RL.val rfl (run_assign (v := I 0) rfl) ?_
  refine RL.nil ?_
  refine CW.block ?_
  refine CW.loop (G := (Int)) (fun (u : Int) s' w' => (Fr [6, 7, 8, 9, 10, 11, 12, 13, 14, 15, 16, 17, 18, 19, 20, 21, 22, 23, 24, 25, 26, 27, 28, 29, 30, 31, 32, 33, 34, 35, 36, 37, 38, 39, 40, 41, 42, 43, 44, 45, 46, 47, 48, 49, 50, 51] _ s') ∧ (Hp w w' _) ∧ (s' 8 = I u) ∧ (0 ≤ u) ∧ (u ≤ pts r) ∧ (∀ x : Int, 0 ≤ x → x < u → nearP (belowR r) i j x = false)) (fun (u : Int) => (pts r - u).toNat) (0) ⟨Fr.refl _ _, hH2, rfl, (by omega), (by omega), fun x a b => absurd b (by omega)⟩ ?_
  rintro u sg4 w4 ⟨fr4, hH4, e8_4, u0, u1, hg⟩
  have e1_4 : sg4 1 = I _ := (fr4 1 rfl).trans rfl
  have e2_4 : sg4 2 = I _ := (fr4 2 rfl).trans rfl
  have e3_4 : sg4 3 = .pointer (some ⟨_, _, none⟩) := (fr4 3 rfl).trans rfl
  refine CW.seq ?_
  refine CW.seq ?_
  refine CW.region ?_
  refine RL.val rfl (run_move e8_4) ?_
  refine RL.val rfl (run_ldRel Tryd.underlying25 rfl rfl e3_4 (hH4.blk (i := 0) rfl)) ?_
  refine RL.callP rfl hH4 (c_clearanceref03_Points _  _) (run_call1 Tryd.call25 rfl) ?_
  intro w5 hH6
  refine RL.val rfl (run_lss rfl rfl) ?_
  refine RL.nil ?_
  refine CW.condP rfl (fun h8 => ?_) (fun h8 => ?_)
  · refine CW.skip ?_
    refine CW.seq ?_
    refine CW.block ?_
    refine CW.seq ?_
    refine CW.region ?_
    refine RL.val rfl (run_ldRel Tryd.underlying25 rfl rfl e3_4 (hH6.blk (i := 0) rfl)) ?_
    refine RL.val rfl (run_move e8_4) ?_
    refine RL.val rfl (run_move e1_4) ?_
    refine RL.callP rfl hH6 (c_clearanceref03_Has _ _ _  _) (run_call3 Tryd.call26 rfl rfl rfl) ?_
    intro w9 hH10
    refine RL.val rfl (run_move (v := B _) rfl) ?_
    refine RL.split (dj := 21) rfl (fun h12 => ?_) (fun h12 => ?_)
    · refine RL.gT rfl (bR (c := true) h12) ?_
      refine RL.val rfl (run_ldRel Tryd.underlying25 rfl rfl e3_4 (hH10.blk (i := 0) rfl)) ?_
      refine RL.gT rfl (bR (c := true) h12) ?_
      refine RL.val rfl (run_move e8_4) ?_
      refine RL.gT rfl (bR (c := true) h12) ?_
      refine RL.val rfl (run_move e2_4) ?_
      refine RL.gT rfl (bR (c := true) h12) ?_
      refine RL.callP rfl hH10 (c_clearanceref03_Has _ _ _  _) (run_call3 Tryd.call26 rfl rfl rfl) ?_
      intro w13 hH14
      refine RL.val rfl (run_pickT (bR (c := true) h12) (v := B _) rfl) ?_
      refine RL.val rfl (run_assign (v := B _) rfl) ?_
      refine RL.nil ?_
      refine CW.seq ?_
      refine CW.seq ?_
      refine CW.region ?_
      refine RL.val rfl (run_assign (v := I 0) rfl) ?_
      refine RL.nil ?_
      refine CW.block ?_
      refine CW.loop (G := (Int)) (fun (v : Int) s' w' => (Fr [9, 10, 27, 28, 29, 30, 31, 32, 33, 34, 35, 36, 37, 38, 39, 40, 41, 42, 43, 44, 45, 46, 47, 48, 49] _ s') ∧ (Hp w w' _) ∧ (s' 9 = B (goodM r i j u v)) ∧ (s' 10 = I v) ∧ (0 ≤ v) ∧ (v ≤ pts r)) (fun (v : Int) => (pts r - v).toNat) (0) ⟨Fr.refl _ _, hH14, (congrArg B (by simp [goodM, upto, *])), rfl, (by omega), (by omega)⟩ ?_
      rintro v sg16 w16 ⟨fr16, hH16, e9_16, e10_16, v0, v1⟩
      have e1_16 := (fr16 1 rfl).trans e1_4
      have e2_16 := (fr16 2 rfl).trans e2_4
      have e3_16 := (fr16 3 rfl).trans e3_4
      have e8_16 := (fr16 8 rfl).trans e8_4
      have e11_16 : sg16 11 = I _ := (fr16 11 rfl).trans rfl
      have e12_16 : sg16 12 = .agg _ := (fr16 12 rfl).trans rfl
      have e13_16 : sg16 13 = I _ := (fr16 13 rfl).trans rfl
      have e14_16 : sg16 14 = B _ := (fr16 14 rfl).trans rfl
      have e17_16 : sg16 17 = .agg _ := (fr16 17 rfl).trans rfl
      have e18_16 : sg16 18 = I _ := (fr16 18 rfl).trans rfl
      have e19_16 : sg16 19 = I _ := (fr16 19 rfl).trans rfl
      have e20_16 : sg16 20 = B _ := (fr16 20 rfl).trans rfl
      have e21_16 : sg16 21 = B _ := (fr16 21 rfl).trans rfl
      have e22_16 : sg16 22 = .agg _ := (fr16 22 rfl).trans rfl
      have e23_16 : sg16 23 = I _ := (fr16 23 rfl).trans rfl
      have e24_16 : sg16 24 = I _ := (fr16 24 rfl).trans rfl
      have e25_16 : sg16 25 = B _ := (fr16 25 rfl).trans rfl
      have e26_16 : sg16 26 = B _ := (fr16 26 rfl).trans rfl
      refine CW.seq ?_
      refine CW.seq ?_
      refine CW.region ?_
      refine RL.val rfl (run_move e10_16) ?_
      refine RL.val rfl (run_ldRel Tryd.underlying25 rfl rfl e3_16 (hH16.blk (i := 0) rfl)) ?_
      refine RL.callP rfl hH16 (c_clearanceref03_Points _  _) (run_call1 Tryd.call25 rfl) ?_
      intro w18 hH19
      refine RL.val rfl (run_lss rfl rfl) ?_
      refine RL.nil ?_
      refine CW.condP rfl (fun h21 => ?_) (fun h21 => ?_)
      · refine CW.skip ?_
        refine CW.seq ?_
        refine CW.block ?_
        refine CW.seq ?_
        refine CW.region ?_
        refine RL.val rfl (run_ldRel Tryd.underlying25 rfl rfl e3_16 (hH19.blk (i := 0) rfl)) ?_
        refine RL.val rfl (run_move e10_16) ?_
        refine RL.val rfl (run_move e1_16) ?_
        refine RL.callP rfl hH19 (c_clearanceref03_Has _ _ _  _) (run_call3 Tryd.call26 rfl rfl rfl) ?_
        intro w22 hH23
        refine RL.val rfl (run_move (v := B _) rfl) ?_
        refine RL.split (dj := 37) rfl (fun h25 => ?_) (fun h25 => ?_)
        · refine RL.gT rfl (bR (c := true) h25) ?_
          refine RL.val rfl (run_ldRel Tryd.underlying25 rfl rfl e3_16 (hH23.blk (i := 0) rfl)) ?_
          refine RL.gT rfl (bR (c := true) h25) ?_
          refine RL.val rfl (run_move e10_16) ?_
          refine RL.gT rfl (bR (c := true) h25) ?_
          refine RL.val rfl (run_move e2_16) ?_
          refine RL.gT rfl (bR (c := true) h25) ?_
          refine RL.callP rfl hH23 (c_clearanceref03_Has _ _ _  _) (run_call3 Tryd.call26 rfl rfl rfl) ?_
          intro w26 hH27
          refine RL.val rfl (run_pickT (bR (c := true) h25) (v := B _) rfl) ?_
          refine RL.val rfl (run_move (v := B _) rfl) ?_
          refine RL.split (dj := 43) rfl (fun h29 => ?_) (fun h29 => ?_)
          · refine RL.gT rfl (bR (c := true) h29) ?_
            refine RL.val rfl (run_ldRel Tryd.underlying25 rfl rfl e3_16 (hH27.blk (i := 0) rfl)) ?_
            refine RL.gT rfl (bR (c := true) h29) ?_
            refine RL.val rfl (run_move e10_16) ?_
            refine RL.gT rfl (bR (c := true) h29) ?_
            refine RL.val rfl (run_move e8_16) ?_
            refine RL.gT rfl (bR (c := true) h29) ?_
            refine RL.callP rfl hH27 (c_clearanceref03_Has _ _ _  _) (run_call3 Tryd.call26 rfl rfl rfl) ?_
            intro w30 hH31
            refine RL.gT rfl (bR (c := true) h29) ?_
            refine RL.val rfl (run_not rfl) ?_
            refine RL.val rfl (run_pickT (bR (c := true) h29) (v := B _) rfl) ?_
            refine RL.nil ?_
            refine CW.cond rfl (fun h34 => ?_) (fun h34 => ?_)
            · refine CW.region ?_
              refine RL.val rfl (run_assign (v := B false) rfl) ?_
              refine RL.nil ?_
              refine CW.region ?_
              refine RL.val rfl (run_move e10_16) ?_
              refine RL.val rfl (run_add rfl rfl (by omega)) ?_
              refine RL.val rfl (run_assign (v := I _) rfl) ?_
              refine RL.nil ?_
              refine ⟨v + 1, ?_, ((((((((((((((((((((((((fr16.u rfl).u rfl).u rfl).u rfl).u rfl).u rfl).u rfl).u rfl).u rfl).u rfl).u rfl).u rfl).u rfl).u rfl).u rfl).u rfl).u rfl).u rfl).u rfl).u rfl).u rfl).u rfl).u rfl).u rfl).u rfl, hH31, (congrArg B (by rw [goodM_next v0]; simp [*])), (congrArg I (by first | rfl | omega)), ?_, ?_⟩
              · ((try dsimp only); omega)
              · omega
              · omega
            · refine CW.skip ?_
              refine CW.region ?_
              refine RL.val rfl (run_move e10_16) ?_
              refine RL.val rfl (run_add rfl rfl (by omega)) ?_
              refine RL.val rfl (run_assign (v := I _) rfl) ?_
              refine RL.nil ?_
              refine ⟨v + 1, ?_, (((((((((((((((((((((((fr16.u rfl).u rfl).u rfl).u rfl).u rfl).u rfl).u rfl).u rfl).u rfl).u rfl).u rfl).u rfl).u rfl).u rfl).u rfl).u rfl).u rfl).u rfl).u rfl).u rfl).u rfl).u rfl).u rfl).u rfl, hH31, (Eq.trans e9_16 (congrArg B (by rw [goodM_next v0]; simp [*]))), (congrArg I (by first | rfl | omega)), ?_, ?_⟩
              · ((try dsimp only); omega)
              · omega
              · omega
          · refine RL.gF rfl rfl (bR (c := false) h29) rfl ?_
            refine RL.gF rfl rfl (bR (c := false) h29) rfl ?_
            refine RL.gF rfl rfl (bR (c := false) h29) rfl ?_
            refine RL.gF rfl rfl (bR (c := false) h29) rfl ?_
            refine RL.gF rfl rfl (bR (c := false) h29) rfl ?_
            refine RL.val rfl (run_pickF (bR (c := false) h29) (v := B false) rfl) ?_
            refine RL.nil ?_
            refine CW.condF rfl ?_
            refine CW.skip ?_
            refine CW.region ?_
            refine RL.val rfl (run_move e10_16) ?_
            refine RL.val rfl (run_add rfl rfl (by omega)) ?_
            refine RL.val rfl (run_assign (v := I _) rfl) ?_
            refine RL.nil ?_
            refine ⟨v + 1, ?_, (((((((((((((((((((((((fr16.u rfl).u rfl).u rfl).u rfl).u rfl).u rfl).u rfl).u rfl).u rfl).u rfl).u rfl).u rfl).u rfl).u rfl).u rfl).u rfl).u rfl).u rfl).u rfl).u rfl).u rfl).u rfl).u rfl).u rfl, hH27, (Eq.trans e9_16 (congrArg B (by rw [goodM_next v0]; simp [*]))), (congrArg I (by first | rfl | omega)), ?_, ?_⟩
            · ((try dsimp only); omega)
            · omega
            · omega
        · refine RL.gF rfl rfl (bR (c := false) h25) rfl ?_
          refine RL.gF rfl rfl (bR (c := false) h25) rfl ?_
          refine RL.gF rfl rfl (bR (c := false) h25) rfl ?_
          refine RL.gF rfl rfl (bR (c := false) h25) rfl ?_
          refine RL.val rfl (run_pickF (bR (c := false) h25) (v := B false) rfl) ?_
          refine RL.val rfl (run_move (v := B _) rfl) ?_
          refine RL.gF rfl rfl rfl rfl ?_
          refine RL.gF rfl rfl rfl rfl ?_
          refine RL.gF rfl rfl rfl rfl ?_
          refine RL.gF rfl rfl rfl rfl ?_
          refine RL.gF rfl rfl rfl rfl ?_
          refine RL.val rfl (run_pickF rfl (v := B false) rfl) ?_
          refine RL.nil ?_
          refine CW.condF rfl ?_
          refine CW.skip ?_
          refine CW.region ?_
          refine RL.val rfl (run_move e10_16) ?_
          refine RL.val rfl (run_add rfl rfl (by omega)) ?_
          refine RL.val rfl (run_assign (v := I _) rfl) ?_
          refine RL.nil ?_
          refine ⟨v + 1, ?_, (((((((((((((((((((((((fr16.u rfl).u rfl).u rfl).u rfl).u rfl).u rfl).u rfl).u rfl).u rfl).u rfl).u rfl).u rfl).u rfl).u rfl).u rfl).u rfl).u rfl).u rfl).u rfl).u rfl).u rfl).u rfl).u rfl).u rfl, hH23, (Eq.trans e9_16 (congrArg B (by rw [goodM_next v0]; simp [*]))), (congrArg I (by first | rfl | omega)), ?_, ?_⟩
          · ((try dsimp only); omega)
          · omega
          · omega
      · refine CW.exit (id := 2) rfl ?_
        refine CW.seq ?_
        refine CW.region ?_
        refine RL.val rfl (run_move e9_16) ?_
        refine RL.nil ?_
        refine CW.cond rfl (fun h35 => ?_) (fun h35 => ?_)
        · refine CW.seq ?_
          refine CW.region ?_
          refine RL.val rfl (run_move e8_16) ?_
          refine RL.val rfl (run_assign (v := I _) rfl) ?_
          refine RL.val rfl (run_assign (v := B true) rfl) ?_
          refine RL.nil ?_
          refine CW.ret ?_
          first | (refine outP2 Tryd.results22 (congrArg I ?_) (congrArg B ?_) hH19.below <;> rw [meet_yes u0 ‹_› (show v = pts r by omega) ‹_› hg]) | (refine outP2 Tryd.results22 (congrArg I ?_) (congrArg B ?_) hH19.below <;> rw [meet_no ‹_› hg])
        · refine CW.skip ?_
          refine CW.region ?_
          refine RL.val rfl (run_move e8_16) ?_
          refine RL.val rfl (run_add rfl rfl (by omega)) ?_
          refine RL.val rfl (run_assign (v := I _) rfl) ?_
          refine RL.nil ?_
          refine ⟨u + 1, ?_, (((((((((((((((((((((((((fr4.u rfl).u rfl).u rfl).u rfl).u rfl).u rfl).u rfl).u rfl).u rfl).u rfl).u rfl).u rfl).u rfl).u rfl).u rfl).u rfl).t fr16 rfl)).u rfl).u rfl).u rfl).u rfl).u rfl).u rfl).u rfl).u rfl, hH19, (congrArg I (by first | rfl | omega)), ?_, ?_, ?_⟩
          · ((try dsimp only); omega)
          · omega
          · omega
          · exact fun x a b => if e : x = u then e ▸ (by rw [near_meet r i j u (show v = pts r by omega)]; assumption) else hg x a (by omega)
    · refine RL.gF rfl rfl (bR (c := false) h12) rfl ?_
      refine RL.gF rfl rfl (bR (c := false) h12) rfl ?_
      refine RL.gF rfl rfl (bR (c := false) h12) rfl ?_
      refine RL.gF rfl rfl (bR (c := false) h12) rfl ?_
      refine RL.val rfl (run_pickF (bR (c := false) h12) (v := B false) rfl) ?_
      refine RL.val rfl (run_assign (v := B _) rfl) ?_
      refine RL.nil ?_
      refine CW.seq ?_
      refine CW.seq ?_
      refine CW.region ?_
      refine RL.val rfl (run_assign (v := I 0) rfl) ?_
      refine RL.nil ?_
      refine CW.block ?_
      refine CW.loop (G := (Int)) (fun (v : Int) s' w' => (Fr [9, 10, 27, 28, 29, 30, 31, 32, 33, 34, 35, 36, 37, 38, 39, 40, 41, 42, 43, 44, 45, 46, 47, 48, 49] _ s') ∧ (Hp w w' _) ∧ (s' 9 = B (goodM r i j u v)) ∧ (s' 10 = I v) ∧ (0 ≤ v) ∧ (v ≤ pts r)) (fun (v : Int) => (pts r - v).toNat) (0) ⟨Fr.refl _ _, hH10, (congrArg B (by simp [goodM, upto, *])), rfl, (by omega), (by omega)⟩ ?_
      rintro v sg36 w36 ⟨fr36, hH36, e9_36, e10_36, v0, v1⟩
      have e1_36 := (fr36 1 rfl).trans e1_4
      have e2_36 := (fr36 2 rfl).trans e2_4
      have e3_36 := (fr36 3 rfl).trans e3_4
      have e8_36 := (fr36 8 rfl).trans e8_4
      have e11_36 : sg36 11 = I _ := (fr36 11 rfl).trans rfl
      have e12_36 : sg36 12 = .agg _ := (fr36 12 rfl).trans rfl
      have e13_36 : sg36 13 = I _ := (fr36 13 rfl).trans rfl
      have e14_36 : sg36 14 = B _ := (fr36 14 rfl).trans rfl
      have e17_36 : sg36 17 = .agg _ := (fr36 17 rfl).trans rfl
      have e18_36 : sg36 18 = I _ := (fr36 18 rfl).trans rfl
      have e19_36 : sg36 19 = I _ := (fr36 19 rfl).trans rfl
      have e20_36 : sg36 20 = B _ := (fr36 20 rfl).trans rfl
      have e21_36 : sg36 21 = B _ := (fr36 21 rfl).trans rfl
      have e22_36 := (fr36 22 rfl).trans (by conv => lhs; whnf)
      have e23_36 := (fr36 23 rfl).trans (by conv => lhs; whnf)
      have e24_36 := (fr36 24 rfl).trans (by conv => lhs; whnf)
      have e25_36 := (fr36 25 rfl).trans (by conv => lhs; whnf)
      have e26_36 : sg36 26 = B _ := (fr36 26 rfl).trans rfl
      refine CW.seq ?_
      refine CW.seq ?_
      refine CW.region ?_
      refine RL.val rfl (run_move e10_36) ?_
      refine RL.val rfl (run_ldRel Tryd.underlying25 rfl rfl e3_36 (hH36.blk (i := 0) rfl)) ?_
      refine RL.callP rfl hH36 (c_clearanceref03_Points _  _) (run_call1 Tryd.call25 rfl) ?_
      intro w38 hH39
      refine RL.val rfl (run_lss rfl rfl) ?_
      refine RL.nil ?_
      refine CW.condP rfl (fun h41 => ?_) (fun h41 => ?_)
      · refine CW.skip ?_
        refine CW.seq ?_
        refine CW.block ?_
        refine CW.seq ?_
        refine CW.region ?_
        refine RL.val rfl (run_ldRel Tryd.underlying25 rfl rfl e3_36 (hH39.blk (i := 0) rfl)) ?_
        refine RL.val rfl (run_move e10_36) ?_
        refine RL.val rfl (run_move e1_36) ?_
        refine RL.callP rfl hH39 (c_clearanceref03_Has _ _ _  _) (run_call3 Tryd.call26 rfl rfl rfl) ?_
        intro w42 hH43
        refine RL.val rfl (run_move (v := B _) rfl) ?_
        refine RL.split (dj := 37) rfl (fun h45 => ?_) (fun h45 => ?_)
        · refine RL.gT rfl (bR (c := true) h45) ?_
          refine RL.val rfl (run_ldRel Tryd.underlying25 rfl rfl e3_36 (hH43.blk (i := 0) rfl)) ?_
          refine RL.gT rfl (bR (c := true) h45) ?_
          refine RL.val rfl (run_move e10_36) ?_
          refine RL.gT rfl (bR (c := true) h45) ?_
          refine RL.val rfl (run_move e2_36) ?_
          refine RL.gT rfl (bR (c := true) h45) ?_
          refine RL.callP rfl hH43 (c_clearanceref03_Has _ _ _  _) (run_call3 Tryd.call26 rfl rfl rfl) ?_
          intro w46 hH47
          refine RL.val rfl (run_pickT (bR (c := true) h45) (v := B _) rfl) ?_
          refine RL.val rfl (run_move (v := B _) rfl) ?_
          refine RL.split (dj := 43) rfl (fun h49 => ?_) (fun h49 => ?_)
          · refine RL.gT rfl (bR (c := true) h49) ?_
            refine RL.val rfl (run_ldRel Tryd.underlying25 rfl rfl e3_36 (hH47.blk (i := 0) rfl)) ?_
            refine RL.gT rfl (bR (c := true) h49) ?_
            refine RL.val rfl (run_move e10_36) ?_
            refine RL.gT rfl (bR (c := true) h49) ?_
            refine RL.val rfl (run_move e8_36) ?_
            refine RL.gT rfl (bR (c := true) h49) ?_
            refine RL.callP rfl hH47 (c_clearanceref03_Has _ _ _  _) (run_call3 Tryd.call26 rfl rfl rfl) ?_
            intro w50 hH51
            refine RL.gT rfl (bR (c := true) h49) ?_
            refine RL.val rfl (run_not rfl) ?_
            refine RL.val rfl (run_pickT (bR (c := true) h49) (v := B _) rfl) ?_
            refine RL.nil ?_
            refine CW.cond rfl (fun h54 => ?_) (fun h54 => ?_)
            · refine CW.region ?_
              refine RL.val rfl (run_assign (v := B false) rfl) ?_
              refine RL.nil ?_
              refine CW.region ?_
              refine RL.val rfl (run_move e10_36) ?_
              refine RL.val rfl (run_add rfl rfl (by omega)) ?_
              refine RL.val rfl (run_assign (v := I _) rfl) ?_
              refine RL.nil ?_
              refine ⟨v + 1, ?_, ((((((((((((((((((((((((fr36.u rfl).u rfl).u rfl).u rfl).u rfl).u rfl).u rfl).u rfl).u rfl).u rfl).u rfl).u rfl).u rfl).u rfl).u rfl).u rfl).u rfl).u rfl).u rfl).u rfl).u rfl).u rfl).u rfl).u rfl).u rfl, hH51, (congrArg B (by rw [goodM_next v0]; simp [*])), (congrArg I (by first | rfl | omega)), ?_, ?_⟩
              · ((try dsimp only); omega)
              · omega
              · omega
            · refine CW.skip ?_
              refine CW.region ?_
              refine RL.val rfl (run_move e10_36) ?_
              refine RL.val rfl (run_add rfl rfl (by omega)) ?_
              refine RL.val rfl (run_assign (v := I _) rfl) ?_
              refine RL.nil ?_
              refine ⟨v + 1, ?_, (((((((((((((((((((((((fr36.u rfl).u rfl).u rfl).u rfl).u rfl).u rfl).u rfl).u rfl).u rfl).u rfl).u rfl).u rfl).u rfl).u rfl).u rfl).u rfl).u rfl).u rfl).u rfl).u rfl).u rfl).u rfl).u rfl).u rfl, hH51, (Eq.trans e9_36 (congrArg B (by rw [goodM_next v0]; simp [*]))), (congrArg I (by first | rfl | omega)), ?_, ?_⟩
              · ((try dsimp only); omega)
              · omega
              · omega
          · refine RL.gF rfl rfl (bR (c := false) h49) rfl ?_
            refine RL.gF rfl rfl (bR (c := false) h49) rfl ?_
            refine RL.gF rfl rfl (bR (c := false) h49) rfl ?_
            refine RL.gF rfl rfl (bR (c := false) h49) rfl ?_
            refine RL.gF rfl rfl (bR (c := false) h49) rfl ?_
            refine RL.val rfl (run_pickF (bR (c := false) h49) (v := B false) rfl) ?_
            refine RL.nil ?_
            refine CW.condF rfl ?_
            refine CW.skip ?_
            refine CW.region ?_
            refine RL.val rfl (run_move e10_36) ?_
            refine RL.val rfl (run_add rfl rfl (by omega)) ?_
            refine RL.val rfl (run_assign (v := I _) rfl) ?_
            refine RL.nil ?_
            refine ⟨v + 1, ?_, (((((((((((((((((((((((fr36.u rfl).u rfl).u rfl).u rfl).u rfl).u rfl).u rfl).u rfl).u rfl).u rfl).u rfl).u rfl).u rfl).u rfl).u rfl).u rfl).u rfl).u rfl).u rfl).u rfl).u rfl).u rfl).u rfl).u rfl, hH47, (Eq.trans e9_36 (congrArg B (by rw [goodM_next v0]; simp [*]))), (congrArg I (by first | rfl | omega)), ?_, ?_⟩
            · ((try dsimp only); omega)
            · omega
            · omega
        · refine RL.gF rfl rfl (bR (c := false) h45) rfl ?_
          refine RL.gF rfl rfl (bR (c := false) h45) rfl ?_
          refine RL.gF rfl rfl (bR (c := false) h45) rfl ?_
          refine RL.gF rfl rfl (bR (c := false) h45) rfl ?_
          refine RL.val rfl (run_pickF (bR (c := false) h45) (v := B false) rfl) ?_
          refine RL.val rfl (run_move (v := B _) rfl) ?_
          refine RL.gF rfl rfl rfl rfl ?_
          refine RL.gF rfl rfl rfl rfl ?_
          refine RL.gF rfl rfl rfl rfl ?_
          refine RL.gF rfl rfl rfl rfl ?_
          refine RL.gF rfl rfl rfl rfl ?_
          refine RL.val rfl (run_pickF rfl (v := B false) rfl) ?_
          refine RL.nil ?_
          refine CW.condF rfl ?_
          refine CW.skip ?_
          refine CW.region ?_
          refine RL.val rfl (run_move e10_36) ?_
          refine RL.val rfl (run_add rfl rfl (by omega)) ?_
          refine RL.val rfl (run_assign (v := I _) rfl) ?_
          refine RL.nil ?_
          refine ⟨v + 1, ?_, (((((((((((((((((((((((fr36.u rfl).u rfl).u rfl).u rfl).u rfl).u rfl).u rfl).u rfl).u rfl).u rfl).u rfl).u rfl).u rfl).u rfl).u rfl).u rfl).u rfl).u rfl).u rfl).u rfl).u rfl).u rfl).u rfl).u rfl, hH43, (Eq.trans e9_36 (congrArg B (by rw [goodM_next v0]; simp [*]))), (congrArg I (by first | rfl | omega)), ?_, ?_⟩
          · ((try dsimp only); omega)
          · omega
          · omega
      · refine CW.exit (id := 2) rfl ?_
        refine CW.seq ?_
        refine CW.region ?_
        refine RL.val rfl (run_move e9_36) ?_
        refine RL.nil ?_
        refine CW.cond rfl (fun h55 => ?_) (fun h55 => ?_)
        · refine CW.seq ?_
          refine CW.region ?_
          refine RL.val rfl (run_move e8_36) ?_
          refine RL.val rfl (run_assign (v := I _) rfl) ?_
          refine RL.val rfl (run_assign (v := B true) rfl) ?_
          refine RL.nil ?_
          refine CW.ret ?_
          first | (refine outP2 Tryd.results22 (congrArg I ?_) (congrArg B ?_) hH39.below <;> rw [meet_yes u0 ‹_› (show v = pts r by omega) ‹_› hg]) | (refine outP2 Tryd.results22 (congrArg I ?_) (congrArg B ?_) hH39.below <;> rw [meet_no ‹_› hg])
        · refine CW.skip ?_
          refine CW.region ?_
          refine RL.val rfl (run_move e8_36) ?_
          refine RL.val rfl (run_add rfl rfl (by omega)) ?_
          refine RL.val rfl (run_assign (v := I _) rfl) ?_
          refine RL.nil ?_
          refine ⟨u + 1, ?_, (((((((((((((((((((((((((fr4.u rfl).u rfl).u rfl).u rfl).u rfl).u rfl).u rfl).u rfl).u rfl).u rfl).u rfl).u rfl).u rfl).u rfl).u rfl).u rfl).t fr36 rfl)).u rfl).u rfl).u rfl).u rfl).u rfl).u rfl).u rfl).u rfl, hH39, (congrArg I (by first | rfl | omega)), ?_, ?_, ?_⟩
          · ((try dsimp only); omega)
          · omega
          · omega
          · exact fun x a b => if e : x = u then e ▸ (by rw [near_meet r i j u (show v = pts r by omega)]; assumption) else hg x a (by omega)
  · refine CW.exit (id := 0) rfl ?_
    refine CW.seq ?_
    refine CW.region ?_
    refine RL.val rfl (run_assign (v := I 0) rfl) ?_
    refine RL.val rfl (run_assign (v := B false) rfl) ?_
    refine RL.nil ?_
    refine CW.ret ?_
    first | (refine outP2 Tryd.results22 (congrArg I ?_) (congrArg B ?_) hH6.below <;> rw [meet_yes u0 ‹_› (show v = pts r by omega) ‹_› hg]) | (refine outP2 Tryd.results22 (congrArg I ?_) (congrArg B ?_) hH6.below <;> rw [meet_no ‹_› hg])

theorem c_clearanceref06_Lattice (r : Rl) (w : World) : Calls Tryd.prog 48 #[.agg (relC r)] w (Pure (B (latB r)) w) := by
  have hp := pts_bd r
  refine enter Tryd.func48 rfl Tryd.ntmps48 rfl ?_
  have hH := Hp.start w
  refine CW.seq ?_
  refine CW.region ?_
  refine RL.new rfl hH (f := fun b => (.pointer (some ⟨b, 0, none⟩))) (run_box (v := .agg _) rfl) ?_
  intro b3 w1 hH2
  refine RL.val rfl (run_assign (v := B false) rfl) ?_
  refine RL.nil ?_
  refine CW.seq ?_
  refine CW.seq ?_
  refine CW.region ?_
  refine RL.val rfl (run_fieldAddr Tryd.underlying25 rfl (off := 0) rfl Tryd.sizeOf3 (by decide) rfl) ?_
  refine RL.val rfl (run_ld Tryd.underlying3 rfl rfl (hH2.cell (i := 0) rfl (relC_N _))) ?_
  refine RL.val rfl (run_lss rfl rfl) ?_
  refine RL.val rfl (run_move (v := B _) rfl) ?_
  refine RL.splitP (dj := 12) rfl (fun h5 => ?_) (fun h5 => ?_)
  · refine RL.gF rfl rfl (bT h5) rfl ?_
    refine RL.gF rfl rfl (bT h5) rfl ?_
    refine RL.gF rfl rfl (bT h5) rfl ?_
    refine RL.val rfl (run_pickT (bT h5) (v := B true) rfl) ?_
    refine RL.val rfl (run_move (v := B _) rfl) ?_
    refine RL.gF rfl rfl rfl rfl ?_
    refine RL.gF rfl rfl rfl rfl ?_
    refine RL.gF rfl rfl rfl rfl ?_
    refine RL.val rfl (run_pickT rfl (v := B true) rfl) ?_
    refine RL.nil ?_
    refine CW.condT rfl ?_
    refine CW.seq ?_
    refine CW.region ?_
    refine RL.val rfl (run_assign (v := B false) rfl) ?_
    refine RL.nil ?_
    refine CW.ret ?_
    refine outP1 Tryd.results48 (congrArg B ?_) hH2.below
    first | exact (lat_no1 (by omega)).symm | exact (lat_no2 (nt ‹_›)).symm | exact (lat_no3 ‹i < r.n› j0 ‹j < i› (by rw [bothB, nt ‹(!(joinV r i j).2) = true›]; rfl)).symm | exact (lat_no3 ‹i < r.n› j0 ‹j < i› (by rw [bothB, nt ‹(!(meetV r i j).2) = true›]; simp)).symm | exact (lat_yes hn ho ‹_› hg).symm
  · refine RL.gT rfl (bF h5) ?_
    refine RL.val rfl (run_fieldAddr Tryd.underlying25 rfl (off := 0) rfl Tryd.sizeOf3 (by decide) rfl) ?_
    refine RL.gT rfl (bF h5) ?_
    refine RL.val rfl (run_ld Tryd.underlying3 rfl rfl (hH2.cell (i := 0) rfl (relC_N _))) ?_
    refine RL.gT rfl (bF h5) ?_
    refine RL.val rfl (run_gtr rfl rfl) ?_
    refine RL.val rfl (run_pickF (bF h5) (v := B _) rfl) ?_
    refine RL.val rfl (run_move (v := B _) rfl) ?_
    refine RL.splitP (dj := 17) rfl (fun h7 => ?_) (fun h7 => ?_)
    · refine RL.gF rfl rfl (bT h7) rfl ?_
      refine RL.gF rfl rfl (bT h7) rfl ?_
      refine RL.gF rfl rfl (bT h7) rfl ?_
      refine RL.val rfl (run_pickT (bT h7) (v := B true) rfl) ?_
      refine RL.nil ?_
      refine CW.condT rfl ?_
      refine CW.seq ?_
      refine CW.region ?_
      refine RL.val rfl (run_assign (v := B false) rfl) ?_
      refine RL.nil ?_
      refine CW.ret ?_
      refine outP1 Tryd.results48 (congrArg B ?_) hH2.below
      first | exact (lat_no1 (by omega)).symm | exact (lat_no2 (nt ‹_›)).symm | exact (lat_no3 ‹i < r.n› j0 ‹j < i› (by rw [bothB, nt ‹(!(joinV r i j).2) = true›]; rfl)).symm | exact (lat_no3 ‹i < r.n› j0 ‹j < i› (by rw [bothB, nt ‹(!(meetV r i j).2) = true›]; simp)).symm | exact (lat_yes hn ho ‹_› hg).symm
    · refine RL.gT rfl (bF h7) ?_
      refine RL.val rfl (run_ldRel Tryd.underlying25 rfl rfl rfl (hH2.blk (i := 0) rfl)) ?_
      refine RL.gT rfl (bF h7) ?_
      refine RL.callP rfl hH2 (c_clearanceref03_Order _  _) (run_call1 Tryd.call75 rfl) ?_
      intro w8 hH9
      refine RL.gT rfl (bF h7) ?_
      refine RL.val rfl (run_not rfl) ?_
      refine RL.val rfl (run_pickF (bF h7) (v := B _) rfl) ?_
      refine RL.nil ?_
      refine CW.cond rfl (fun h12 => ?_) (fun h12 => ?_)
      · refine CW.seq ?_
        refine CW.region ?_
        refine RL.val rfl (run_assign (v := B false) rfl) ?_
        refine RL.nil ?_
        refine CW.ret ?_
        refine outP1 Tryd.results48 (congrArg B ?_) hH9.below
        first | exact (lat_no1 (by omega)).symm | exact (lat_no2 (nt ‹_›)).symm | exact (lat_no3 ‹i < r.n› j0 ‹j < i› (by rw [bothB, nt ‹(!(joinV r i j).2) = true›]; rfl)).symm | exact (lat_no3 ‹i < r.n› j0 ‹j < i› (by rw [bothB, nt ‹(!(meetV r i j).2) = true›]; simp)).symm | exact (lat_yes hn ho ‹_› hg).symm
      · refine CW.skip ?_
        refine CW.seq ?_
        refine CW.seq ?_
        refine CW.region ?_
        refine RL.val rfl (run_assign (v := I 0) rfl) ?_
        refine RL.nil ?_
        refine CW.block ?_
        have hn : 1 ≤ r.n ∧ r.n ≤ 64 := by omega
        have ho : orderB r = true := nf ‹_›
        refine CW.loop (G := (Int)) (fun (i : Int) s' w' => (Fr [2, 3, 4, 5, 6, 7, 8, 22, 23, 24, 25, 26, 27, 28, 29, 30, 31, 32, 33, 34, 35, 36, 37, 38, 39, 40, 41, 42, 43, 44, 45, 46, 47, 48, 49, 50, 51, 52] _ s') ∧ (Hp w w' _) ∧ (s' 3 = I i) ∧ (0 ≤ i) ∧ (i ≤ r.n) ∧ (∀ a b : Int, 0 ≤ b → b < a → a < i → bothB r a b = true)) (fun (i : Int) => (r.n - i).toNat) (0) ⟨Fr.refl _ _, hH9, rfl, (by omega), (by omega), fun a b x y z => absurd z (by omega)⟩ ?_
        rintro i sg13 w13 ⟨fr13, hH13, e3_13, i0, i1, hg⟩
        have e1_13 : sg13 1 = .pointer (some ⟨_, _, none⟩) := (fr13 1 rfl).trans rfl
        refine CW.seq ?_
        refine CW.seq ?_
        refine CW.region ?_
        refine RL.val rfl (run_move e3_13) ?_
        refine RL.val rfl (run_fieldAddr Tryd.underlying25 rfl (off := 0) rfl Tryd.sizeOf3 (by decide) e1_13) ?_
        refine RL.val rfl (run_ld Tryd.underlying3 rfl rfl (hH13.cell (i := 0) rfl (relC_N _))) ?_
        refine RL.val rfl (run_lss rfl rfl) ?_
        refine RL.nil ?_
        refine CW.condP rfl (fun h15 => ?_) (fun h15 => ?_)
        · refine CW.skip ?_
          refine CW.seq ?_
          refine CW.block ?_
          refine CW.seq ?_
          refine CW.region ?_
          refine RL.val rfl (run_assign (v := I 0) rfl) ?_
          refine RL.nil ?_
          refine CW.block ?_
          refine CW.loop (G := (Int)) (fun (j : Int) s' w' => (Fr [2, 4, 5, 6, 7, 8, 28, 29, 30, 31, 32, 33, 34, 35, 36, 37, 38, 39, 40, 41, 42, 43, 44, 45, 46, 47, 48, 49, 50, 51, 52] _ s') ∧ (Hp w w' _) ∧ (s' 4 = I j) ∧ (0 ≤ j) ∧ (j ≤ i) ∧ (∀ b : Int, 0 ≤ b → b < j → bothB r i b = true)) (fun (j : Int) => (i - j).toNat) (0) ⟨Fr.refl _ _, hH13, rfl, (by omega), (by omega), fun b x y => absurd y (by omega)⟩ ?_
          rintro j sg16 w16 ⟨fr16, hH16, e4_16, j0, j1, hh⟩
          have e1_16 := (fr16 1 rfl).trans e1_13
          have e3_16 := (fr16 3 rfl).trans e3_13
          have e22_16 : sg16 22 = I _ := (fr16 22 rfl).trans rfl
          have e23_16 : sg16 23 = .pointer (some ⟨_, _, none⟩) := (fr16 23 rfl).trans rfl
          have e24_16 : sg16 24 = I _ := (fr16 24 rfl).trans rfl
          have e25_16 : sg16 25 = B _ := (fr16 25 rfl).trans rfl
          refine CW.seq ?_
          refine CW.seq ?_
          refine CW.region ?_
          refine RL.val rfl (run_move e4_16) ?_
          refine RL.val rfl (run_move e3_16) ?_
          refine RL.val rfl (run_lss rfl rfl) ?_
          refine RL.nil ?_
          refine CW.condP rfl (fun h18 => ?_) (fun h18 => ?_)
          · refine CW.skip ?_
            refine CW.seq ?_
            refine CW.block ?_
            refine CW.seq ?_
            refine CW.region ?_
            refine RL.val rfl (run_ldRel Tryd.underlying25 rfl rfl e1_16 (hH16.blk (i := 0) rfl)) ?_
            refine RL.val rfl (run_move e3_16) ?_
            refine RL.val rfl (run_move e4_16) ?_
            refine RL.callP rfl hH16 (c_clearanceref06_Join _ _ _  _) (run_call3 Tryd.call20 rfl rfl rfl) ?_
            intro w19 hH20
            refine RL.val rfl (run_move (by conv => lhs; whnf)) ?_
            refine RL.val rfl (run_extract rfl (v := I _) rfl) ?_
            refine RL.val rfl (run_extract rfl (v := B _) rfl) ?_
            refine RL.val rfl (run_assign (v := I _) rfl) ?_
            refine RL.val rfl (run_assign (v := B _) rfl) ?_
            refine RL.nil ?_
            refine CW.seq ?_
            refine CW.region ?_
            refine RL.val rfl (run_ldRel Tryd.underlying25 rfl rfl e1_16 (hH20.blk (i := 0) rfl)) ?_
            refine RL.val rfl (run_move e3_16) ?_
            refine RL.val rfl (run_move e4_16) ?_
            refine RL.callP rfl hH20 (c_clearanceref06_Meet _ _ _  _) (run_call3 Tryd.call22 rfl rfl rfl) ?_
            intro w22 hH23
            refine RL.val rfl (run_move (by conv => lhs; whnf)) ?_
            refine RL.val rfl (run_extract rfl (v := I _) rfl) ?_
            refine RL.val rfl (run_extract rfl (v := B _) rfl) ?_
            refine RL.val rfl (run_assign (v := I _) rfl) ?_
            refine RL.val rfl (run_assign (v := B _) rfl) ?_
            refine RL.nil ?_
            refine CW.seq ?_
            refine CW.region ?_
            refine RL.val rfl (run_move (v := B _) rfl) ?_
            refine RL.val rfl (run_not rfl) ?_
            refine RL.val rfl (run_move (v := B _) rfl) ?_
            refine RL.split (dj := 49) rfl (fun h26 => ?_) (fun h26 => ?_)
            · refine RL.gF rfl rfl (bR (c := true) h26) rfl ?_
              refine RL.gF rfl rfl (bR (c := true) h26) rfl ?_
              refine RL.val rfl (run_pickT (bR (c := true) h26) (v := B true) rfl) ?_
              refine RL.nil ?_
              refine CW.condT rfl ?_
              refine CW.seq ?_
              refine CW.region ?_
              refine RL.val rfl (run_assign (v := B false) rfl) ?_
              refine RL.nil ?_
              refine CW.ret ?_
              refine outP1 Tryd.results48 (congrArg B ?_) hH23.below
              first | exact (lat_no1 (by omega)).symm | exact (lat_no2 (nt ‹_›)).symm | exact (lat_no3 ‹i < r.n› j0 ‹j < i› (by rw [bothB, nt ‹(!(joinV r i j).2) = true›]; rfl)).symm | exact (lat_no3 ‹i < r.n› j0 ‹j < i› (by rw [bothB, nt ‹(!(meetV r i j).2) = true›]; simp)).symm | exact (lat_yes hn ho ‹_› hg).symm
            · refine RL.gT rfl (bR (c := false) h26) ?_
              refine RL.val rfl (run_move (v := B _) rfl) ?_
              refine RL.gT rfl (bR (c := false) h26) ?_
              refine RL.val rfl (run_not rfl) ?_
              refine RL.val rfl (run_pickF (bR (c := false) h26) (v := B _) rfl) ?_
              refine RL.nil ?_
              refine CW.cond rfl (fun h28 => ?_) (fun h28 => ?_)
              · refine CW.seq ?_
                refine CW.region ?_
                refine RL.val rfl (run_assign (v := B false) rfl) ?_
                refine RL.nil ?_
                refine CW.ret ?_
                refine outP1 Tryd.results48 (congrArg B ?_) hH23.below
                first | exact (lat_no1 (by omega)).symm | exact (lat_no2 (nt ‹_›)).symm | exact (lat_no3 ‹i < r.n› j0 ‹j < i› (by rw [bothB, nt ‹(!(joinV r i j).2) = true›]; rfl)).symm | exact (lat_no3 ‹i < r.n› j0 ‹j < i› (by rw [bothB, nt ‹(!(meetV r i j).2) = true›]; simp)).symm | exact (lat_yes hn ho ‹_› hg).symm
              · refine CW.skip ?_
                refine CW.region ?_
                refine RL.val rfl (run_move e4_16) ?_
                refine RL.val rfl (run_add rfl rfl (by omega)) ?_
                refine RL.val rfl (run_assign (v := I _) rfl) ?_
                refine RL.nil ?_
                refine ⟨j + 1, ?_, (((((((((((((((((((((((((((((fr16.u rfl).u rfl).u rfl).u rfl).u rfl).u rfl).u rfl).u rfl).u rfl).u rfl).u rfl).u rfl).u rfl).u rfl).u rfl).u rfl).u rfl).u rfl).u rfl).u rfl).u rfl).u rfl).u rfl).u rfl).u rfl).u rfl).u rfl).u rfl).u rfl).u rfl, hH23, (congrArg I (by first | rfl | omega)), ?_, ?_, ?_⟩
                · ((try dsimp only); omega)
                · omega
                · omega
                · exact fun b x y => if e : b = j then e ▸ (by rw [bothB, Bool.and_eq_true]; exact ⟨nf ‹(!(joinV r i j).2) = false›, nf ‹(!(meetV r i j).2) = false›⟩) else hh b x (by omega)
          · refine CW.exit (id := 2) rfl ?_
            refine CW.region ?_
            refine RL.val rfl (run_move e3_16) ?_
            refine RL.val rfl (run_add rfl rfl (by omega)) ?_
            refine RL.val rfl (run_assign (v := I _) rfl) ?_
            refine RL.nil ?_
            refine ⟨i + 1, ?_, ((((((((((((fr13.u rfl).u rfl).u rfl).u rfl).u rfl).t fr16 rfl)).u rfl).u rfl).u rfl).u rfl).u rfl).u rfl, hH16, (congrArg I (by first | rfl | omega)), ?_, ?_, ?_⟩
            · ((try dsimp only); omega)
            · omega
            · omega
            · exact fun a b x y z => if e : a = i then e ▸ hh b x (by omega) else hg a b x y (by omega)
        · refine CW.exit (id := 0) rfl ?_
          refine CW.seq ?_
          refine CW.region ?_
          refine RL.val rfl (run_assign (v := B true) rfl) ?_
          refine RL.nil ?_
          refine CW.ret ?_
          refine outP1 Tryd.results48 (congrArg B ?_) hH13.below
          first | exact (lat_no1 (by omega)).symm | exact (lat_no2 (nt ‹_›)).symm | exact (lat_no3 ‹i < r.n› j0 ‹j < i› (by rw [bothB, nt ‹(!(joinV r i j).2) = true›]; rfl)).symm | exact (lat_no3 ‹i < r.n› j0 ‹j < i› (by rw [bothB, nt ‹(!(meetV r i j).2) = true›]; simp)).symm | exact (lat_yes hn ho ‹_› hg).symm

theorem c_clearanceref06_Word (r : Rl) (i : Int) (w : World) : Calls Tryd.prog 57 #[.agg (relC r), I i] w (Pure (U (belowR r i)) w) := by
  have hp := pts_bd r
  refine enter Tryd.func57 rfl Tryd.ntmps57 rfl ?_
  have hH := Hp.start w
  refine CW.seq ?_
  refine CW.region ?_
  refine RL.new rfl hH (f := fun b => (.pointer (some ⟨b, 0, none⟩))) (run_box (v := .agg _) rfl) ?_
  intro b3 w1 hH2
  refine RL.val rfl (run_assign (v := U 0#64) rfl) ?_
  refine RL.nil ?_
  refine CW.seq ?_
  refine CW.region ?_
  refine RL.val rfl (run_assign (v := .slice none 0 0) rfl) ?_
  have hH4 := hH2.nilRow 3 1
  refine RL.nil ?_
  refine CW.seq ?_
  refine CW.seq ?_
  refine CW.region ?_
  refine RL.val rfl (run_assign (v := I 0) rfl) ?_
  refine RL.nil ?_
  refine CW.block ?_
  refine CW.loop (G := (Int) × (List Int) × (Value)) (fun (⟨k, l, v5⟩ : (Int) × (List Int) × (Value)) s' w' => (Fr [5, 6, 7, 8, 9, 10, 11, 12, 13, 14, 15, 16, 17, 18, 19, 20] _ s') ∧ (Hp w w' (.row v5 3 1 (l.length) (l.map I) :: _)) ∧ (s' 5 = v5) ∧ (s' 6 = I k) ∧ (0 ≤ k) ∧ (k ≤ pts r) ∧ (l = downTo' r i k)) (fun (⟨k, l, v5⟩ : (Int) × (List Int) × (Value)) => (pts r - k).toNat) ((0, [], (.slice none 0 0 : Value))) ⟨Fr.refl _ _, hH4, rfl, rfl, (by omega), (by omega), rfl⟩ ?_
  rintro ⟨k, l, v5⟩ sg5 w5 ⟨fr5, hH5, e5_5, e6_5, k0, k1, hl⟩
  have e1_5 : sg5 1 = I _ := (fr5 1 rfl).trans rfl
  have e2_5 : sg5 2 = .pointer (some ⟨_, _, none⟩) := (fr5 2 rfl).trans rfl
  have e4_5 : sg5 4 = U _ := (fr5 4 rfl).trans rfl
  refine CW.seq ?_
  refine CW.seq ?_
  refine CW.region ?_
  refine RL.val rfl (run_move e6_5) ?_
  refine RL.val rfl (run_ldRel Tryd.underlying25 rfl rfl e2_5 (hH5.blk (i := 1) rfl)) ?_
  refine RL.callP rfl hH5 (c_clearanceref03_Points _  _) (run_call1 Tryd.call25 rfl) ?_
  intro w6 hH7
  refine RL.val rfl (run_lss rfl rfl) ?_
  refine RL.nil ?_
  refine CW.condP rfl (fun h9 => ?_) (fun h9 => ?_)
  · refine CW.skip ?_
    refine CW.seq ?_
    refine CW.block ?_
    refine CW.seq ?_
    refine CW.region ?_
    refine RL.val rfl (run_ldRel Tryd.underlying25 rfl rfl e2_5 (hH7.blk (i := 1) rfl)) ?_
    refine RL.val rfl (run_move e6_5) ?_
    refine RL.val rfl (run_move e1_5) ?_
    refine RL.callP rfl hH7 (c_clearanceref03_Has _ _ _  _) (run_call3 Tryd.call26 rfl rfl rfl) ?_
    intro w10 hH11
    refine RL.nil ?_
    refine CW.cond rfl (fun h13 => ?_) (fun h13 => ?_)
    · refine CW.region ?_
      refine RL.val rfl (run_move e5_5) ?_
      refine RL.val rfl (run_move e6_5) ?_
      refine RL.new rfl hH11 (f := fun b => (.slice (some ⟨b, 0, none⟩) 1 1)) (run_mkL Tryd.underlying36 rfl rfl (sz := 1) (vs := [I _]) rfl rfl (by decide) (by decide) rfl rfl) ?_
      intro b16 w14 hH15
      (try simp only [List.flatMap_cons, List.flatMap_nil, clI, clB, clS, clP, clL, clA, List.append_nil, List.cons_append, List.nil_append] at hH15)
      refine RL.app rfl hH15 (i := 1) rfl (hH15.slBlk (i := 0) (n := 1) (sz := 1) rfl rfl (by decide)) rfl rfl Tryd.underlying36 rfl rfl (size := 1) (bytes := 8) rfl rfl rfl (by decide) (by simp [Value.oneCell']) (by have := @downs_len r i k; rw [← hl] at this; omega) (by have := @downs_len r i k; rw [← hl] at this; simp only [maxLen]; omega) ?_
      intro v17 w18 hH19
      simp only [List.set_cons_zero, List.set_cons_succ] at hH19
      refine RL.val rfl (run_assign (by conv => lhs; whnf)) ?_
      refine RL.nil ?_
      refine CW.region ?_
      refine RL.val rfl (run_move e6_5) ?_
      refine RL.val rfl (run_add rfl rfl (by omega)) ?_
      refine RL.val rfl (run_assign (v := I _) rfl) ?_
      refine RL.nil ?_
      refine ⟨(k + 1, l ++ [k], v17), ?_, (((((((((((((((fr5.u rfl).u rfl).u rfl).u rfl).u rfl).u rfl).u rfl).u rfl).u rfl).u rfl).u rfl).u rfl).u rfl).u rfl).u rfl).u rfl, (Hp.conv (hH19.sub (.cons _ (List.Sublist.refl _))) (by first | rfl | simp)), rfl, (congrArg I (by first | rfl | omega)), ?_, ?_, ?_⟩
      · ((try dsimp only); omega)
      · omega
      · omega
      · first | (rw [hl]; exact downs_yes k0 ‹_›) | (rw [hl]; exact downs_no k0 ‹_›)
    · refine CW.skip ?_
      refine CW.region ?_
      refine RL.val rfl (run_move e6_5) ?_
      refine RL.val rfl (run_add rfl rfl (by omega)) ?_
      refine RL.val rfl (run_assign (v := I _) rfl) ?_
      refine RL.nil ?_
      refine ⟨(k + 1, l, v5), ?_, ((((((((((fr5.u rfl).u rfl).u rfl).u rfl).u rfl).u rfl).u rfl).u rfl).u rfl).u rfl).u rfl, (Hp.conv hH11 (by first | rfl | simp)), e5_5, (congrArg I (by first | rfl | omega)), ?_, ?_, ?_⟩
      · ((try dsimp only); omega)
      · omega
      · omega
      · first | (rw [hl]; exact downs_yes k0 ‹_›) | (rw [hl]; exact downs_no k0 ‹_›)
  · refine CW.exit (id := 0) rfl ?_
    refine CW.seq ?_
    refine CW.region ?_
    refine RL.val rfl (run_move e5_5) ?_
    refine RL.callP rfl hH7 (c_clearanceref01_Of _ _  _ (hH7.sl (i := 0) rfl)) (run_call1 Tryd.call96 rfl) ?_
    intro w20 hH21
    refine RL.val rfl (run_assign (v := U _) rfl) ?_
    refine RL.nil ?_
    refine CW.ret ?_
    refine outP1 Tryd.results57 (congrArg U ?_) hH21.below
    (rw [hl]; exact downs_all (by omega))

theorem c_clearanceref06_Point (r : Rl) (s : BitVec 64) (w : World) : Calls Tryd.prog 55 #[.agg (relC r), U s] w (Pure (.tuple #[I (pointV r s).1, B (pointV r s).2]) w) := by
  have hp := pts_bd r
  refine enter Tryd.func55 rfl Tryd.ntmps55 rfl ?_
  have hH := Hp.start w
  refine CW.seq ?_
  refine CW.region ?_
  refine RL.new rfl hH (f := fun b => (.pointer (some ⟨b, 0, none⟩))) (run_box (v := .agg _) rfl) ?_
  intro b3 w1 hH2
  refine RL.val rfl (run_assign (v := I 0) rfl) ?_
  refine RL.val rfl (run_assign (v := B false) rfl) ?_
  refine RL.nil ?_
  refine CW.seq ?_
  refine CW.seq ?_
  refine CW.region ?_
  refine RL.val rfl (run_assign (v := I 0) rfl) ?_
  refine RL.nil ?_
  refine CW.block ?_
  refine CW.loop (G := (Int)) (fun (k : Int) s' w' => (Fr [4, 5, 6, 7, 8, 9, 10, 11, 12, 13, 14, 15, 16, 17, 18] _ s') ∧ (Hp w w' _) ∧ (s' 6 = I k) ∧ (0 ≤ k) ∧ (k ≤ pts r) ∧ (∀ j : Int, 0 ≤ j → j < k → belowR r j ≠ s)) (fun (k : Int) => (pts r - k).toNat) (0) ⟨Fr.refl _ _, hH2, rfl, (by omega), (by omega), fun j x y => absurd y (by omega)⟩ ?_
  rintro k sg4 w4 ⟨fr4, hH4, e6_4, h0, hk, hg⟩
  have e1_4 : sg4 1 = U _ := (fr4 1 rfl).trans rfl
  have e2_4 : sg4 2 = .pointer (some ⟨_, _, none⟩) := (fr4 2 rfl).trans rfl
  refine CW.seq ?_
  refine CW.seq ?_
  refine CW.region ?_
  refine RL.val rfl (run_move e6_4) ?_
  refine RL.val rfl (run_ldRel Tryd.underlying25 rfl rfl e2_4 (hH4.blk (i := 0) rfl)) ?_
  refine RL.callP rfl hH4 (c_clearanceref03_Points _  _) (run_call1 Tryd.call25 rfl) ?_
  intro w5 hH6
  refine RL.val rfl (run_lss rfl rfl) ?_
  refine RL.nil ?_
  refine CW.condP rfl (fun h8 => ?_) (fun h8 => ?_)
  · refine CW.skip ?_
    refine CW.seq ?_
    refine CW.block ?_
    refine CW.seq ?_
    refine CW.region ?_
    refine RL.val rfl (run_ldRel Tryd.underlying25 rfl rfl e2_4 (hH6.blk (i := 0) rfl)) ?_
    refine RL.val rfl (run_move e6_4) ?_
    refine RL.callP rfl hH6 (c_clearanceref06_Word _ _  _) (run_call2 Tryd.call57 rfl rfl) ?_
    intro w9 hH10
    refine RL.val rfl (run_move e1_4) ?_
    refine RL.val rfl (run_eqlU rfl rfl) ?_
    refine RL.nil ?_
    refine CW.condP rfl (fun h12 => ?_) (fun h12 => ?_)
    · refine CW.seq ?_
      refine CW.region ?_
      refine RL.val rfl (run_move e6_4) ?_
      refine RL.val rfl (run_assign (v := I _) rfl) ?_
      refine RL.val rfl (run_assign (v := B true) rfl) ?_
      refine RL.nil ?_
      refine CW.ret ?_
      refine outP2 Tryd.results55 (congrArg I ?_) (congrArg B ?_) hH10.below <;> rw [point_yes h0 ‹_› ‹_› hg]
    · refine CW.skip ?_
      refine CW.region ?_
      refine RL.val rfl (run_move e6_4) ?_
      refine RL.val rfl (run_add rfl rfl (by omega)) ?_
      refine RL.val rfl (run_assign (v := I _) rfl) ?_
      refine RL.nil ?_
      refine ⟨k + 1, ?_, (((((((((((fr4.u rfl).u rfl).u rfl).u rfl).u rfl).u rfl).u rfl).u rfl).u rfl).u rfl).u rfl).u rfl, hH10, (congrArg I (by first | rfl | omega)), ?_, ?_, ?_⟩
      · ((try dsimp only); omega)
      · omega
      · omega
      · exact fun j x y => if e : j = k then e ▸ ‹¬ belowR r k = s› else hg j x (by omega)
  · refine CW.exit (id := 0) rfl ?_
    refine CW.seq ?_
    refine CW.region ?_
    refine RL.val rfl (run_assign (v := I 0) rfl) ?_
    refine RL.val rfl (run_assign (v := B false) rfl) ?_
    refine RL.nil ?_
    refine CW.ret ?_
    refine outP2 Tryd.results55 (congrArg I ?_) (congrArg B ?_) hH6.below <;> rw [point_no ‹_› hg]

theorem c_clearanceref06_Raise (r : Rl) (a b : BitVec 64) (w : World) : Calls Tryd.prog 59 #[.agg (relC r), U a, U b] w (Pure (U (raiseV r a b)) w) := by
  refine enter Tryd.func59 rfl Tryd.ntmps59 rfl ?_
  have hH := Hp.start w
  refine CW.seq ?_
  refine CW.region ?_
  refine RL.new rfl hH (f := fun b => (.pointer (some ⟨b, 0, none⟩))) (run_box (v := .agg _) rfl) ?_
  intro b3 w1 hH2
  refine RL.val rfl (run_assign (v := U 0#64) rfl) ?_
  refine RL.nil ?_
  refine CW.seq ?_
  refine CW.region ?_
  refine RL.val rfl (run_ldRel Tryd.underlying25 rfl rfl rfl (hH2.blk (i := 0) rfl)) ?_
  refine RL.val rfl (run_move (v := U _) rfl) ?_
  refine RL.callP rfl hH2 (c_clearanceref06_Point _ _  _) (run_call2 Tryd.call55 rfl rfl) ?_
  intro w4 hH5
  refine RL.val rfl (run_move (by conv => lhs; whnf)) ?_
  refine RL.val rfl (run_extract rfl (v := I _) rfl) ?_
  refine RL.val rfl (run_extract rfl (v := B _) rfl) ?_
  refine RL.val rfl (run_assign (v := I _) rfl) ?_
  refine RL.val rfl (run_assign (v := B _) rfl) ?_
  refine RL.nil ?_
  refine CW.seq ?_
  refine CW.region ?_
  refine RL.val rfl (run_ldRel Tryd.underlying25 rfl rfl rfl (hH5.blk (i := 0) rfl)) ?_
  refine RL.val rfl (run_move (v := U _) rfl) ?_
  refine RL.callP rfl hH5 (c_clearanceref06_Point _ _  _) (run_call2 Tryd.call55 rfl rfl) ?_
  intro w7 hH8
  refine RL.val rfl (run_move (by conv => lhs; whnf)) ?_
  refine RL.val rfl (run_extract rfl (v := I _) rfl) ?_
  refine RL.val rfl (run_extract rfl (v := B _) rfl) ?_
  refine RL.val rfl (run_assign (v := I _) rfl) ?_
  refine RL.val rfl (run_assign (v := B _) rfl) ?_
  refine RL.nil ?_
  refine CW.seq ?_
  refine CW.region ?_
  refine RL.val rfl (run_ldRel Tryd.underlying25 rfl rfl rfl (hH8.blk (i := 0) rfl)) ?_
  refine RL.val rfl (run_move (v := I _) rfl) ?_
  refine RL.val rfl (run_move (v := I _) rfl) ?_
  refine RL.callP rfl hH8 (c_clearanceref06_Join _ _ _  _) (run_call3 Tryd.call20 rfl rfl rfl) ?_
  intro w10 hH11
  refine RL.val rfl (run_move (by conv => lhs; whnf)) ?_
  refine RL.val rfl (run_extract rfl (v := I _) rfl) ?_
  refine RL.val rfl (run_extract rfl (v := B _) rfl) ?_
  refine RL.val rfl (run_assign (v := I _) rfl) ?_
  refine RL.val rfl (run_assign (v := B _) rfl) ?_
  refine RL.nil ?_
  refine CW.seq ?_
  refine CW.seq ?_
  refine CW.region ?_
  refine RL.val rfl (run_move (v := B _) rfl) ?_
  refine RL.val rfl (run_move (v := B _) rfl) ?_
  refine RL.split (dj := 33) rfl (fun h13 => ?_) (fun h13 => ?_)
  · refine RL.gT rfl (bR (c := true) h13) ?_
    refine RL.val rfl (run_move (v := B _) rfl) ?_
    refine RL.val rfl (run_pickT (bR (c := true) h13) (v := B _) rfl) ?_
    refine RL.val rfl (run_move (v := B _) rfl) ?_
    refine RL.split (dj := 36) rfl (fun h14 => ?_) (fun h14 => ?_)
    · refine RL.gT rfl (bR (c := true) h14) ?_
      refine RL.val rfl (run_move (v := B _) rfl) ?_
      refine RL.val rfl (run_pickT (bR (c := true) h14) (v := B _) rfl) ?_
      refine RL.nil ?_
      refine CW.cond rfl (fun h15 => ?_) (fun h15 => ?_)
      · refine CW.seq ?_
        refine CW.region ?_
        refine RL.val rfl (run_ldRel Tryd.underlying25 rfl rfl rfl (hH11.blk (i := 0) rfl)) ?_
        refine RL.val rfl (run_move (v := I _) rfl) ?_
        refine RL.callP rfl hH11 (c_clearanceref06_Word _ _  _) (run_call2 Tryd.call57 rfl rfl) ?_
        intro w16 hH17
        refine RL.val rfl (run_assign (v := U _) rfl) ?_
        refine RL.nil ?_
        refine CW.ret ?_
        refine outP1 Tryd.results59 (congrArg U ?_) hH17.below
        first | rw [raise_yes ‹_› ‹_› ‹_›] | rw [raise_no1 ‹_›] | rw [raise_no2 ‹_›] | rw [raise_no3 ‹_›]
      · refine CW.skip ?_
        refine CW.seq ?_
        refine CW.region ?_
        refine RL.val rfl (run_move (v := U _) rfl) ?_
        refine RL.val rfl (run_move (v := U _) rfl) ?_
        refine RL.val rfl (run_orU rfl rfl) ?_
        refine RL.val rfl (run_assign (v := U _) rfl) ?_
        refine RL.nil ?_
        refine CW.ret ?_
        refine outP1 Tryd.results59 (congrArg U ?_) hH11.below
        first | rw [raise_yes ‹_› ‹_› ‹_›] | rw [raise_no1 ‹_›] | rw [raise_no2 ‹_›] | rw [raise_no3 ‹_›]
    · refine RL.gF rfl rfl (bR (c := false) h14) rfl ?_
      refine RL.val rfl (run_pickF (bR (c := false) h14) (v := B false) rfl) ?_
      refine RL.nil ?_
      refine CW.condF rfl ?_
      refine CW.skip ?_
      refine CW.seq ?_
      refine CW.region ?_
      refine RL.val rfl (run_move (v := U _) rfl) ?_
      refine RL.val rfl (run_move (v := U _) rfl) ?_
      refine RL.val rfl (run_orU rfl rfl) ?_
      refine RL.val rfl (run_assign (v := U _) rfl) ?_
      refine RL.nil ?_
      refine CW.ret ?_
      refine outP1 Tryd.results59 (congrArg U ?_) hH11.below
      first | rw [raise_yes ‹_› ‹_› ‹_›] | rw [raise_no1 ‹_›] | rw [raise_no2 ‹_›] | rw [raise_no3 ‹_›]
  · refine RL.gF rfl rfl (bR (c := false) h13) rfl ?_
    refine RL.val rfl (run_pickF (bR (c := false) h13) (v := B false) rfl) ?_
    refine RL.val rfl (run_move (v := B _) rfl) ?_
    refine RL.gF rfl rfl rfl rfl ?_
    refine RL.val rfl (run_pickF rfl (v := B false) rfl) ?_
    refine RL.nil ?_
    refine CW.condF rfl ?_
    refine CW.skip ?_
    refine CW.seq ?_
    refine CW.region ?_
    refine RL.val rfl (run_move (v := U _) rfl) ?_
    refine RL.val rfl (run_move (v := U _) rfl) ?_
    refine RL.val rfl (run_orU rfl rfl) ?_
    refine RL.val rfl (run_assign (v := U _) rfl) ?_
    refine RL.nil ?_
    refine CW.ret ?_
    refine outP1 Tryd.results59 (congrArg U ?_) hH11.below
    first | rw [raise_yes ‹_› ‹_› ‹_›] | rw [raise_no1 ‹_›] | rw [raise_no2 ‹_›] | rw [raise_no3 ‹_›]

theorem c_clearanceref06_End (r : Rl) (t : Bool) (w : World) : Calls Tryd.prog 45 #[.agg (relC r), B t] w (Pure (.tuple #[I (endV r (if t = true then belowR r else aboveR r)).1, B (endV r (if t = true then belowR r else aboveR r)).2]) w) := by
  have hp := pts_bd r
  refine enter Tryd.func45 rfl Tryd.ntmps45 rfl ?_
  have hH := Hp.start w
  refine CW.seq ?_
  refine CW.region ?_
  refine RL.new rfl hH (f := fun b => (.pointer (some ⟨b, 0, none⟩))) (run_box (v := .agg _) rfl) ?_
  intro b4 w2 hH3
  refine RL.val rfl (run_assign (v := I 0) rfl) ?_
  refine RL.val rfl (run_assign (v := B false) rfl) ?_
  refine RL.nil ?_
  refine CW.seq ?_
  refine CW.seq ?_
  refine CW.region ?_
  refine RL.val rfl (run_assign (v := I 0) rfl) ?_
  refine RL.nil ?_
  refine CW.block ?_
  refine CW.loop (G := (Int)) (fun (i : Int) s' w' => (Fr [4, 5, 6, 7, 8, 9, 10, 11, 12, 13, 14, 15, 16, 17, 18, 19, 20, 21, 22, 23, 24, 25, 26, 27, 28, 29, 30, 31, 32, 33, 34, 35, 36, 37, 38, 39, 40, 41] _ s') ∧ (Hp w w' _) ∧ (s' 6 = I i) ∧ (0 ≤ i) ∧ (i ≤ pts r) ∧ (∀ x : Int, 0 ≤ x → x < i → endP r t x (pts r) = false)) (fun (i : Int) => (pts r - i).toNat) (0) ⟨Fr.refl _ _, hH3, rfl, (by omega), (by omega), fun x a b => absurd b (by omega)⟩ ?_
  rintro i sg5 w5 ⟨fr5, hH5, e6_5, i0, i1, hg⟩
  have e1_5 : sg5 1 = B _ := (fr5 1 rfl).trans rfl
  have e2_5 : sg5 2 = .pointer (some ⟨_, _, none⟩) := (fr5 2 rfl).trans rfl
  refine CW.seq ?_
  refine CW.seq ?_
  refine CW.region ?_
  refine RL.val rfl (run_move e6_5) ?_
  refine RL.val rfl (run_ldRel Tryd.underlying25 rfl rfl e2_5 (hH5.blk (i := 0) rfl)) ?_
  refine RL.callP rfl hH5 (c_clearanceref03_Points _  _) (run_call1 Tryd.call25 rfl) ?_
  intro w6 hH7
  refine RL.val rfl (run_lss rfl rfl) ?_
  refine RL.nil ?_
  refine CW.condP rfl (fun h9 => ?_) (fun h9 => ?_)
  · refine CW.skip ?_
    refine CW.seq ?_
    refine CW.block ?_
    refine CW.seq ?_
    refine CW.region ?_
    refine RL.val rfl (run_assign (v := B true) rfl) ?_
    refine RL.nil ?_
    refine CW.seq ?_
    refine CW.seq ?_
    refine CW.region ?_
    refine RL.val rfl (run_assign (v := I 0) rfl) ?_
    refine RL.nil ?_
    refine CW.block ?_
    refine CW.loop (G := (Int)) (fun (k : Int) s' w' => (Fr [7, 8, 15, 16, 17, 18, 19, 20, 21, 22, 23, 24, 25, 26, 27, 28, 29, 30, 31, 32, 33, 34, 35, 36, 37, 38, 39] _ s') ∧ (Hp w w' _) ∧ (s' 7 = B (endP r t i k)) ∧ (s' 8 = I k) ∧ (0 ≤ k) ∧ (k ≤ pts r)) (fun (k : Int) => (pts r - k).toNat) (0) ⟨Fr.refl _ _, hH7, (congrArg B (by simp [endP, upto])), rfl, (by omega), (by omega)⟩ ?_
    rintro k sg10 w10 ⟨fr10, hH10, e7_10, e8_10, k0, k1⟩
    have e1_10 := (fr10 1 rfl).trans e1_5
    have e2_10 := (fr10 2 rfl).trans e2_5
    have e6_10 := (fr10 6 rfl).trans e6_5
    have e9_10 : sg10 9 = I _ := (fr10 9 rfl).trans rfl
    have e10_10 : sg10 10 = .agg _ := (fr10 10 rfl).trans rfl
    have e11_10 : sg10 11 = I _ := (fr10 11 rfl).trans rfl
    have e12_10 : sg10 12 = B _ := (fr10 12 rfl).trans rfl
    refine CW.seq ?_
    refine CW.seq ?_
    refine CW.region ?_
    refine RL.val rfl (run_move e8_10) ?_
    refine RL.val rfl (run_ldRel Tryd.underlying25 rfl rfl e2_10 (hH10.blk (i := 0) rfl)) ?_
    refine RL.callP rfl hH10 (c_clearanceref03_Points _  _) (run_call1 Tryd.call25 rfl) ?_
    intro w12 hH13
    refine RL.val rfl (run_lss rfl rfl) ?_
    refine RL.nil ?_
    refine CW.condP rfl (fun h15 => ?_) (fun h15 => ?_)
    · refine CW.skip ?_
      refine CW.seq ?_
      refine CW.block ?_
      refine CW.seq ?_
      refine CW.region ?_
      refine RL.val rfl (run_move e1_10) ?_
      refine RL.val rfl (run_not rfl) ?_
      refine RL.val rfl (run_move (v := B _) rfl) ?_
      refine RL.split (dj := 23) rfl (fun h17 => ?_) (fun h17 => ?_)
      · refine RL.gT rfl (bR (c := true) h17) ?_
        refine RL.val rfl (run_ldRel Tryd.underlying25 rfl rfl e2_10 (hH13.blk (i := 0) rfl)) ?_
        refine RL.gT rfl (bR (c := true) h17) ?_
        refine RL.val rfl (run_move e6_10) ?_
        refine RL.gT rfl (bR (c := true) h17) ?_
        refine RL.val rfl (run_move e8_10) ?_
        refine RL.gT rfl (bR (c := true) h17) ?_
        refine RL.callP rfl hH13 (c_clearanceref03_Has _ _ _  _) (run_call3 Tryd.call26 rfl rfl rfl) ?_
        intro w18 hH19
        refine RL.gT rfl (bR (c := true) h17) ?_
        refine RL.val rfl (run_not rfl) ?_
        refine RL.val rfl (run_pickT (bR (c := true) h17) (v := B _) rfl) ?_
        refine RL.val rfl (run_move (v := B _) rfl) ?_
        refine RL.split (dj := 30) rfl (fun h22 => ?_) (fun h22 => ?_)
        · refine RL.gF rfl rfl (bR (c := true) h22) rfl ?_
          refine RL.gF rfl rfl (bR (c := true) h22) rfl ?_
          refine RL.gU rfl rfl rfl ?_
          refine RL.gU rfl rfl rfl ?_
          refine RL.gU rfl rfl rfl ?_
          refine RL.gU rfl rfl rfl ?_
          refine RL.gU rfl rfl rfl ?_
          refine RL.gF rfl rfl (bR (c := true) h22) rfl ?_
          refine RL.val rfl (run_pickT (bR (c := true) h22) (v := B true) rfl) ?_
          refine RL.nil ?_
          refine CW.condT rfl ?_
          refine CW.region ?_
          refine RL.val rfl (run_assign (v := B false) rfl) ?_
          refine RL.nil ?_
          refine CW.region ?_
          refine RL.val rfl (run_move e8_10) ?_
          refine RL.val rfl (run_add rfl rfl (by omega)) ?_
          refine RL.val rfl (run_assign (v := I _) rfl) ?_
          refine RL.nil ?_
          refine ⟨k + 1, ?_, ((((((((((((((((((((((((((fr10.u rfl).u rfl).u rfl).u rfl).u rfl).u rfl).u rfl).u rfl).u rfl).u rfl).u rfl).u rfl).u rfl).u rfl).u rfl).u rfl).u rfl).u rfl).u rfl).u rfl).u rfl).u rfl).u rfl).u rfl).u rfl).u rfl).u rfl, hH19, (congrArg B (by rw [endP_next k0]; simp_all)), (congrArg I (by first | rfl | omega)), ?_, ?_⟩
          · ((try dsimp only); omega)
          · omega
          · omega
        · refine RL.gT rfl (bR (c := false) h22) ?_
          refine RL.val rfl (run_move e1_10) ?_
          refine RL.gT rfl (bR (c := false) h22) ?_
          refine RL.val rfl (run_move (v := B _) rfl) ?_
          refine RL.split (dj := 32) rfl (fun h23 => ?_) (fun h23 => ?_)
          · refine RL.gT rfl (bR (c := true) h23) ?_
            refine RL.val rfl (run_ldRel Tryd.underlying25 rfl rfl e2_10 (hH19.blk (i := 0) rfl)) ?_
            refine RL.gT rfl (bR (c := true) h23) ?_
            refine RL.val rfl (run_move e8_10) ?_
            refine RL.gT rfl (bR (c := true) h23) ?_
            refine RL.val rfl (run_move e6_10) ?_
            refine RL.gT rfl (bR (c := true) h23) ?_
            refine RL.callP rfl hH19 (c_clearanceref03_Has _ _ _  _) (run_call3 Tryd.call26 rfl rfl rfl) ?_
            intro w24 hH25
            refine RL.gT rfl (bR (c := true) h23) ?_
            refine RL.val rfl (run_not rfl) ?_
            refine RL.gT rfl (bR (c := false) h22) ?_
            refine RL.val rfl (run_pickT (bR (c := true) h23) (v := B _) rfl) ?_
            refine RL.val rfl (run_pickF (bR (c := false) h22) (v := B _) rfl) ?_
            refine RL.nil ?_
            refine CW.cond rfl (fun h28 => ?_) (fun h28 => ?_)
            · refine CW.region ?_
              refine RL.val rfl (run_assign (v := B false) rfl) ?_
              refine RL.nil ?_
              refine CW.region ?_
              refine RL.val rfl (run_move e8_10) ?_
              refine RL.val rfl (run_add rfl rfl (by omega)) ?_
              refine RL.val rfl (run_assign (v := I _) rfl) ?_
              refine RL.nil ?_
              refine ⟨k + 1, ?_, ((((((((((((((((((((((((((fr10.u rfl).u rfl).u rfl).u rfl).u rfl).u rfl).u rfl).u rfl).u rfl).u rfl).u rfl).u rfl).u rfl).u rfl).u rfl).u rfl).u rfl).u rfl).u rfl).u rfl).u rfl).u rfl).u rfl).u rfl).u rfl).u rfl).u rfl, hH25, (congrArg B (by rw [endP_next k0]; simp_all)), (congrArg I (by first | rfl | omega)), ?_, ?_⟩
              · ((try dsimp only); omega)
              · omega
              · omega
            · refine CW.skip ?_
              refine CW.region ?_
              refine RL.val rfl (run_move e8_10) ?_
              refine RL.val rfl (run_add rfl rfl (by omega)) ?_
              refine RL.val rfl (run_assign (v := I _) rfl) ?_
              refine RL.nil ?_
              refine ⟨k + 1, ?_, (((((((((((((((((((((((((fr10.u rfl).u rfl).u rfl).u rfl).u rfl).u rfl).u rfl).u rfl).u rfl).u rfl).u rfl).u rfl).u rfl).u rfl).u rfl).u rfl).u rfl).u rfl).u rfl).u rfl).u rfl).u rfl).u rfl).u rfl).u rfl).u rfl, hH25, (Eq.trans e7_10 (congrArg B (by rw [endP_next k0]; simp_all))), (congrArg I (by first | rfl | omega)), ?_, ?_⟩
              · ((try dsimp only); omega)
              · omega
              · omega
          · refine RL.gF rfl rfl (bR (c := false) h23) rfl ?_
            refine RL.gF rfl rfl (bR (c := false) h23) rfl ?_
            refine RL.gF rfl rfl (bR (c := false) h23) rfl ?_
            refine RL.gF rfl rfl (bR (c := false) h23) rfl ?_
            refine RL.gF rfl rfl (bR (c := false) h23) rfl ?_
            refine RL.gT rfl (bR (c := false) h22) ?_
            refine RL.val rfl (run_pickF (bR (c := false) h23) (v := B false) rfl) ?_
            refine RL.val rfl (run_pickF (bR (c := false) h22) (v := B _) rfl) ?_
            refine RL.nil ?_
            refine CW.condF rfl ?_
            refine CW.skip ?_
            refine CW.region ?_
            refine RL.val rfl (run_move e8_10) ?_
            refine RL.val rfl (run_add rfl rfl (by omega)) ?_
            refine RL.val rfl (run_assign (v := I _) rfl) ?_
            refine RL.nil ?_
            refine ⟨k + 1, ?_, (((((((((((((((((((((((((fr10.u rfl).u rfl).u rfl).u rfl).u rfl).u rfl).u rfl).u rfl).u rfl).u rfl).u rfl).u rfl).u rfl).u rfl).u rfl).u rfl).u rfl).u rfl).u rfl).u rfl).u rfl).u rfl).u rfl).u rfl).u rfl).u rfl, hH19, (Eq.trans e7_10 (congrArg B (by rw [endP_next k0]; simp_all))), (congrArg I (by first | rfl | omega)), ?_, ?_⟩
            · ((try dsimp only); omega)
            · omega
            · omega
      · refine RL.gF rfl rfl (bR (c := false) h17) rfl ?_
        refine RL.gF rfl rfl (bR (c := false) h17) rfl ?_
        refine RL.gF rfl rfl (bR (c := false) h17) rfl ?_
        refine RL.gF rfl rfl (bR (c := false) h17) rfl ?_
        refine RL.gF rfl rfl (bR (c := false) h17) rfl ?_
        refine RL.val rfl (run_pickF (bR (c := false) h17) (v := B false) rfl) ?_
        refine RL.val rfl (run_move (v := B _) rfl) ?_
        refine RL.gT rfl rfl ?_
        refine RL.val rfl (run_move e1_10) ?_
        refine RL.gT rfl rfl ?_
        refine RL.val rfl (run_move (v := B _) rfl) ?_
        refine RL.split (dj := 32) rfl (fun h29 => ?_) (fun h29 => ?_)
        · refine RL.gT rfl (bR (c := true) h29) ?_
          refine RL.val rfl (run_ldRel Tryd.underlying25 rfl rfl e2_10 (hH13.blk (i := 0) rfl)) ?_
          refine RL.gT rfl (bR (c := true) h29) ?_
          refine RL.val rfl (run_move e8_10) ?_
          refine RL.gT rfl (bR (c := true) h29) ?_
          refine RL.val rfl (run_move e6_10) ?_
          refine RL.gT rfl (bR (c := true) h29) ?_
          refine RL.callP rfl hH13 (c_clearanceref03_Has _ _ _  _) (run_call3 Tryd.call26 rfl rfl rfl) ?_
          intro w30 hH31
          refine RL.gT rfl (bR (c := true) h29) ?_
          refine RL.val rfl (run_not rfl) ?_
          refine RL.gT rfl rfl ?_
          refine RL.val rfl (run_pickT (bR (c := true) h29) (v := B _) rfl) ?_
          refine RL.val rfl (run_pickF rfl (v := B _) rfl) ?_
          refine RL.nil ?_
          refine CW.cond rfl (fun h34 => ?_) (fun h34 => ?_)
          · refine CW.region ?_
            refine RL.val rfl (run_assign (v := B false) rfl) ?_
            refine RL.nil ?_
            refine CW.region ?_
            refine RL.val rfl (run_move e8_10) ?_
            refine RL.val rfl (run_add rfl rfl (by omega)) ?_
            refine RL.val rfl (run_assign (v := I _) rfl) ?_
            refine RL.nil ?_
            refine ⟨k + 1, ?_, ((((((((((((((((((((((((((fr10.u rfl).u rfl).u rfl).u rfl).u rfl).u rfl).u rfl).u rfl).u rfl).u rfl).u rfl).u rfl).u rfl).u rfl).u rfl).u rfl).u rfl).u rfl).u rfl).u rfl).u rfl).u rfl).u rfl).u rfl).u rfl).u rfl).u rfl, hH31, (congrArg B (by rw [endP_next k0]; simp_all)), (congrArg I (by first | rfl | omega)), ?_, ?_⟩
            · ((try dsimp only); omega)
            · omega
            · omega
          · refine CW.skip ?_
            refine CW.region ?_
            refine RL.val rfl (run_move e8_10) ?_
            refine RL.val rfl (run_add rfl rfl (by omega)) ?_
            refine RL.val rfl (run_assign (v := I _) rfl) ?_
            refine RL.nil ?_
            refine ⟨k + 1, ?_, (((((((((((((((((((((((((fr10.u rfl).u rfl).u rfl).u rfl).u rfl).u rfl).u rfl).u rfl).u rfl).u rfl).u rfl).u rfl).u rfl).u rfl).u rfl).u rfl).u rfl).u rfl).u rfl).u rfl).u rfl).u rfl).u rfl).u rfl).u rfl).u rfl, hH31, (Eq.trans e7_10 (congrArg B (by rw [endP_next k0]; simp_all))), (congrArg I (by first | rfl | omega)), ?_, ?_⟩
            · ((try dsimp only); omega)
            · omega
            · omega
        · refine RL.gF rfl rfl (bR (c := false) h29) rfl ?_
          refine RL.gF rfl rfl (bR (c := false) h29) rfl ?_
          refine RL.gF rfl rfl (bR (c := false) h29) rfl ?_
          refine RL.gF rfl rfl (bR (c := false) h29) rfl ?_
          refine RL.gF rfl rfl (bR (c := false) h29) rfl ?_
          refine RL.gT rfl rfl ?_
          refine RL.val rfl (run_pickF (bR (c := false) h29) (v := B false) rfl) ?_
          refine RL.val rfl (run_pickF rfl (v := B _) rfl) ?_
          refine RL.nil ?_
          refine CW.condF rfl ?_
          refine CW.skip ?_
          refine CW.region ?_
          refine RL.val rfl (run_move e8_10) ?_
          refine RL.val rfl (run_add rfl rfl (by omega)) ?_
          refine RL.val rfl (run_assign (v := I _) rfl) ?_
          refine RL.nil ?_
          refine ⟨k + 1, ?_, (((((((((((((((((((((((((fr10.u rfl).u rfl).u rfl).u rfl).u rfl).u rfl).u rfl).u rfl).u rfl).u rfl).u rfl).u rfl).u rfl).u rfl).u rfl).u rfl).u rfl).u rfl).u rfl).u rfl).u rfl).u rfl).u rfl).u rfl).u rfl).u rfl, hH13, (Eq.trans e7_10 (congrArg B (by rw [endP_next k0]; simp_all))), (congrArg I (by first | rfl | omega)), ?_, ?_⟩
          · ((try dsimp only); omega)
          · omega
          · omega
    · refine CW.exit (id := 2) rfl ?_
      refine CW.seq ?_
      refine CW.region ?_
      refine RL.val rfl (run_move e7_10) ?_
      refine RL.nil ?_
      refine CW.cond rfl (fun h35 => ?_) (fun h35 => ?_)
      · refine CW.seq ?_
        refine CW.region ?_
        refine RL.val rfl (run_move e6_10) ?_
        refine RL.val rfl (run_assign (v := I _) rfl) ?_
        refine RL.val rfl (run_assign (v := B true) rfl) ?_
        refine RL.nil ?_
        refine CW.ret ?_
        first | (refine outP2 Tryd.results45 (congrArg I ?_) (congrArg B ?_) hH13.below <;> rw [end_refY i0 ‹_› (show k = pts r by omega) ‹_› hg]) | (refine outP2 Tryd.results45 (congrArg I ?_) (congrArg B ?_) hH13.below <;> rw [end_refN ‹_› hg])
      · refine CW.skip ?_
        refine CW.region ?_
        refine RL.val rfl (run_move e6_10) ?_
        refine RL.val rfl (run_add rfl rfl (by omega)) ?_
        refine RL.val rfl (run_assign (v := I _) rfl) ?_
        refine RL.nil ?_
        refine ⟨i + 1, ?_, (((((((((((((((fr5.u rfl).u rfl).u rfl).u rfl).u rfl).u rfl).t fr10 rfl)).u rfl).u rfl).u rfl).u rfl).u rfl).u rfl).u rfl).u rfl, hH13, (congrArg I (by first | rfl | omega)), ?_, ?_, ?_⟩
        · ((try dsimp only); omega)
        · omega
        · omega
        · exact fun x a b => if e : x = i then e ▸ (by rw [← show k = pts r by omega]; assumption) else hg x a (by omega)
  · refine CW.exit (id := 0) rfl ?_
    refine CW.seq ?_
    refine CW.region ?_
    refine RL.val rfl (run_assign (v := I 0) rfl) ?_
    refine RL.val rfl (run_assign (v := B false) rfl) ?_
    refine RL.nil ?_
    refine CW.ret ?_
    first | (refine outP2 Tryd.results45 (congrArg I ?_) (congrArg B ?_) hH7.below <;> rw [end_refY i0 ‹_› (show k = pts r by omega) ‹_› hg]) | (refine outP2 Tryd.results45 (congrArg I ?_) (congrArg B ?_) hH7.below <;> rw [end_refN ‹_› hg])

theorem c_clearancelaw06_diamond  (w : World) : Calls Tryd.prog 88 #[] w (Pure (.agg (relC (cloR (ofR 5 [(0, 1), (0, 2), (0, 3), (1, 4), (2, 4), (3, 4)])))) w) := by
  refine enter Tryd.func88 rfl Tryd.ntmps88 rfl ?_
  have hH := Hp.start w
  refine CW.seq ?_
  refine CW.region ?_
  refine RL.new rfl hH (f := fun b => (.pointer (some ⟨b, 0, none⟩))) (run_alloc zero_rel) ?_
  intro b3 w1 hH2
  refine RL.nil ?_
  refine CW.seq ?_
  refine CW.region ?_
  refine RL.val rfl (run_bld (vs := [(0, I 0), (1, I 1)]) rfl (built_pair _ _)) ?_
  refine RL.val rfl (run_bld (vs := [(0, I 0), (1, I 2)]) rfl (built_pair _ _)) ?_
  refine RL.val rfl (run_bld (vs := [(0, I 0), (1, I 3)]) rfl (built_pair _ _)) ?_
  refine RL.val rfl (run_bld (vs := [(0, I 1), (1, I 4)]) rfl (built_pair _ _)) ?_
  refine RL.val rfl (run_bld (vs := [(0, I 2), (1, I 4)]) rfl (built_pair _ _)) ?_
  refine RL.val rfl (run_bld (vs := [(0, I 3), (1, I 4)]) rfl (built_pair _ _)) ?_
  refine RL.new rfl hH2 (f := fun b => (.slice (some ⟨b, 0, none⟩) 6 6)) (run_mkL Tryd.underlying46 rfl rfl (sz := 2) (vs := [.agg #[_, _], .agg #[_, _], .agg #[_, _], .agg #[_, _], .agg #[_, _], .agg #[_, _]]) rfl rfl (by decide) (by decide) rfl rfl) ?_
  intro b6 w4 hH5
  (try simp only [List.flatMap_cons, List.flatMap_nil, clI, clB, clS, clP, clL, clA, List.append_nil, List.cons_append, List.nil_append] at hH5)
  refine RL.callP rfl hH5 (c_relate_Of 5 _ [(0, 1), (0, 2), (0, 3), (1, 4), (2, 4), (3, 4)] _ (hH5.slBlk (i := 0) (n := 6) (sz := 2) rfl rfl (by decide))) (run_call2 Tryd.call43 (show _ = I 5 from rfl) rfl) ?_
  intro w7 hH8
  refine RL.callP rfl hH8 (c_relate_Closure _  _) (run_call1 Tryd.call24 rfl) ?_
  intro w9 hH10
  refine RL.set hH10 (i := 1) rfl (run_stRel rfl rfl rfl (hH10.blk (i := 1) rfl)) ?_
  intro w11 hH12
  simp only [List.set_cons_zero, List.set_cons_succ] at hH12
  refine RL.nil ?_
  refine CW.ret ?_
  refine outC Tryd.results88 rfl hH12 (i := 1) rfl Tryd.underlying25 rfl rfl ⟨?_, hH12.below⟩
  rfl

theorem c_dia (w : World) : Calls Tryd.prog 88 #[] w (Pure (.agg (relC diaR)) w) := by
  have h := c_clearancelaw06_diamond w
  rwa [show relC (cloR (ofR 5 [(0, 1), (0, 2), (0, 3), (1, 4), (2, 4), (3, 4)])) = relC diaR from relC_congr (by decide +kernel)] at h
theorem c_clearancelaw06_alive  (w : World) (hT : Tab w) : Calls Tryd.prog 23 #[] w (Pure (B true) w) := by
  refine enter Tryd.func23 rfl Tryd.ntmps23 rfl ?_
  have hH := Hp.start w
  refine CW.seq ?_
  refine CW.region ?_
  refine RL.val rfl (run_assign (v := B false) rfl) ?_
  refine RL.nil ?_
  refine CW.seq ?_
  refine CW.region ?_
  refine RL.callP rfl hH (c_dia _) (run_call0 Tryd.call88) ?_
  intro w1 hH2
  refine RL.callP rfl hH2 (c_hasse_Join _ _ _  _ (hT.hp hH2)) (run_call3 Tryd.call19 rfl (show _ = I 1 from rfl) (show _ = I 2 from rfl)) ?_
  intro w3 hH4
  refine RL.val rfl (run_move (by conv => lhs; whnf)) ?_
  refine RL.val rfl (run_extract rfl (v := I _) rfl) ?_
  refine RL.val rfl (run_extract rfl (v := B _) rfl) ?_
  refine RL.val rfl (run_assign (v := I _) rfl) ?_
  refine RL.val rfl (run_assign (v := B _) rfl) ?_
  refine RL.nil ?_
  refine CW.seq ?_
  refine CW.region ?_
  refine RL.callP rfl hH4 (c_dia _) (run_call0 Tryd.call88) ?_
  intro w6 hH7
  refine RL.callP rfl hH7 (c_hasse_Meet _ _ _  _ (hT.hp hH7)) (run_call3 Tryd.call21 rfl (show _ = I 1 from rfl) (show _ = I 2 from rfl)) ?_
  intro w8 hH9
  refine RL.val rfl (run_move (by conv => lhs; whnf)) ?_
  refine RL.val rfl (run_extract rfl (v := I _) rfl) ?_
  refine RL.val rfl (run_extract rfl (v := B _) rfl) ?_
  refine RL.val rfl (run_assign (v := I _) rfl) ?_
  refine RL.val rfl (run_assign (v := B _) rfl) ?_
  refine RL.nil ?_
  refine CW.seq ?_
  refine CW.region ?_
  refine RL.val rfl (run_move (v := B _) rfl) ?_
  refine RL.val rfl (run_move (v := B _) rfl) ?_
  refine RL.gT rfl (bR (c := true) (by decide +kernel)) ?_
  refine RL.val rfl (run_move (v := I _) rfl) ?_
  refine RL.gT rfl (bR (c := true) (by decide +kernel)) ?_
  refine RL.val rfl (run_eql rfl rfl) ?_
  refine RL.val rfl (run_pickT (bR (c := true) (by decide +kernel)) (v := B _) rfl) ?_
  refine RL.val rfl (run_move (v := B _) rfl) ?_
  refine RL.gT rfl (bT (by decide +kernel)) ?_
  refine RL.val rfl (run_move (v := B _) rfl) ?_
  refine RL.val rfl (run_pickT (bT (by decide +kernel)) (v := B _) rfl) ?_
  refine RL.val rfl (run_move (v := B _) rfl) ?_
  refine RL.gT rfl (bR (c := true) (by decide +kernel)) ?_
  refine RL.val rfl (run_move (v := I _) rfl) ?_
  refine RL.gT rfl (bR (c := true) (by decide +kernel)) ?_
  refine RL.val rfl (run_eql rfl rfl) ?_
  refine RL.val rfl (run_pickT (bR (c := true) (by decide +kernel)) (v := B _) rfl) ?_
  refine RL.val rfl (run_move (v := B _) rfl) ?_
  refine RL.gT rfl (bT (by decide +kernel)) ?_
  refine RL.callP rfl hH9 (c_dia _) (run_call0 Tryd.call88) ?_
  intro w13 hH14
  refine RL.gT rfl (bT (by decide +kernel)) ?_
  refine RL.callP rfl hH14 (c_hasse_Lattice _  _ (hT.hp hH14)) (run_call1 Tryd.call47 rfl) ?_
  intro w15 hH16
  refine RL.val rfl (run_pickT (bT (by decide +kernel)) (v := B _) rfl) ?_
  refine RL.val rfl (run_assign (v := B _) rfl) ?_
  refine RL.nil ?_
  refine CW.ret ?_
  refine outP1 Tryd.results23 (congrArg B ?_) hH16.below
  rfl

theorem c_clearancelaw06_HasseBounds (r : Rl) (a b : Int) (w : World) (hT : Tab w) : Calls Tryd.prog 3 #[.agg (relC r), .agg #[I a, I b]] w (Pure (B true) w) := by
  refine enter Tryd.func3 rfl Tryd.ntmps3 rfl ?_
  have hH := Hp.start w
  refine CW.seq ?_
  refine CW.region ?_
  refine RL.new rfl hH (f := fun b => (.pointer (some ⟨b, 0, none⟩))) (run_box (v := .agg _) rfl) ?_
  intro b3 w1 hH2
  refine RL.new rfl hH2 (f := fun b => (.pointer (some ⟨b, 0, none⟩))) (run_box (v := .agg _) rfl) ?_
  intro b6 w4 hH5
  refine RL.val rfl (run_assign (v := B false) rfl) ?_
  refine RL.nil ?_
  refine CW.seq ?_
  refine CW.region ?_
  refine RL.val rfl (run_ldRel Tryd.underlying25 rfl rfl rfl (hH5.blk (i := 1) rfl)) ?_
  refine RL.val rfl (run_fieldAddr Tryd.underlying27 rfl (off := 0) rfl Tryd.sizeOf3 (by decide) rfl) ?_
  refine RL.val rfl (run_ld Tryd.underlying3 rfl rfl (hH5.cell (i := 0) rfl (v := I _) rfl)) ?_
  refine RL.val rfl (run_fieldAddr Tryd.underlying27 rfl (off := 1) rfl Tryd.sizeOf3 (by decide) rfl) ?_
  refine RL.val rfl (run_ld Tryd.underlying3 rfl rfl (hH5.cell (i := 0) rfl (v := I _) rfl)) ?_
  refine RL.callP rfl hH5 (c_hasse_Join _ _ _  _ (hT.hp hH5)) (run_call3 Tryd.call19 rfl rfl rfl) ?_
  intro w7 hH8
  refine RL.val rfl (run_move (by conv => lhs; whnf)) ?_
  refine RL.val rfl (run_extract rfl (v := I _) rfl) ?_
  refine RL.val rfl (run_extract rfl (v := B _) rfl) ?_
  refine RL.val rfl (run_assign (v := I _) rfl) ?_
  refine RL.val rfl (run_assign (v := B _) rfl) ?_
  refine RL.nil ?_
  refine CW.seq ?_
  refine CW.region ?_
  refine RL.val rfl (run_ldRel Tryd.underlying25 rfl rfl rfl (hH8.blk (i := 1) rfl)) ?_
  refine RL.val rfl (run_fieldAddr Tryd.underlying27 rfl (off := 0) rfl Tryd.sizeOf3 (by decide) rfl) ?_
  refine RL.val rfl (run_ld Tryd.underlying3 rfl rfl (hH8.cell (i := 0) rfl (v := I _) rfl)) ?_
  refine RL.val rfl (run_fieldAddr Tryd.underlying27 rfl (off := 1) rfl Tryd.sizeOf3 (by decide) rfl) ?_
  refine RL.val rfl (run_ld Tryd.underlying3 rfl rfl (hH8.cell (i := 0) rfl (v := I _) rfl)) ?_
  refine RL.callP rfl hH8 (c_clearanceref06_Join _ _ _  _) (run_call3 Tryd.call20 rfl rfl rfl) ?_
  intro w10 hH11
  refine RL.val rfl (run_move (by conv => lhs; whnf)) ?_
  refine RL.val rfl (run_extract rfl (v := I _) rfl) ?_
  refine RL.val rfl (run_extract rfl (v := B _) rfl) ?_
  refine RL.val rfl (run_assign (v := I _) rfl) ?_
  refine RL.val rfl (run_assign (v := B _) rfl) ?_
  refine RL.nil ?_
  refine CW.seq ?_
  refine CW.region ?_
  refine RL.val rfl (run_ldRel Tryd.underlying25 rfl rfl rfl (hH11.blk (i := 1) rfl)) ?_
  refine RL.val rfl (run_fieldAddr Tryd.underlying27 rfl (off := 0) rfl Tryd.sizeOf3 (by decide) rfl) ?_
  refine RL.val rfl (run_ld Tryd.underlying3 rfl rfl (hH11.cell (i := 0) rfl (v := I _) rfl)) ?_
  refine RL.val rfl (run_fieldAddr Tryd.underlying27 rfl (off := 1) rfl Tryd.sizeOf3 (by decide) rfl) ?_
  refine RL.val rfl (run_ld Tryd.underlying3 rfl rfl (hH11.cell (i := 0) rfl (v := I _) rfl)) ?_
  refine RL.callP rfl hH11 (c_hasse_Meet _ _ _  _ (hT.hp hH11)) (run_call3 Tryd.call21 rfl rfl rfl) ?_
  intro w13 hH14
  refine RL.val rfl (run_move (by conv => lhs; whnf)) ?_
  refine RL.val rfl (run_extract rfl (v := I _) rfl) ?_
  refine RL.val rfl (run_extract rfl (v := B _) rfl) ?_
  refine RL.val rfl (run_assign (v := I _) rfl) ?_
  refine RL.val rfl (run_assign (v := B _) rfl) ?_
  refine RL.nil ?_
  refine CW.seq ?_
  refine CW.region ?_
  refine RL.val rfl (run_ldRel Tryd.underlying25 rfl rfl rfl (hH14.blk (i := 1) rfl)) ?_
  refine RL.val rfl (run_fieldAddr Tryd.underlying27 rfl (off := 0) rfl Tryd.sizeOf3 (by decide) rfl) ?_
  refine RL.val rfl (run_ld Tryd.underlying3 rfl rfl (hH14.cell (i := 0) rfl (v := I _) rfl)) ?_
  refine RL.val rfl (run_fieldAddr Tryd.underlying27 rfl (off := 1) rfl Tryd.sizeOf3 (by decide) rfl) ?_
  refine RL.val rfl (run_ld Tryd.underlying3 rfl rfl (hH14.cell (i := 0) rfl (v := I _) rfl)) ?_
  refine RL.callP rfl hH14 (c_clearanceref06_Meet _ _ _  _) (run_call3 Tryd.call22 rfl rfl rfl) ?_
  intro w16 hH17
  refine RL.val rfl (run_move (by conv => lhs; whnf)) ?_
  refine RL.val rfl (run_extract rfl (v := I _) rfl) ?_
  refine RL.val rfl (run_extract rfl (v := B _) rfl) ?_
  refine RL.val rfl (run_assign (v := I _) rfl) ?_
  refine RL.val rfl (run_assign (v := B _) rfl) ?_
  refine RL.nil ?_
  refine CW.seq ?_
  refine CW.region ?_
  refine RL.val rfl (run_move (v := I _) rfl) ?_
  refine RL.val rfl (run_move (v := I _) rfl) ?_
  refine RL.val rfl (run_eql rfl rfl) ?_
  refine RL.val rfl (run_move (v := B _) rfl) ?_
  refine RL.gT rfl (bT (rfl)) ?_
  refine RL.val rfl (run_move (v := B _) rfl) ?_
  refine RL.gT rfl (bT (rfl)) ?_
  refine RL.val rfl (run_move (v := B _) rfl) ?_
  refine RL.gT rfl (bT (rfl)) ?_
  refine RL.val rfl (run_eqlB Tryd.underlying4 rfl rfl) ?_
  refine RL.val rfl (run_pickT (bT (rfl)) (v := B _) rfl) ?_
  refine RL.val rfl (run_move (v := B _) rfl) ?_
  refine RL.gT rfl (bR (c := true) (beq_self_eq_true _)) ?_
  refine RL.val rfl (run_move (v := I _) rfl) ?_
  refine RL.gT rfl (bR (c := true) (beq_self_eq_true _)) ?_
  refine RL.val rfl (run_move (v := I _) rfl) ?_
  refine RL.gT rfl (bR (c := true) (beq_self_eq_true _)) ?_
  refine RL.val rfl (run_eql rfl rfl) ?_
  refine RL.val rfl (run_pickT (bR (c := true) (beq_self_eq_true _)) (v := B _) rfl) ?_
  refine RL.val rfl (run_move (v := B _) rfl) ?_
  refine RL.gT rfl (bT (rfl)) ?_
  refine RL.val rfl (run_move (v := B _) rfl) ?_
  refine RL.gT rfl (bT (rfl)) ?_
  refine RL.val rfl (run_move (v := B _) rfl) ?_
  refine RL.gT rfl (bT (rfl)) ?_
  refine RL.val rfl (run_eqlB Tryd.underlying4 rfl rfl) ?_
  refine RL.val rfl (run_pickT (bT (rfl)) (v := B _) rfl) ?_
  refine RL.val rfl (run_move (v := B _) rfl) ?_
  refine RL.gT rfl (bR (c := true) (beq_self_eq_true _)) ?_
  refine RL.callP rfl hH17 (c_clearancelaw06_alive   _ (hT.hp hH17)) (run_call0 Tryd.call23) ?_
  intro w23 hH24
  refine RL.val rfl (run_pickT (bR (c := true) (beq_self_eq_true _)) (v := B _) rfl) ?_
  refine RL.val rfl (run_assign (v := B _) rfl) ?_
  refine RL.nil ?_
  refine CW.ret ?_
  refine outP1 Tryd.results3 (congrArg B ?_) hH24.below
  rfl

theorem c_clearancelaw06_HasseTells (r : Rl) (w : World) (hT : Tab w) : Calls Tryd.prog 8 #[.agg (relC r)] w (Pure (B true) w) := by
  refine enter Tryd.func8 rfl Tryd.ntmps8 rfl ?_
  have hH := Hp.start w
  refine CW.seq ?_
  refine CW.region ?_
  refine RL.new rfl hH (f := fun b => (.pointer (some ⟨b, 0, none⟩))) (run_box (v := .agg _) rfl) ?_
  intro b3 w1 hH2
  refine RL.val rfl (run_assign (v := B false) rfl) ?_
  refine RL.nil ?_
  refine CW.seq ?_
  refine CW.region ?_
  refine RL.val rfl (run_ldRel Tryd.underlying25 rfl rfl rfl (hH2.blk (i := 0) rfl)) ?_
  refine RL.callP rfl hH2 (c_hasse_Bottom _  _ (hT.hp hH2)) (run_call1 Tryd.call44 rfl) ?_
  intro w4 hH5
  refine RL.val rfl (run_move (by conv => lhs; whnf)) ?_
  refine RL.val rfl (run_extract rfl (v := I _) rfl) ?_
  refine RL.val rfl (run_extract rfl (v := B _) rfl) ?_
  refine RL.val rfl (run_assign (v := I _) rfl) ?_
  refine RL.val rfl (run_assign (v := B _) rfl) ?_
  refine RL.nil ?_
  refine CW.seq ?_
  refine CW.region ?_
  refine RL.val rfl (run_ldRel Tryd.underlying25 rfl rfl rfl (hH5.blk (i := 0) rfl)) ?_
  refine RL.callP rfl hH5 (c_clearanceref06_End _ _  _) (run_call2 Tryd.call45 rfl (show _ = B false from rfl)) ?_
  intro w7 hH8
  refine RL.val rfl (run_move (by conv => lhs; whnf)) ?_
  refine RL.val rfl (run_extract rfl (v := I _) rfl) ?_
  refine RL.val rfl (run_extract rfl (v := B _) rfl) ?_
  refine RL.val rfl (run_assign (v := I _) rfl) ?_
  refine RL.val rfl (run_assign (v := B _) rfl) ?_
  refine RL.nil ?_
  refine CW.seq ?_
  refine CW.region ?_
  refine RL.val rfl (run_ldRel Tryd.underlying25 rfl rfl rfl (hH8.blk (i := 0) rfl)) ?_
  refine RL.callP rfl hH8 (c_hasse_Top _  _ (hT.hp hH8)) (run_call1 Tryd.call46 rfl) ?_
  intro w10 hH11
  refine RL.val rfl (run_move (by conv => lhs; whnf)) ?_
  refine RL.val rfl (run_extract rfl (v := I _) rfl) ?_
  refine RL.val rfl (run_extract rfl (v := B _) rfl) ?_
  refine RL.val rfl (run_assign (v := I _) rfl) ?_
  refine RL.val rfl (run_assign (v := B _) rfl) ?_
  refine RL.nil ?_
  refine CW.seq ?_
  refine CW.region ?_
  refine RL.val rfl (run_ldRel Tryd.underlying25 rfl rfl rfl (hH11.blk (i := 0) rfl)) ?_
  refine RL.callP rfl hH11 (c_clearanceref06_End _ _  _) (run_call2 Tryd.call45 rfl (show _ = B true from rfl)) ?_
  intro w13 hH14
  refine RL.val rfl (run_move (by conv => lhs; whnf)) ?_
  refine RL.val rfl (run_extract rfl (v := I _) rfl) ?_
  refine RL.val rfl (run_extract rfl (v := B _) rfl) ?_
  refine RL.val rfl (run_assign (v := I _) rfl) ?_
  refine RL.val rfl (run_assign (v := B _) rfl) ?_
  refine RL.nil ?_
  refine CW.seq ?_
  refine CW.regionD (by kernel_rfl) hH14 ?_
  intro w16 hH17
  refine AN.take 0 rfl rfl (by kernel_rfl) (by kernel_rfl) (by kernel_rfl) (hH17.sub (List.Sublist.refl _)) (fun w hS => run_ldRel Tryd.underlying25 rfl rfl rfl (hS.blk (i := 0) rfl)) ?_
  refine AN.take 2 rfl rfl (by kernel_rfl) (by kernel_rfl) (by kernel_rfl) (hH17.sub (List.Sublist.refl _)) (fun w hS => run_ldRel Tryd.underlying25 rfl rfl rfl (hS.blk (i := 0) rfl)) ?_
  refine AN.one 1 (by kernel_rfl) ?_
  refine AO.callP rfl gnone rfl hH17 (List.Sublist.refl _) (c_hasse_Lattice _  _ (hT.hp hH17)) (run_call1 Tryd.call47 rfl) ?_
  intro w18 hH19
  refine AN.one 3 (by kernel_rfl) ?_
  refine AO.callP rfl gnone rfl hH19 (List.Sublist.refl _) (c_clearanceref06_Lattice _  _) (run_call1 Tryd.call48 rfl) ?_
  intro w21 hH22
  refine AN.take 4 rfl rfl (by kernel_rfl) (by kernel_rfl) (by kernel_rfl) (hH22.sub (List.Sublist.refl _)) (fun w hS => run_eqlB Tryd.underlying4 rfl rfl) ?_
  refine AN.take 5 rfl rfl (by kernel_rfl) (by kernel_rfl) (by kernel_rfl) (hH22.sub (List.Sublist.refl _)) (fun w hS => run_move (v := B _) rfl) ?_
  refine AN.takeG 6 rfl rfl (bR (c := true) (beq_self_eq_true _)) rfl (by kernel_rfl) (by kernel_rfl) (by kernel_rfl) (hH22.sub (List.Sublist.refl _)) (fun w hS => run_move (v := I _) rfl) ?_
  refine AN.takeG 7 rfl rfl (bR (c := true) (beq_self_eq_true _)) rfl (by kernel_rfl) (by kernel_rfl) (by kernel_rfl) (hH22.sub (List.Sublist.refl _)) (fun w hS => run_move (v := I _) rfl) ?_
  refine AN.takeG 8 rfl rfl (bR (c := true) (beq_self_eq_true _)) rfl (by kernel_rfl) (by kernel_rfl) (by kernel_rfl) (hH22.sub (List.Sublist.refl _)) (fun w hS => run_eql rfl rfl) ?_
  refine AN.take 9 rfl rfl (by kernel_rfl) (by kernel_rfl) (by kernel_rfl) (hH22.sub (List.Sublist.refl _)) (fun w hS => run_pickT (bR (c := true) (beq_self_eq_true _)) (v := B _) rfl) ?_
  refine AN.take 10 rfl rfl (by kernel_rfl) (by kernel_rfl) (by kernel_rfl) (hH22.sub (List.Sublist.refl _)) (fun w hS => run_move (v := B _) rfl) ?_
  refine AN.takeG 11 rfl rfl (bT (rfl)) rfl (by kernel_rfl) (by kernel_rfl) (by kernel_rfl) (hH22.sub (List.Sublist.refl _)) (fun w hS => run_move (v := B _) rfl) ?_
  refine AN.takeG 12 rfl rfl (bT (rfl)) rfl (by kernel_rfl) (by kernel_rfl) (by kernel_rfl) (hH22.sub (List.Sublist.refl _)) (fun w hS => run_move (v := B _) rfl) ?_
  refine AN.takeG 13 rfl rfl (bT (rfl)) rfl (by kernel_rfl) (by kernel_rfl) (by kernel_rfl) (hH22.sub (List.Sublist.refl _)) (fun w hS => run_eqlB Tryd.underlying4 rfl rfl) ?_
  refine AN.take 14 rfl rfl (by kernel_rfl) (by kernel_rfl) (by kernel_rfl) (hH22.sub (List.Sublist.refl _)) (fun w hS => run_pickT (bT (rfl)) (v := B _) rfl) ?_
  refine AN.take 15 rfl rfl (by kernel_rfl) (by kernel_rfl) (by kernel_rfl) (hH22.sub (List.Sublist.refl _)) (fun w hS => run_move (v := B _) rfl) ?_
  refine AN.takeG 16 rfl rfl (bR (c := true) (beq_self_eq_true _)) rfl (by kernel_rfl) (by kernel_rfl) (by kernel_rfl) (hH22.sub (List.Sublist.refl _)) (fun w hS => run_move (v := I _) rfl) ?_
  refine AN.takeG 17 rfl rfl (bR (c := true) (beq_self_eq_true _)) rfl (by kernel_rfl) (by kernel_rfl) (by kernel_rfl) (hH22.sub (List.Sublist.refl _)) (fun w hS => run_move (v := I _) rfl) ?_
  refine AN.takeG 18 rfl rfl (bR (c := true) (beq_self_eq_true _)) rfl (by kernel_rfl) (by kernel_rfl) (by kernel_rfl) (hH22.sub (List.Sublist.refl _)) (fun w hS => run_eql rfl rfl) ?_
  refine AN.take 19 rfl rfl (by kernel_rfl) (by kernel_rfl) (by kernel_rfl) (hH22.sub (List.Sublist.refl _)) (fun w hS => run_pickT (bR (c := true) (beq_self_eq_true _)) (v := B _) rfl) ?_
  refine AN.take 20 rfl rfl (by kernel_rfl) (by kernel_rfl) (by kernel_rfl) (hH22.sub (List.Sublist.refl _)) (fun w hS => run_move (v := B _) rfl) ?_
  refine AN.takeG 21 rfl rfl (bT (rfl)) rfl (by kernel_rfl) (by kernel_rfl) (by kernel_rfl) (hH22.sub (List.Sublist.refl _)) (fun w hS => run_move (v := B _) rfl) ?_
  refine AN.takeG 22 rfl rfl (bT (rfl)) rfl (by kernel_rfl) (by kernel_rfl) (by kernel_rfl) (hH22.sub (List.Sublist.refl _)) (fun w hS => run_move (v := B _) rfl) ?_
  refine AN.takeG 23 rfl rfl (bT (rfl)) rfl (by kernel_rfl) (by kernel_rfl) (by kernel_rfl) (hH22.sub (List.Sublist.refl _)) (fun w hS => run_eqlB Tryd.underlying4 rfl rfl) ?_
  refine AN.take 24 rfl rfl (by kernel_rfl) (by kernel_rfl) (by kernel_rfl) (hH22.sub (List.Sublist.refl _)) (fun w hS => run_pickT (bT (rfl)) (v := B _) rfl) ?_
  refine AN.take 25 rfl rfl (by kernel_rfl) (by kernel_rfl) (by kernel_rfl) (hH22.sub (List.Sublist.refl _)) (fun w hS => run_move (v := B _) rfl) ?_
  refine AN.one 26 (by kernel_rfl) ?_
  refine AO.callP rfl (gsome rfl (bR (c := true) (beq_self_eq_true _))) rfl hH22 (List.Sublist.refl _) (c_clearancelaw06_alive   _ (hT.hp hH22)) (run_call0 Tryd.call23) ?_
  intro w29 hH30
  refine AN.take 27 rfl rfl (by kernel_rfl) (by kernel_rfl) (by kernel_rfl) (hH30.sub (List.Sublist.refl _)) (fun w hS => run_pickT (bR (c := true) (beq_self_eq_true _)) (v := B _) rfl) ?_
  refine AN.take 28 rfl rfl (by kernel_rfl) (by kernel_rfl) (by kernel_rfl) (hH30.sub (List.Sublist.refl _)) (fun w hS => run_assign (v := B _) rfl) ?_
  refine AN.done (by kernel_rfl) ?_
  refine CW.ret ?_
  refine outP1 Tryd.results8 (congrArg B ?_) hH30.below
  rfl

theorem c_clearancelaw06_HasseWords (r : Rl) (a b : BitVec 64) (i : Int) (w : World) (hT : Tab w) : Calls Tryd.prog 11 #[.agg (relC r), .agg #[U a, U b], I i] w (Pure (B true) w) := by
  refine enter Tryd.func11 rfl Tryd.ntmps11 rfl ?_
  have hH := Hp.start w
  refine CW.seq ?_
  refine CW.region ?_
  refine RL.new rfl hH (f := fun b => (.pointer (some ⟨b, 0, none⟩))) (run_box (v := .agg _) rfl) ?_
  intro b3 w1 hH2
  refine RL.new rfl hH2 (f := fun b => (.pointer (some ⟨b, 0, none⟩))) (run_box (v := .agg _) rfl) ?_
  intro b6 w4 hH5
  refine RL.val rfl (run_assign (v := B false) rfl) ?_
  refine RL.nil ?_
  refine CW.seq ?_
  refine CW.region ?_
  refine RL.val rfl (run_ldRel Tryd.underlying25 rfl rfl rfl (hH5.blk (i := 1) rfl)) ?_
  refine RL.val rfl (run_indexAddrA Tryd.underlying58 Tryd.sizeOf22 rfl rfl (by omega)) ?_
  refine RL.val rfl (run_ld Tryd.underlying22 rfl rfl (hH5.cell (i := 0) rfl (v := U _) rfl)) ?_
  refine RL.callP rfl hH5 (c_hasse_Point _ _  _ (hT.hp hH5)) (run_call2 Tryd.call54 rfl rfl) ?_
  intro w7 hH8
  refine RL.val rfl (run_move (by conv => lhs; whnf)) ?_
  refine RL.val rfl (run_extract rfl (v := I _) rfl) ?_
  refine RL.val rfl (run_extract rfl (v := B _) rfl) ?_
  refine RL.val rfl (run_assign (v := I _) rfl) ?_
  refine RL.val rfl (run_assign (v := B _) rfl) ?_
  refine RL.nil ?_
  refine CW.seq ?_
  refine CW.region ?_
  refine RL.val rfl (run_ldRel Tryd.underlying25 rfl rfl rfl (hH8.blk (i := 1) rfl)) ?_
  refine RL.val rfl (run_indexAddrA Tryd.underlying58 Tryd.sizeOf22 rfl rfl (by omega)) ?_
  refine RL.val rfl (run_ld Tryd.underlying22 rfl rfl (hH8.cell (i := 0) rfl (v := U _) rfl)) ?_
  refine RL.callP rfl hH8 (c_clearanceref06_Point _ _  _) (run_call2 Tryd.call55 rfl rfl) ?_
  intro w10 hH11
  refine RL.val rfl (run_move (by conv => lhs; whnf)) ?_
  refine RL.val rfl (run_extract rfl (v := I _) rfl) ?_
  refine RL.val rfl (run_extract rfl (v := B _) rfl) ?_
  refine RL.val rfl (run_assign (v := I _) rfl) ?_
  refine RL.val rfl (run_assign (v := B _) rfl) ?_
  refine RL.nil ?_
  refine CW.seq ?_
  refine CW.regionD (by kernel_rfl) hH11 ?_
  intro w13 hH14
  refine AN.take 0 rfl rfl (by kernel_rfl) (by kernel_rfl) (by kernel_rfl) (hH14.sub (List.Sublist.refl _)) (fun w hS => run_ldRel Tryd.underlying25 rfl rfl rfl (hS.blk (i := 1) rfl)) ?_
  refine AN.take 1 rfl rfl (by kernel_rfl) (by kernel_rfl) (by kernel_rfl) (hH14.sub (List.Sublist.refl _)) (fun w hS => run_move (v := I _) rfl) ?_
  refine AN.take 3 rfl rfl (by kernel_rfl) (by kernel_rfl) (by kernel_rfl) (hH14.sub (List.Sublist.refl _)) (fun w hS => run_ldRel Tryd.underlying25 rfl rfl rfl (hS.blk (i := 1) rfl)) ?_
  refine AN.take 4 rfl rfl (by kernel_rfl) (by kernel_rfl) (by kernel_rfl) (hH14.sub (List.Sublist.refl _)) (fun w hS => run_move (v := I _) rfl) ?_
  refine AN.one 2 (by kernel_rfl) ?_
  refine AO.callP rfl gnone rfl hH14 (List.Sublist.refl _) (c_hasse_Word _ _  _ (hT.hp hH14)) (run_call2 Tryd.call56 rfl rfl) ?_
  intro w15 hH16
  refine AN.one 5 (by kernel_rfl) ?_
  refine AO.callP rfl gnone rfl hH16 (List.Sublist.refl _) (c_clearanceref06_Word _ _  _) (run_call2 Tryd.call57 rfl rfl) ?_
  intro w17 hH18
  refine AN.take 6 rfl rfl (by kernel_rfl) (by kernel_rfl) (by kernel_rfl) (hH18.sub (List.Sublist.refl _)) (fun w hS => run_eqlU rfl rfl) ?_
  refine AN.take 7 rfl rfl (by kernel_rfl) (by kernel_rfl) (by kernel_rfl) (hH18.sub (List.Sublist.refl _)) (fun w hS => run_move (v := B _) rfl) ?_
  refine AN.takeG 8 rfl rfl (bT (rfl)) rfl (by kernel_rfl) (by kernel_rfl) (by kernel_rfl) (hH18.sub (List.Sublist.refl _)) (fun w hS => run_move (v := I _) rfl) ?_
  refine AN.takeG 9 rfl rfl (bT (rfl)) rfl (by kernel_rfl) (by kernel_rfl) (by kernel_rfl) (hH18.sub (List.Sublist.refl _)) (fun w hS => run_move (v := I _) rfl) ?_
  refine AN.takeG 10 rfl rfl (bT (rfl)) rfl (by kernel_rfl) (by kernel_rfl) (by kernel_rfl) (hH18.sub (List.Sublist.refl _)) (fun w hS => run_eql rfl rfl) ?_
  refine AN.take 11 rfl rfl (by kernel_rfl) (by kernel_rfl) (by kernel_rfl) (hH18.sub (List.Sublist.refl _)) (fun w hS => run_pickT (bT (rfl)) (v := B _) rfl) ?_
  refine AN.take 12 rfl rfl (by kernel_rfl) (by kernel_rfl) (by kernel_rfl) (hH18.sub (List.Sublist.refl _)) (fun w hS => run_move (v := B _) rfl) ?_
  refine AN.takeG 13 rfl rfl (bT (rfl)) rfl (by kernel_rfl) (by kernel_rfl) (by kernel_rfl) (hH18.sub (List.Sublist.refl _)) (fun w hS => run_move (v := B _) rfl) ?_
  refine AN.takeG 14 rfl rfl (bT (rfl)) rfl (by kernel_rfl) (by kernel_rfl) (by kernel_rfl) (hH18.sub (List.Sublist.refl _)) (fun w hS => run_move (v := B _) rfl) ?_
  refine AN.takeG 15 rfl rfl (bT (rfl)) rfl (by kernel_rfl) (by kernel_rfl) (by kernel_rfl) (hH18.sub (List.Sublist.refl _)) (fun w hS => run_eqlB Tryd.underlying4 rfl rfl) ?_
  refine AN.take 16 rfl rfl (by kernel_rfl) (by kernel_rfl) (by kernel_rfl) (hH18.sub (List.Sublist.refl _)) (fun w hS => run_pickT (bT (rfl)) (v := B _) rfl) ?_
  refine AN.take 17 rfl rfl (by kernel_rfl) (by kernel_rfl) (by kernel_rfl) (hH18.sub (List.Sublist.refl _)) (fun w hS => run_move (v := B _) rfl) ?_
  refine AN.takeG 18 rfl rfl (bR (c := true) (beq_self_eq_true _)) rfl (by kernel_rfl) (by kernel_rfl) (by kernel_rfl) (hH18.sub (List.Sublist.refl _)) (fun w hS => run_ldRel Tryd.underlying25 rfl rfl rfl (hS.blk (i := 1) rfl)) ?_
  refine AN.takeG 19 rfl rfl (bR (c := true) (beq_self_eq_true _)) rfl (by kernel_rfl) (by kernel_rfl) (by kernel_rfl) (hH18.sub (List.Sublist.refl _)) (fun w hS => run_indexAddrA Tryd.underlying58 Tryd.sizeOf22 rfl rfl (by omega)) ?_
  refine AN.takeG 20 rfl rfl (bR (c := true) (beq_self_eq_true _)) rfl (by kernel_rfl) (by kernel_rfl) (by kernel_rfl) (hH18.sub (List.Sublist.refl _)) (fun w hS => run_ld Tryd.underlying22 rfl rfl (hS.cell (i := 0) rfl (v := U _) rfl)) ?_
  refine AN.takeG 21 rfl rfl (bR (c := true) (beq_self_eq_true _)) rfl (by kernel_rfl) (by kernel_rfl) (by kernel_rfl) (hH18.sub (List.Sublist.refl _)) (fun w hS => run_indexAddrA Tryd.underlying58 Tryd.sizeOf22 rfl rfl (by omega)) ?_
  refine AN.takeG 22 rfl rfl (bR (c := true) (beq_self_eq_true _)) rfl (by kernel_rfl) (by kernel_rfl) (by kernel_rfl) (hH18.sub (List.Sublist.refl _)) (fun w hS => run_ld Tryd.underlying22 rfl rfl (hS.cell (i := 0) rfl (v := U _) rfl)) ?_
  refine AN.takeG 24 rfl rfl (bR (c := true) (beq_self_eq_true _)) rfl (by kernel_rfl) (by kernel_rfl) (by kernel_rfl) (hH18.sub (List.Sublist.refl _)) (fun w hS => run_ldRel Tryd.underlying25 rfl rfl rfl (hS.blk (i := 1) rfl)) ?_
  refine AN.takeG 25 rfl rfl (bR (c := true) (beq_self_eq_true _)) rfl (by kernel_rfl) (by kernel_rfl) (by kernel_rfl) (hH18.sub (List.Sublist.refl _)) (fun w hS => run_indexAddrA Tryd.underlying58 Tryd.sizeOf22 rfl rfl (by omega)) ?_
  refine AN.takeG 26 rfl rfl (bR (c := true) (beq_self_eq_true _)) rfl (by kernel_rfl) (by kernel_rfl) (by kernel_rfl) (hH18.sub (List.Sublist.refl _)) (fun w hS => run_ld Tryd.underlying22 rfl rfl (hS.cell (i := 0) rfl (v := U _) rfl)) ?_
  refine AN.takeG 27 rfl rfl (bR (c := true) (beq_self_eq_true _)) rfl (by kernel_rfl) (by kernel_rfl) (by kernel_rfl) (hH18.sub (List.Sublist.refl _)) (fun w hS => run_indexAddrA Tryd.underlying58 Tryd.sizeOf22 rfl rfl (by omega)) ?_
  refine AN.takeG 28 rfl rfl (bR (c := true) (beq_self_eq_true _)) rfl (by kernel_rfl) (by kernel_rfl) (by kernel_rfl) (hH18.sub (List.Sublist.refl _)) (fun w hS => run_ld Tryd.underlying22 rfl rfl (hS.cell (i := 0) rfl (v := U _) rfl)) ?_
  refine AN.one 23 (by kernel_rfl) ?_
  refine AO.callP rfl (gsome rfl (bR (c := true) (beq_self_eq_true _))) rfl hH18 (List.Sublist.refl _) (c_hasse_Raise _ _ _  _ (hT.hp hH18)) (run_call3 Tryd.call58 rfl rfl rfl) ?_
  intro w22 hH23
  refine AN.one 29 (by kernel_rfl) ?_
  refine AO.callP rfl (gsome rfl (bR (c := true) (beq_self_eq_true _))) rfl hH23 (List.Sublist.refl _) (c_clearanceref06_Raise _ _ _  _) (run_call3 Tryd.call59 rfl rfl rfl) ?_
  intro w24 hH25
  refine AN.takeG 30 rfl rfl (bR (c := true) (beq_self_eq_true _)) rfl (by kernel_rfl) (by kernel_rfl) (by kernel_rfl) (hH25.sub (List.Sublist.refl _)) (fun w hS => run_eqlU rfl rfl) ?_
  refine AN.take 31 rfl rfl (by kernel_rfl) (by kernel_rfl) (by kernel_rfl) (hH25.sub (List.Sublist.refl _)) (fun w hS => run_pickT (bR (c := true) (beq_self_eq_true _)) (v := B _) rfl) ?_
  refine AN.take 32 rfl rfl (by kernel_rfl) (by kernel_rfl) (by kernel_rfl) (hH25.sub (List.Sublist.refl _)) (fun w hS => run_move (v := B _) rfl) ?_
  refine AN.one 33 (by kernel_rfl) ?_
  refine AO.callP rfl (gsome rfl (bT (rfl))) rfl hH25 (List.Sublist.refl _) (c_clearancelaw06_alive   _ (hT.hp hH25)) (run_call0 Tryd.call23) ?_
  intro w27 hH28
  refine AN.take 34 rfl rfl (by kernel_rfl) (by kernel_rfl) (by kernel_rfl) (hH28.sub (List.Sublist.refl _)) (fun w hS => run_pickT (bT (rfl)) (v := B _) rfl) ?_
  refine AN.take 35 rfl rfl (by kernel_rfl) (by kernel_rfl) (by kernel_rfl) (hH28.sub (List.Sublist.refl _)) (fun w hS => run_assign (v := B _) rfl) ?_
  refine AN.done (by kernel_rfl) ?_
  refine CW.ret ?_
  refine outP1 Tryd.results11 (congrArg B ?_) hH28.below
  rfl

theorem c_clearancelaw06_HasseLattice_1 (b : Nat) (r : Rl) (i j : Int) (w : World) (hb : w.heap[b]? = some (.cells (relC r) 25 (0, 0))) (hT : Tab w) : Calls Tryd.prog 49 #[I i, I j, .pointer (some ⟨b, 0, none⟩)] w (Pure (I (joinV r i j).1) w) := by
  refine enter Tryd.func49 rfl Tryd.ntmps49 rfl ?_
  have hH := Hp.start w
  refine CW.seq ?_
  refine CW.region ?_
  refine RL.val rfl (run_assign (v := I 0) rfl) ?_
  refine RL.nil ?_
  refine CW.seq ?_
  refine CW.region ?_
  refine RL.val rfl (run_ldRel Tryd.underlying25 rfl rfl rfl (hH.ext hb)) ?_
  refine RL.val rfl (run_move (v := I _) rfl) ?_
  refine RL.val rfl (run_move (v := I _) rfl) ?_
  refine RL.callP rfl hH (c_hasse_Join _ _ _  _ (hT.hp hH)) (run_call3 Tryd.call19 rfl rfl rfl) ?_
  intro w1 hH2
  refine RL.val rfl (run_move (by conv => lhs; whnf)) ?_
  refine RL.val rfl (run_extract rfl (v := I _) rfl) ?_
  refine RL.val rfl (run_extract rfl (v := B _) rfl) ?_
  refine RL.val rfl (run_assign (v := I _) rfl) ?_
  refine RL.val rfl (run_assign (v := B _) rfl) ?_
  refine RL.nil ?_
  refine CW.seq ?_
  refine CW.region ?_
  refine RL.val rfl (run_move (v := I _) rfl) ?_
  refine RL.val rfl (run_assign (v := I _) rfl) ?_
  refine RL.nil ?_
  refine CW.ret ?_
  refine outP1 Tryd.results49 (congrArg I ?_) hH2.below
  rfl

theorem c_clearancelaw06_HasseLattice_2 (b : Nat) (r : Rl) (i j : Int) (w : World) (hb : w.heap[b]? = some (.cells (relC r) 25 (0, 0))) (hT : Tab w) : Calls Tryd.prog 50 #[I i, I j, .pointer (some ⟨b, 0, none⟩)] w (Pure (I (meetV r i j).1) w) := by
  refine enter Tryd.func50 rfl Tryd.ntmps50 rfl ?_
  have hH := Hp.start w
  refine CW.seq ?_
  refine CW.region ?_
  refine RL.val rfl (run_assign (v := I 0) rfl) ?_
  refine RL.nil ?_
  refine CW.seq ?_
  refine CW.region ?_
  refine RL.val rfl (run_ldRel Tryd.underlying25 rfl rfl rfl (hH.ext hb)) ?_
  refine RL.val rfl (run_move (v := I _) rfl) ?_
  refine RL.val rfl (run_move (v := I _) rfl) ?_
  refine RL.callP rfl hH (c_hasse_Meet _ _ _  _ (hT.hp hH)) (run_call3 Tryd.call21 rfl rfl rfl) ?_
  intro w1 hH2
  refine RL.val rfl (run_move (by conv => lhs; whnf)) ?_
  refine RL.val rfl (run_extract rfl (v := I _) rfl) ?_
  refine RL.val rfl (run_extract rfl (v := B _) rfl) ?_
  refine RL.val rfl (run_assign (v := I _) rfl) ?_
  refine RL.val rfl (run_assign (v := B _) rfl) ?_
  refine RL.nil ?_
  refine CW.seq ?_
  refine CW.region ?_
  refine RL.val rfl (run_move (v := I _) rfl) ?_
  refine RL.val rfl (run_assign (v := I _) rfl) ?_
  refine RL.nil ?_
  refine CW.ret ?_
  refine outP1 Tryd.results50 (congrArg I ?_) hH2.below
  rfl

theorem c_clearancelaw06_HasseLattice (r : Rl) (a b c : Int) (w : World) (hT : Tab w) : Calls Tryd.prog 9 #[.agg (relC r), .agg #[I a, I b, I c]] w (Pure (B true) w) := by
  refine enter Tryd.func9 rfl Tryd.ntmps9 rfl ?_
  have hH := Hp.start w
  refine CW.seq ?_
  refine CW.region ?_
  refine RL.new rfl hH (f := fun b => (.pointer (some ⟨b, 0, none⟩))) (run_box (v := .agg _) rfl) ?_
  intro b3 w1 hH2
  refine RL.new rfl hH2 (f := fun b => (.pointer (some ⟨b, 0, none⟩))) (run_box (v := .agg _) rfl) ?_
  intro b6 w4 hH5
  refine RL.val rfl (run_assign (v := B false) rfl) ?_
  refine RL.nil ?_
  refine CW.seq ?_
  refine CW.seq ?_
  refine CW.region ?_
  refine RL.val rfl (run_ldRel Tryd.underlying25 rfl rfl rfl (hH5.blk (i := 1) rfl)) ?_
  refine RL.callP rfl hH5 (c_hasse_Lattice _  _ (hT.hp hH5)) (run_call1 Tryd.call47 rfl) ?_
  intro w7 hH8
  refine RL.val rfl (run_not rfl) ?_
  refine RL.nil ?_
  refine CW.cond rfl (fun h11 => ?_) (fun h11 => ?_)
  · refine CW.seq ?_
    refine CW.region ?_
    refine RL.callP rfl hH8 (c_clearancelaw06_alive   _ (hT.hp hH8)) (run_call0 Tryd.call23) ?_
    intro w12 hH13
    refine RL.val rfl (run_assign (v := B _) rfl) ?_
    refine RL.nil ?_
    refine CW.ret ?_
    refine outP1 Tryd.results9 (congrArg B ?_) hH13.below
    rfl
  · refine CW.skip ?_
    refine CW.seq ?_
    refine CW.seq ?_
    refine CW.region ?_
    refine RL.val rfl (run_ldA (cs := [I _, I _, I _]) Tryd.underlying51 rfl rfl rfl (rangeAt_cells (hH8.blk (i := 0) rfl))) ?_
    refine RL.val rfl (run_move (v := I 0) rfl) ?_
    refine RL.nil ?_
    refine CW.block ?_
    have hL : latB r = true := nf ‹_›
    refine CW.loop (G := (Int)) (fun (k : Int) s' w' => (Fr [4, 6, 21, 22, 23, 24, 25, 26, 27, 28, 29, 30, 31, 32, 33] _ s') ∧ (Hp w w' _) ∧ (s' 21 = I k) ∧ (0 ≤ k) ∧ (k ≤ 3) ∧ (∀ j : Int, 0 ≤ j → j < k → 0 ≤ [a, b, c].getD j.toNat 0 ∧ [a, b, c].getD j.toNat 0 < r.n)) (fun (k : Int) => (3 - k).toNat) (0) ⟨Fr.refl _ _, hH8, rfl, (by omega), (by omega), fun j x y => absurd y (by omega)⟩ ?_
    rintro k sg15 w15 ⟨fr15, hH15, e21_15, k0, k1, hg⟩
    have e2_15 : sg15 2 = .pointer (some ⟨_, _, none⟩) := (fr15 2 rfl).trans rfl
    have e3_15 : sg15 3 = .pointer (some ⟨_, _, none⟩) := (fr15 3 rfl).trans rfl
    have e20_15 : sg15 20 = .agg _ := (fr15 20 rfl).trans rfl
    refine CW.seq ?_
    refine CW.region ?_
    refine RL.val rfl (run_lss e21_15 rfl) ?_
    refine RL.nil ?_
    refine CW.seq ?_
    refine CW.condP rfl (fun h17 => ?_) (fun h17 => ?_)
    · refine CW.skip ?_
      refine CW.seq ?_
      refine CW.block ?_
      refine CW.seq ?_
      refine CW.region ?_
      refine RL.val rfl (run_indexA Tryd.underlying51 Tryd.isAgg3 Tryd.sizeOf3 e20_15 e21_15 (by omega) (arr3_at (by omega))) ?_
      refine RL.val rfl (run_assign (v := I _) rfl) ?_
      refine RL.nil ?_
      refine CW.seq ?_
      refine CW.region ?_
      refine RL.val rfl (run_move (v := I _) rfl) ?_
      refine RL.val rfl (run_lss rfl rfl) ?_
      refine RL.val rfl (run_move (v := B _) rfl) ?_
      refine RL.splitP (dj := 26) rfl (fun h19 => ?_) (fun h19 => ?_)
      · refine RL.gF rfl rfl (bT h19) rfl ?_
        refine RL.gF rfl rfl (bT h19) rfl ?_
        refine RL.gF rfl rfl (bT h19) rfl ?_
        refine RL.gF rfl rfl (bT h19) rfl ?_
        refine RL.val rfl (run_pickT (bT h19) (v := B true) rfl) ?_
        refine RL.nil ?_
        refine CW.condT rfl ?_
        refine CW.seq ?_
        refine CW.region ?_
        refine RL.callP rfl hH15 (c_clearancelaw06_alive   _ (hT.hp hH15)) (run_call0 Tryd.call23) ?_
        intro w20 hH21
        refine RL.val rfl (run_assign (v := B _) rfl) ?_
        refine RL.nil ?_
        refine CW.ret ?_
        refine outP1 Tryd.results9 (congrArg B ?_) hH21.below
        rfl
      · refine RL.gT rfl (bF h19) ?_
        refine RL.val rfl (run_move (v := I _) rfl) ?_
        refine RL.gT rfl (bF h19) ?_
        refine RL.val rfl (run_fieldAddr Tryd.underlying25 rfl (off := 0) rfl Tryd.sizeOf3 (by decide) e2_15) ?_
        refine RL.gT rfl (bF h19) ?_
        refine RL.val rfl (run_ld Tryd.underlying3 rfl rfl (hH15.cell (i := 1) rfl (relC_N _))) ?_
        refine RL.gT rfl (bF h19) ?_
        refine RL.val rfl (run_geq rfl rfl) ?_
        refine RL.val rfl (run_pickF (bF h19) (v := B _) rfl) ?_
        refine RL.nil ?_
        refine CW.condP rfl (fun h24 => ?_) (fun h24 => ?_)
        · refine CW.seq ?_
          refine CW.region ?_
          refine RL.callP rfl hH15 (c_clearancelaw06_alive   _ (hT.hp hH15)) (run_call0 Tryd.call23) ?_
          intro w25 hH26
          refine RL.val rfl (run_assign (v := B _) rfl) ?_
          refine RL.nil ?_
          refine CW.ret ?_
          refine outP1 Tryd.results9 (congrArg B ?_) hH26.below
          rfl
        · refine CW.skip ?_
          refine CW.region ?_
          refine RL.val rfl (run_add e21_15 rfl (by omega)) ?_
          refine RL.val rfl (run_move (v := I _) rfl) ?_
          refine RL.nil ?_
          refine ⟨k + 1, ?_, ((((((((((((fr15.u rfl).u rfl).u rfl).u rfl).u rfl).u rfl).u rfl).u rfl).u rfl).u rfl).u rfl).u rfl).u rfl, hH15, (congrArg I (by first | rfl | omega)), ?_, ?_, ?_⟩
          · ((try dsimp only); omega)
          · omega
          · omega
          · exact fun j x y => if e : j = k then e ▸ (by omega) else hg j x (by omega)
    · refine CW.exit (id := 0) rfl ?_
      refine CW.seq ?_
      refine CW.region ?_
      refine RL.val rfl (run_mkF1 e2_15) ?_
      refine RL.val rfl (run_assign (v := .func _ _ _) rfl) ?_
      refine RL.nil ?_
      refine CW.seq ?_
      refine CW.region ?_
      refine RL.val rfl (run_mkF1 e2_15) ?_
      refine RL.val rfl (run_assign (v := .func _ _ _) rfl) ?_
      refine RL.nil ?_
      refine CW.seq ?_
      refine CW.regionD (by kernel_rfl) hH15 ?_
      intro w28 hH29
      refine AN.take 0 rfl rfl (by kernel_rfl) (by kernel_rfl) (by kernel_rfl) (hH29.sub (List.Sublist.refl _)) (fun w hS => run_indexAddrA Tryd.underlying51 Tryd.sizeOf3 e3_15 rfl (by omega)) ?_
      refine AN.take 1 rfl rfl (by kernel_rfl) (by kernel_rfl) (by kernel_rfl) (hH29.sub (List.Sublist.refl _)) (fun w hS => run_ld Tryd.underlying3 rfl rfl (hS.cell (i := 0) rfl (v := I _) rfl)) ?_
      refine AN.take 2 rfl rfl (by kernel_rfl) (by kernel_rfl) (by kernel_rfl) (hH29.sub (List.Sublist.refl _)) (fun w hS => run_indexAddrA Tryd.underlying51 Tryd.sizeOf3 e3_15 rfl (by omega)) ?_
      refine AN.take 3 rfl rfl (by kernel_rfl) (by kernel_rfl) (by kernel_rfl) (hH29.sub (List.Sublist.refl _)) (fun w hS => run_ld Tryd.underlying3 rfl rfl (hS.cell (i := 0) rfl (v := I _) rfl)) ?_
      refine AN.take 4 rfl rfl (by kernel_rfl) (by kernel_rfl) (by kernel_rfl) (hH29.sub (List.Sublist.refl _)) (fun w hS => run_indexAddrA Tryd.underlying51 Tryd.sizeOf3 e3_15 rfl (by omega)) ?_
      refine AN.take 5 rfl rfl (by kernel_rfl) (by kernel_rfl) (by kernel_rfl) (hH29.sub (List.Sublist.refl _)) (fun w hS => run_ld Tryd.underlying3 rfl rfl (hS.cell (i := 0) rfl (v := I _) rfl)) ?_
      refine AN.take 6 rfl rfl (by kernel_rfl) (by kernel_rfl) (by kernel_rfl) (hH29.sub (List.Sublist.refl _)) (fun w hS => run_assign (v := I _) rfl) ?_
      refine AN.take 7 rfl rfl (by kernel_rfl) (by kernel_rfl) (by kernel_rfl) (hH29.sub (List.Sublist.refl _)) (fun w hS => run_assign (v := I _) rfl) ?_
      refine AN.take 8 rfl rfl (by kernel_rfl) (by kernel_rfl) (by kernel_rfl) (hH29.sub (List.Sublist.refl _)) (fun w hS => run_assign (v := I _) rfl) ?_
      refine AN.done (by kernel_rfl) ?_
      refine CW.seq ?_
      refine CW.seq ?_
      refine CW.region ?_
      refine RL.val rfl (run_move (v := .func _ _ _) rfl) ?_
      refine RL.val rfl (run_move (v := I _) rfl) ?_
      refine RL.val rfl (run_move (v := I _) rfl) ?_
      refine RL.callP rfl hH29 (c_clearancelaw06_HasseLattice_1 _ _ _ _  _ (hH29.blk (i := 1) rfl) (hT.hp hH29)) (run_callC2 Tryd.call49 (cs := [.pointer (some ⟨b3, 0, none⟩)]) rfl rfl rfl) ?_
      intro w30 hH31
      refine RL.val rfl (run_move (v := .func _ _ _) rfl) ?_
      refine RL.val rfl (run_move (v := I _) rfl) ?_
      refine RL.val rfl (run_move (v := I _) rfl) ?_
      refine RL.callP rfl hH31 (c_clearancelaw06_HasseLattice_1 _ _ _ _  _ (hH31.blk (i := 1) rfl) (hT.hp hH31)) (run_callC2 Tryd.call49 (cs := [.pointer (some ⟨b3, 0, none⟩)]) rfl rfl rfl) ?_
      intro w32 hH33
      refine RL.val rfl (run_neq rfl rfl) ?_
      refine RL.val rfl (run_move (v := B _) rfl) ?_
      refine RL.gT rfl (bF (fun h => h (congrArg Prod.fst (join_comm r a b)))) ?_
      refine RL.val rfl (run_move (v := .func _ _ _) rfl) ?_
      refine RL.gT rfl (bF (fun h => h (congrArg Prod.fst (join_comm r a b)))) ?_
      refine RL.val rfl (run_move (v := I _) rfl) ?_
      refine RL.gT rfl (bF (fun h => h (congrArg Prod.fst (join_comm r a b)))) ?_
      refine RL.val rfl (run_move (v := .func _ _ _) rfl) ?_
      refine RL.gT rfl (bF (fun h => h (congrArg Prod.fst (join_comm r a b)))) ?_
      refine RL.val rfl (run_move (v := I _) rfl) ?_
      refine RL.gT rfl (bF (fun h => h (congrArg Prod.fst (join_comm r a b)))) ?_
      refine RL.val rfl (run_move (v := I _) rfl) ?_
      refine RL.gT rfl (bF (fun h => h (congrArg Prod.fst (join_comm r a b)))) ?_
      refine RL.callP rfl hH33 (c_clearancelaw06_HasseLattice_1 _ _ _ _  _ (hH33.blk (i := 1) rfl) (hT.hp hH33)) (run_callC2 Tryd.call49 (cs := [.pointer (some ⟨b3, 0, none⟩)]) rfl rfl rfl) ?_
      intro w35 hH36
      refine RL.gT rfl (bF (fun h => h (congrArg Prod.fst (join_comm r a b)))) ?_
      refine RL.callP rfl hH36 (c_clearancelaw06_HasseLattice_1 _ _ _ _  _ (hH36.blk (i := 1) rfl) (hT.hp hH36)) (run_callC2 Tryd.call49 (cs := [.pointer (some ⟨b3, 0, none⟩)]) rfl rfl rfl) ?_
      intro w37 hH38
      refine RL.gT rfl (bF (fun h => h (congrArg Prod.fst (join_comm r a b)))) ?_
      refine RL.val rfl (run_move (v := .func _ _ _) rfl) ?_
      refine RL.gT rfl (bF (fun h => h (congrArg Prod.fst (join_comm r a b)))) ?_
      refine RL.val rfl (run_move (v := .func _ _ _) rfl) ?_
      refine RL.gT rfl (bF (fun h => h (congrArg Prod.fst (join_comm r a b)))) ?_
      refine RL.val rfl (run_move (v := I _) rfl) ?_
      refine RL.gT rfl (bF (fun h => h (congrArg Prod.fst (join_comm r a b)))) ?_
      refine RL.val rfl (run_move (v := I _) rfl) ?_
      refine RL.gT rfl (bF (fun h => h (congrArg Prod.fst (join_comm r a b)))) ?_
      refine RL.callP rfl hH38 (c_clearancelaw06_HasseLattice_1 _ _ _ _  _ (hH38.blk (i := 1) rfl) (hT.hp hH38)) (run_callC2 Tryd.call49 (cs := [.pointer (some ⟨b3, 0, none⟩)]) rfl rfl rfl) ?_
      intro w39 hH40
      refine RL.gT rfl (bF (fun h => h (congrArg Prod.fst (join_comm r a b)))) ?_
      refine RL.val rfl (run_move (v := I _) rfl) ?_
      refine RL.gT rfl (bF (fun h => h (congrArg Prod.fst (join_comm r a b)))) ?_
      refine RL.callP rfl hH40 (c_clearancelaw06_HasseLattice_1 _ _ _ _  _ (hH40.blk (i := 1) rfl) (hT.hp hH40)) (run_callC2 Tryd.call49 (cs := [.pointer (some ⟨b3, 0, none⟩)]) rfl rfl rfl) ?_
      intro w41 hH42
      refine RL.gT rfl (bF (fun h => h (congrArg Prod.fst (join_comm r a b)))) ?_
      refine RL.val rfl (run_neq rfl rfl) ?_
      refine RL.val rfl (run_pickF (bF (fun h => h (congrArg Prod.fst (join_comm r a b)))) (v := B _) rfl) ?_
      refine RL.val rfl (run_move (v := B _) rfl) ?_
      refine RL.gT rfl (bF (fun h => h (law_jj hL (hg 0 (by omega) (by omega)) (hg 1 (by omega) (by omega)) (hg 2 (by omega) (by omega))))) ?_
      refine RL.val rfl (run_move (v := .func _ _ _) rfl) ?_
      refine RL.gT rfl (bF (fun h => h (law_jj hL (hg 0 (by omega) (by omega)) (hg 1 (by omega) (by omega)) (hg 2 (by omega) (by omega))))) ?_
      refine RL.val rfl (run_move (v := I _) rfl) ?_
      refine RL.gT rfl (bF (fun h => h (law_jj hL (hg 0 (by omega) (by omega)) (hg 1 (by omega) (by omega)) (hg 2 (by omega) (by omega))))) ?_
      refine RL.val rfl (run_move (v := .func _ _ _) rfl) ?_
      refine RL.gT rfl (bF (fun h => h (law_jj hL (hg 0 (by omega) (by omega)) (hg 1 (by omega) (by omega)) (hg 2 (by omega) (by omega))))) ?_
      refine RL.val rfl (run_move (v := I _) rfl) ?_
      refine RL.gT rfl (bF (fun h => h (law_jj hL (hg 0 (by omega) (by omega)) (hg 1 (by omega) (by omega)) (hg 2 (by omega) (by omega))))) ?_
      refine RL.val rfl (run_move (v := I _) rfl) ?_
      refine RL.gT rfl (bF (fun h => h (law_jj hL (hg 0 (by omega) (by omega)) (hg 1 (by omega) (by omega)) (hg 2 (by omega) (by omega))))) ?_
      refine RL.callP rfl hH42 (c_clearancelaw06_HasseLattice_2 _ _ _ _  _ (hH42.blk (i := 1) rfl) (hT.hp hH42)) (run_callC2 Tryd.call50 (cs := [.pointer (some ⟨b3, 0, none⟩)]) rfl rfl rfl) ?_
      intro w44 hH45
      refine RL.gT rfl (bF (fun h => h (law_jj hL (hg 0 (by omega) (by omega)) (hg 1 (by omega) (by omega)) (hg 2 (by omega) (by omega))))) ?_
      refine RL.callP rfl hH45 (c_clearancelaw06_HasseLattice_2 _ _ _ _  _ (hH45.blk (i := 1) rfl) (hT.hp hH45)) (run_callC2 Tryd.call50 (cs := [.pointer (some ⟨b3, 0, none⟩)]) rfl rfl rfl) ?_
      intro w46 hH47
      refine RL.gT rfl (bF (fun h => h (law_jj hL (hg 0 (by omega) (by omega)) (hg 1 (by omega) (by omega)) (hg 2 (by omega) (by omega))))) ?_
      refine RL.val rfl (run_move (v := .func _ _ _) rfl) ?_
      refine RL.gT rfl (bF (fun h => h (law_jj hL (hg 0 (by omega) (by omega)) (hg 1 (by omega) (by omega)) (hg 2 (by omega) (by omega))))) ?_
      refine RL.val rfl (run_move (v := .func _ _ _) rfl) ?_
      refine RL.gT rfl (bF (fun h => h (law_jj hL (hg 0 (by omega) (by omega)) (hg 1 (by omega) (by omega)) (hg 2 (by omega) (by omega))))) ?_
      refine RL.val rfl (run_move (v := I _) rfl) ?_
      refine RL.gT rfl (bF (fun h => h (law_jj hL (hg 0 (by omega) (by omega)) (hg 1 (by omega) (by omega)) (hg 2 (by omega) (by omega))))) ?_
      refine RL.val rfl (run_move (v := I _) rfl) ?_
      refine RL.gT rfl (bF (fun h => h (law_jj hL (hg 0 (by omega) (by omega)) (hg 1 (by omega) (by omega)) (hg 2 (by omega) (by omega))))) ?_
      refine RL.callP rfl hH47 (c_clearancelaw06_HasseLattice_2 _ _ _ _  _ (hH47.blk (i := 1) rfl) (hT.hp hH47)) (run_callC2 Tryd.call50 (cs := [.pointer (some ⟨b3, 0, none⟩)]) rfl rfl rfl) ?_
      intro w48 hH49
      refine RL.gT rfl (bF (fun h => h (law_jj hL (hg 0 (by omega) (by omega)) (hg 1 (by omega) (by omega)) (hg 2 (by omega) (by omega))))) ?_
      refine RL.val rfl (run_move (v := I _) rfl) ?_
      refine RL.gT rfl (bF (fun h => h (law_jj hL (hg 0 (by omega) (by omega)) (hg 1 (by omega) (by omega)) (hg 2 (by omega) (by omega))))) ?_
      refine RL.callP rfl hH49 (c_clearancelaw06_HasseLattice_2 _ _ _ _  _ (hH49.blk (i := 1) rfl) (hT.hp hH49)) (run_callC2 Tryd.call50 (cs := [.pointer (some ⟨b3, 0, none⟩)]) rfl rfl rfl) ?_
      intro w50 hH51
      refine RL.gT rfl (bF (fun h => h (law_jj hL (hg 0 (by omega) (by omega)) (hg 1 (by omega) (by omega)) (hg 2 (by omega) (by omega))))) ?_
      refine RL.val rfl (run_neq rfl rfl) ?_
      refine RL.val rfl (run_pickF (bF (fun h => h (law_jj hL (hg 0 (by omega) (by omega)) (hg 1 (by omega) (by omega)) (hg 2 (by omega) (by omega))))) (v := B _) rfl) ?_
      refine RL.val rfl (run_move (v := B _) rfl) ?_
      refine RL.gT rfl (bF (fun h => h (law_mm hL (hg 0 (by omega) (by omega)) (hg 1 (by omega) (by omega)) (hg 2 (by omega) (by omega))))) ?_
      refine RL.val rfl (run_move (v := .func _ _ _) rfl) ?_
      refine RL.gT rfl (bF (fun h => h (law_mm hL (hg 0 (by omega) (by omega)) (hg 1 (by omega) (by omega)) (hg 2 (by omega) (by omega))))) ?_
      refine RL.val rfl (run_move (v := I _) rfl) ?_
      refine RL.gT rfl (bF (fun h => h (law_mm hL (hg 0 (by omega) (by omega)) (hg 1 (by omega) (by omega)) (hg 2 (by omega) (by omega))))) ?_
      refine RL.val rfl (run_move (v := .func _ _ _) rfl) ?_
      refine RL.gT rfl (bF (fun h => h (law_mm hL (hg 0 (by omega) (by omega)) (hg 1 (by omega) (by omega)) (hg 2 (by omega) (by omega))))) ?_
      refine RL.val rfl (run_move (v := I _) rfl) ?_
      refine RL.gT rfl (bF (fun h => h (law_mm hL (hg 0 (by omega) (by omega)) (hg 1 (by omega) (by omega)) (hg 2 (by omega) (by omega))))) ?_
      refine RL.val rfl (run_move (v := I _) rfl) ?_
      refine RL.gT rfl (bF (fun h => h (law_mm hL (hg 0 (by omega) (by omega)) (hg 1 (by omega) (by omega)) (hg 2 (by omega) (by omega))))) ?_
      refine RL.callP rfl hH51 (c_clearancelaw06_HasseLattice_2 _ _ _ _  _ (hH51.blk (i := 1) rfl) (hT.hp hH51)) (run_callC2 Tryd.call50 (cs := [.pointer (some ⟨b3, 0, none⟩)]) rfl rfl rfl) ?_
      intro w53 hH54
      refine RL.gT rfl (bF (fun h => h (law_mm hL (hg 0 (by omega) (by omega)) (hg 1 (by omega) (by omega)) (hg 2 (by omega) (by omega))))) ?_
      refine RL.callP rfl hH54 (c_clearancelaw06_HasseLattice_1 _ _ _ _  _ (hH54.blk (i := 1) rfl) (hT.hp hH54)) (run_callC2 Tryd.call49 (cs := [.pointer (some ⟨b3, 0, none⟩)]) rfl rfl rfl) ?_
      intro w55 hH56
      refine RL.gT rfl (bF (fun h => h (law_mm hL (hg 0 (by omega) (by omega)) (hg 1 (by omega) (by omega)) (hg 2 (by omega) (by omega))))) ?_
      refine RL.val rfl (run_move (v := I _) rfl) ?_
      refine RL.gT rfl (bF (fun h => h (law_mm hL (hg 0 (by omega) (by omega)) (hg 1 (by omega) (by omega)) (hg 2 (by omega) (by omega))))) ?_
      refine RL.val rfl (run_neq rfl rfl) ?_
      refine RL.val rfl (run_pickF (bF (fun h => h (law_mm hL (hg 0 (by omega) (by omega)) (hg 1 (by omega) (by omega)) (hg 2 (by omega) (by omega))))) (v := B _) rfl) ?_
      refine RL.val rfl (run_move (v := B _) rfl) ?_
      refine RL.gT rfl (bF (fun h => h (law_jm hL (hg 0 (by omega) (by omega)) (hg 1 (by omega) (by omega))))) ?_
      refine RL.val rfl (run_move (v := .func _ _ _) rfl) ?_
      refine RL.gT rfl (bF (fun h => h (law_jm hL (hg 0 (by omega) (by omega)) (hg 1 (by omega) (by omega))))) ?_
      refine RL.val rfl (run_move (v := I _) rfl) ?_
      refine RL.gT rfl (bF (fun h => h (law_jm hL (hg 0 (by omega) (by omega)) (hg 1 (by omega) (by omega))))) ?_
      refine RL.val rfl (run_move (v := .func _ _ _) rfl) ?_
      refine RL.gT rfl (bF (fun h => h (law_jm hL (hg 0 (by omega) (by omega)) (hg 1 (by omega) (by omega))))) ?_
      refine RL.val rfl (run_move (v := I _) rfl) ?_
      refine RL.gT rfl (bF (fun h => h (law_jm hL (hg 0 (by omega) (by omega)) (hg 1 (by omega) (by omega))))) ?_
      refine RL.val rfl (run_move (v := I _) rfl) ?_
      refine RL.gT rfl (bF (fun h => h (law_jm hL (hg 0 (by omega) (by omega)) (hg 1 (by omega) (by omega))))) ?_
      refine RL.callP rfl hH56 (c_clearancelaw06_HasseLattice_1 _ _ _ _  _ (hH56.blk (i := 1) rfl) (hT.hp hH56)) (run_callC2 Tryd.call49 (cs := [.pointer (some ⟨b3, 0, none⟩)]) rfl rfl rfl) ?_
      intro w58 hH59
      refine RL.gT rfl (bF (fun h => h (law_jm hL (hg 0 (by omega) (by omega)) (hg 1 (by omega) (by omega))))) ?_
      refine RL.callP rfl hH59 (c_clearancelaw06_HasseLattice_2 _ _ _ _  _ (hH59.blk (i := 1) rfl) (hT.hp hH59)) (run_callC2 Tryd.call50 (cs := [.pointer (some ⟨b3, 0, none⟩)]) rfl rfl rfl) ?_
      intro w60 hH61
      refine RL.gT rfl (bF (fun h => h (law_jm hL (hg 0 (by omega) (by omega)) (hg 1 (by omega) (by omega))))) ?_
      refine RL.val rfl (run_move (v := I _) rfl) ?_
      refine RL.gT rfl (bF (fun h => h (law_jm hL (hg 0 (by omega) (by omega)) (hg 1 (by omega) (by omega))))) ?_
      refine RL.val rfl (run_neq rfl rfl) ?_
      refine RL.val rfl (run_pickF (bF (fun h => h (law_jm hL (hg 0 (by omega) (by omega)) (hg 1 (by omega) (by omega))))) (v := B _) rfl) ?_
      refine RL.nil ?_
      refine CW.condF (bF (fun h => h (law_mj hL (hg 0 (by omega) (by omega)) (hg 1 (by omega) (by omega))))) ?_
      refine CW.skip ?_
      refine CW.seq ?_
      refine CW.region ?_
      refine RL.val rfl (run_ldRel Tryd.underlying25 rfl rfl e2_15 (hH61.blk (i := 1) rfl)) ?_
      refine RL.callP rfl hH61 (c_hasse_Bottom _  _ (hT.hp hH61)) (run_call1 Tryd.call44 rfl) ?_
      intro w63 hH64
      refine RL.val rfl (run_move (by conv => lhs; whnf)) ?_
      refine RL.val rfl (run_extract rfl (v := I _) rfl) ?_
      refine RL.val rfl (run_extract rfl (v := B _) rfl) ?_
      refine RL.val rfl (run_assign (v := I _) rfl) ?_
      refine RL.val rfl (run_assign (v := B _) rfl) ?_
      refine RL.nil ?_
      refine CW.seq ?_
      refine CW.region ?_
      refine RL.val rfl (run_ldRel Tryd.underlying25 rfl rfl e2_15 (hH64.blk (i := 1) rfl)) ?_
      refine RL.callP rfl hH64 (c_hasse_Top _  _ (hT.hp hH64)) (run_call1 Tryd.call46 rfl) ?_
      intro w66 hH67
      refine RL.val rfl (run_move (by conv => lhs; whnf)) ?_
      refine RL.val rfl (run_extract rfl (v := I _) rfl) ?_
      refine RL.val rfl (run_extract rfl (v := B _) rfl) ?_
      refine RL.val rfl (run_assign (v := I _) rfl) ?_
      refine RL.val rfl (run_assign (v := B _) rfl) ?_
      refine RL.nil ?_
      refine CW.seq ?_
      refine CW.region ?_
      refine RL.val rfl (run_ldRel Tryd.underlying25 rfl rfl e2_15 (hH67.blk (i := 1) rfl)) ?_
      refine RL.val rfl (run_move (v := I _) rfl) ?_
      refine RL.val rfl (run_move (v := I _) rfl) ?_
      refine RL.callP rfl hH67 (c_relate_Has _ _ _  _) (run_call3 Tryd.call35 rfl rfl rfl) ?_
      intro w69 hH70
      refine RL.val rfl (run_move (v := .func _ _ _) rfl) ?_
      refine RL.val rfl (run_move (v := I _) rfl) ?_
      refine RL.val rfl (run_move (v := I _) rfl) ?_
      refine RL.callP rfl hH70 (c_clearancelaw06_HasseLattice_1 _ _ _ _  _ (hH70.blk (i := 1) rfl) (hT.hp hH70)) (run_callC2 Tryd.call49 (cs := [.pointer (some ⟨b3, 0, none⟩)]) rfl rfl rfl) ?_
      intro w72 hH73
      refine RL.val rfl (run_move (v := I _) rfl) ?_
      refine RL.val rfl (run_eql rfl rfl) ?_
      refine RL.val rfl (run_eqlB Tryd.underlying4 rfl rfl) ?_
      refine RL.val rfl (run_move (v := B _) rfl) ?_
      refine RL.gT rfl (bR (c := true) (law_hj hL (hg 0 (by omega) (by omega)) (hg 1 (by omega) (by omega)))) ?_
      refine RL.val rfl (run_ldRel Tryd.underlying25 rfl rfl e2_15 (hH73.blk (i := 1) rfl)) ?_
      refine RL.gT rfl (bR (c := true) (law_hj hL (hg 0 (by omega) (by omega)) (hg 1 (by omega) (by omega)))) ?_
      refine RL.val rfl (run_move (v := I _) rfl) ?_
      refine RL.gT rfl (bR (c := true) (law_hj hL (hg 0 (by omega) (by omega)) (hg 1 (by omega) (by omega)))) ?_
      refine RL.val rfl (run_move (v := I _) rfl) ?_
      refine RL.gT rfl (bR (c := true) (law_hj hL (hg 0 (by omega) (by omega)) (hg 1 (by omega) (by omega)))) ?_
      refine RL.callP rfl hH73 (c_relate_Has _ _ _  _) (run_call3 Tryd.call35 rfl rfl rfl) ?_
      intro w76 hH77
      refine RL.gT rfl (bR (c := true) (law_hj hL (hg 0 (by omega) (by omega)) (hg 1 (by omega) (by omega)))) ?_
      refine RL.val rfl (run_move (v := .func _ _ _) rfl) ?_
      refine RL.gT rfl (bR (c := true) (law_hj hL (hg 0 (by omega) (by omega)) (hg 1 (by omega) (by omega)))) ?_
      refine RL.val rfl (run_move (v := I _) rfl) ?_
      refine RL.gT rfl (bR (c := true) (law_hj hL (hg 0 (by omega) (by omega)) (hg 1 (by omega) (by omega)))) ?_
      refine RL.val rfl (run_move (v := I _) rfl) ?_
      refine RL.gT rfl (bR (c := true) (law_hj hL (hg 0 (by omega) (by omega)) (hg 1 (by omega) (by omega)))) ?_
      refine RL.callP rfl hH77 (c_clearancelaw06_HasseLattice_2 _ _ _ _  _ (hH77.blk (i := 1) rfl) (hT.hp hH77)) (run_callC2 Tryd.call50 (cs := [.pointer (some ⟨b3, 0, none⟩)]) rfl rfl rfl) ?_
      intro w79 hH80
      refine RL.gT rfl (bR (c := true) (law_hj hL (hg 0 (by omega) (by omega)) (hg 1 (by omega) (by omega)))) ?_
      refine RL.val rfl (run_move (v := I _) rfl) ?_
      refine RL.gT rfl (bR (c := true) (law_hj hL (hg 0 (by omega) (by omega)) (hg 1 (by omega) (by omega)))) ?_
      refine RL.val rfl (run_eql rfl rfl) ?_
      refine RL.gT rfl (bR (c := true) (law_hj hL (hg 0 (by omega) (by omega)) (hg 1 (by omega) (by omega)))) ?_
      refine RL.val rfl (run_eqlB Tryd.underlying4 rfl rfl) ?_
      refine RL.val rfl (run_pickT (bR (c := true) (law_hj hL (hg 0 (by omega) (by omega)) (hg 1 (by omega) (by omega)))) (v := B _) rfl) ?_
      refine RL.val rfl (run_move (v := B _) rfl) ?_
      refine RL.gT rfl (bR (c := true) (law_hm hL (hg 0 (by omega) (by omega)) (hg 1 (by omega) (by omega)))) ?_
      refine RL.val rfl (run_move (v := .func _ _ _) rfl) ?_
      refine RL.gT rfl (bR (c := true) (law_hm hL (hg 0 (by omega) (by omega)) (hg 1 (by omega) (by omega)))) ?_
      refine RL.val rfl (run_move (v := I _) rfl) ?_
      refine RL.gT rfl (bR (c := true) (law_hm hL (hg 0 (by omega) (by omega)) (hg 1 (by omega) (by omega)))) ?_
      refine RL.val rfl (run_move (v := I _) rfl) ?_
      refine RL.gT rfl (bR (c := true) (law_hm hL (hg 0 (by omega) (by omega)) (hg 1 (by omega) (by omega)))) ?_
      refine RL.callP rfl hH80 (c_clearancelaw06_HasseLattice_1 _ _ _ _  _ (hH80.blk (i := 1) rfl) (hT.hp hH80)) (run_callC2 Tryd.call49 (cs := [.pointer (some ⟨b3, 0, none⟩)]) rfl rfl rfl) ?_
      intro w83 hH84
      refine RL.gT rfl (bR (c := true) (law_hm hL (hg 0 (by omega) (by omega)) (hg 1 (by omega) (by omega)))) ?_
      refine RL.val rfl (run_move (v := I _) rfl) ?_
      refine RL.gT rfl (bR (c := true) (law_hm hL (hg 0 (by omega) (by omega)) (hg 1 (by omega) (by omega)))) ?_
      refine RL.val rfl (run_eql rfl rfl) ?_
      refine RL.val rfl (run_pickT (bR (c := true) (law_hm hL (hg 0 (by omega) (by omega)) (hg 1 (by omega) (by omega)))) (v := B _) rfl) ?_
      refine RL.val rfl (run_move (v := B _) rfl) ?_
      refine RL.gT rfl (bT (law_jb hL (hg 0 (by omega) (by omega)))) ?_
      refine RL.val rfl (run_move (v := .func _ _ _) rfl) ?_
      refine RL.gT rfl (bT (law_jb hL (hg 0 (by omega) (by omega)))) ?_
      refine RL.val rfl (run_move (v := I _) rfl) ?_
      refine RL.gT rfl (bT (law_jb hL (hg 0 (by omega) (by omega)))) ?_
      refine RL.val rfl (run_move (v := I _) rfl) ?_
      refine RL.gT rfl (bT (law_jb hL (hg 0 (by omega) (by omega)))) ?_
      refine RL.callP rfl hH84 (c_clearancelaw06_HasseLattice_2 _ _ _ _  _ (hH84.blk (i := 1) rfl) (hT.hp hH84)) (run_callC2 Tryd.call50 (cs := [.pointer (some ⟨b3, 0, none⟩)]) rfl rfl rfl) ?_
      intro w86 hH87
      refine RL.gT rfl (bT (law_jb hL (hg 0 (by omega) (by omega)))) ?_
      refine RL.val rfl (run_move (v := I _) rfl) ?_
      refine RL.gT rfl (bT (law_jb hL (hg 0 (by omega) (by omega)))) ?_
      refine RL.val rfl (run_eql rfl rfl) ?_
      refine RL.val rfl (run_pickT (bT (law_jb hL (hg 0 (by omega) (by omega)))) (v := B _) rfl) ?_
      refine RL.val rfl (run_move (v := B _) rfl) ?_
      refine RL.gT rfl (bT (law_mt hL (hg 0 (by omega) (by omega)))) ?_
      refine RL.callP rfl hH87 (c_clearancelaw06_alive   _ (hT.hp hH87)) (run_call0 Tryd.call23) ?_
      intro w89 hH90
      refine RL.val rfl (run_pickT (bT (law_mt hL (hg 0 (by omega) (by omega)))) (v := B _) rfl) ?_
      refine RL.val rfl (run_assign (v := B _) rfl) ?_
      refine RL.nil ?_
      refine CW.ret ?_
      refine outP1 Tryd.results9 (congrArg B ?_) hH90.below
      rfl

theorem c_clearancelaw06_HasseBack (r : Rl) (a b : Int) (w : World) (hT : Tab w) : Calls Tryd.prog 12 #[.agg (relC r), .agg #[I a, I b]] w (Pure (B true) w) := by
  refine enter Tryd.func12 rfl Tryd.ntmps12 rfl ?_
  have hH := Hp.start w
  refine CW.seq ?_
  refine CW.region ?_
  refine RL.new rfl hH (f := fun b => (.pointer (some ⟨b, 0, none⟩))) (run_box (v := .agg _) rfl) ?_
  intro b3 w1 hH2
  refine RL.new rfl hH2 (f := fun b => (.pointer (some ⟨b, 0, none⟩))) (run_box (v := .agg _) rfl) ?_
  intro b6 w4 hH5
  refine RL.val rfl (run_assign (v := B false) rfl) ?_
  refine RL.nil ?_
  refine CW.seq ?_
  refine CW.regionD (by kernel_rfl) hH5 ?_
  intro w7 hH8
  refine AN.take 0 rfl rfl (by kernel_rfl) (by kernel_rfl) (by kernel_rfl) (hH8.sub (List.Sublist.refl _)) (fun w hS => run_fieldAddr Tryd.underlying27 rfl (off := 0) rfl Tryd.sizeOf3 (by decide) rfl) ?_
  refine AN.take 1 rfl rfl (by kernel_rfl) (by kernel_rfl) (by kernel_rfl) (hH8.sub (List.Sublist.refl _)) (fun w hS => run_ld Tryd.underlying3 rfl rfl (hS.cell (i := 0) rfl (v := I _) rfl)) ?_
  refine AN.take 2 rfl rfl (by kernel_rfl) (by kernel_rfl) (by kernel_rfl) (hH8.sub (List.Sublist.refl _)) (fun w hS => run_fieldAddr Tryd.underlying27 rfl (off := 1) rfl Tryd.sizeOf3 (by decide) rfl) ?_
  refine AN.take 3 rfl rfl (by kernel_rfl) (by kernel_rfl) (by kernel_rfl) (hH8.sub (List.Sublist.refl _)) (fun w hS => run_ld Tryd.underlying3 rfl rfl (hS.cell (i := 0) rfl (v := I _) rfl)) ?_
  refine AN.take 4 rfl rfl (by kernel_rfl) (by kernel_rfl) (by kernel_rfl) (hH8.sub (List.Sublist.refl _)) (fun w hS => run_assign (v := I _) rfl) ?_
  refine AN.take 5 rfl rfl (by kernel_rfl) (by kernel_rfl) (by kernel_rfl) (hH8.sub (List.Sublist.refl _)) (fun w hS => run_assign (v := I _) rfl) ?_
  refine AN.done (by kernel_rfl) ?_
  refine CW.seq ?_
  refine CW.seq ?_
  refine CW.region ?_
  refine RL.val rfl (run_ldRel Tryd.underlying25 rfl rfl rfl (hH8.blk (i := 1) rfl)) ?_
  refine RL.callP rfl hH8 (c_hasse_Lattice _  _ (hT.hp hH8)) (run_call1 Tryd.call47 rfl) ?_
  intro w9 hH10
  refine RL.val rfl (run_not rfl) ?_
  refine RL.val rfl (run_move (v := B _) rfl) ?_
  refine RL.split (dj := 22) rfl (fun h13 => ?_) (fun h13 => ?_)
  · refine RL.gF rfl rfl (bR (c := true) h13) rfl ?_
    refine RL.gF rfl rfl (bR (c := true) h13) rfl ?_
    refine RL.val rfl (run_pickT (bR (c := true) h13) (v := B true) rfl) ?_
    refine RL.val rfl (run_move (v := B _) rfl) ?_
    refine RL.gF rfl rfl rfl rfl ?_
    refine RL.gF rfl rfl rfl rfl ?_
    refine RL.val rfl (run_pickT rfl (v := B true) rfl) ?_
    refine RL.val rfl (run_move (v := B _) rfl) ?_
    refine RL.gF rfl rfl rfl rfl ?_
    refine RL.gF rfl rfl rfl rfl ?_
    refine RL.gF rfl rfl rfl rfl ?_
    refine RL.gF rfl rfl rfl rfl ?_
    refine RL.val rfl (run_pickT rfl (v := B true) rfl) ?_
    refine RL.val rfl (run_move (v := B _) rfl) ?_
    refine RL.gF rfl rfl rfl rfl ?_
    refine RL.gF rfl rfl rfl rfl ?_
    refine RL.gF rfl rfl rfl rfl ?_
    refine RL.gF rfl rfl rfl rfl ?_
    refine RL.val rfl (run_pickT rfl (v := B true) rfl) ?_
    refine RL.nil ?_
    refine CW.condT rfl ?_
    refine CW.seq ?_
    refine CW.region ?_
    refine RL.callP rfl hH10 (c_clearancelaw06_alive   _ (hT.hp hH10)) (run_call0 Tryd.call23) ?_
    intro w14 hH15
    refine RL.val rfl (run_assign (v := B _) rfl) ?_
    refine RL.nil ?_
    refine CW.ret ?_
    refine outP1 Tryd.results12 (congrArg B ?_) hH15.below
    rfl
  · refine RL.gT rfl (bR (c := false) h13) ?_
    refine RL.val rfl (run_move (v := I _) rfl) ?_
    refine RL.gT rfl (bR (c := false) h13) ?_
    refine RL.val rfl (run_lss rfl rfl) ?_
    refine RL.val rfl (run_pickF (bR (c := false) h13) (v := B _) rfl) ?_
    refine RL.val rfl (run_move (v := B _) rfl) ?_
    refine RL.splitP (dj := 26) rfl (fun h18 => ?_) (fun h18 => ?_)
    · refine RL.gF rfl rfl (bT h18) rfl ?_
      refine RL.gF rfl rfl (bT h18) rfl ?_
      refine RL.val rfl (run_pickT (bT h18) (v := B true) rfl) ?_
      refine RL.val rfl (run_move (v := B _) rfl) ?_
      refine RL.gF rfl rfl rfl rfl ?_
      refine RL.gF rfl rfl rfl rfl ?_
      refine RL.gF rfl rfl rfl rfl ?_
      refine RL.gF rfl rfl rfl rfl ?_
      refine RL.val rfl (run_pickT rfl (v := B true) rfl) ?_
      refine RL.val rfl (run_move (v := B _) rfl) ?_
      refine RL.gF rfl rfl rfl rfl ?_
      refine RL.gF rfl rfl rfl rfl ?_
      refine RL.gF rfl rfl rfl rfl ?_
      refine RL.gF rfl rfl rfl rfl ?_
      refine RL.val rfl (run_pickT rfl (v := B true) rfl) ?_
      refine RL.nil ?_
      refine CW.condT rfl ?_
      refine CW.seq ?_
      refine CW.region ?_
      refine RL.callP rfl hH10 (c_clearancelaw06_alive   _ (hT.hp hH10)) (run_call0 Tryd.call23) ?_
      intro w19 hH20
      refine RL.val rfl (run_assign (v := B _) rfl) ?_
      refine RL.nil ?_
      refine CW.ret ?_
      refine outP1 Tryd.results12 (congrArg B ?_) hH20.below
      rfl
    · refine RL.gT rfl (bF h18) ?_
      refine RL.val rfl (run_move (v := I _) rfl) ?_
      refine RL.gT rfl (bF h18) ?_
      refine RL.val rfl (run_lss rfl rfl) ?_
      refine RL.val rfl (run_pickF (bF h18) (v := B _) rfl) ?_
      refine RL.val rfl (run_move (v := B _) rfl) ?_
      refine RL.splitP (dj := 30) rfl (fun h23 => ?_) (fun h23 => ?_)
      · refine RL.gF rfl rfl (bT h23) rfl ?_
        refine RL.gF rfl rfl (bT h23) rfl ?_
        refine RL.gF rfl rfl (bT h23) rfl ?_
        refine RL.gF rfl rfl (bT h23) rfl ?_
        refine RL.val rfl (run_pickT (bT h23) (v := B true) rfl) ?_
        refine RL.val rfl (run_move (v := B _) rfl) ?_
        refine RL.gF rfl rfl rfl rfl ?_
        refine RL.gF rfl rfl rfl rfl ?_
        refine RL.gF rfl rfl rfl rfl ?_
        refine RL.gF rfl rfl rfl rfl ?_
        refine RL.val rfl (run_pickT rfl (v := B true) rfl) ?_
        refine RL.nil ?_
        refine CW.condT rfl ?_
        refine CW.seq ?_
        refine CW.region ?_
        refine RL.callP rfl hH10 (c_clearancelaw06_alive   _ (hT.hp hH10)) (run_call0 Tryd.call23) ?_
        intro w24 hH25
        refine RL.val rfl (run_assign (v := B _) rfl) ?_
        refine RL.nil ?_
        refine CW.ret ?_
        refine outP1 Tryd.results12 (congrArg B ?_) hH25.below
        rfl
      · refine RL.gT rfl (bF h23) ?_
        refine RL.val rfl (run_move (v := I _) rfl) ?_
        refine RL.gT rfl (bF h23) ?_
        refine RL.val rfl (run_fieldAddr Tryd.underlying25 rfl (off := 0) rfl Tryd.sizeOf3 (by decide) rfl) ?_
        refine RL.gT rfl (bF h23) ?_
        refine RL.val rfl (run_ld Tryd.underlying3 rfl rfl (hH10.cell (i := 1) rfl (relC_N _))) ?_
        refine RL.gT rfl (bF h23) ?_
        refine RL.val rfl (run_geq rfl rfl) ?_
        refine RL.val rfl (run_pickF (bF h23) (v := B _) rfl) ?_
        refine RL.val rfl (run_move (v := B _) rfl) ?_
        refine RL.splitP (dj := 36) rfl (fun h28 => ?_) (fun h28 => ?_)
        · refine RL.gF rfl rfl (bT h28) rfl ?_
          refine RL.gF rfl rfl (bT h28) rfl ?_
          refine RL.gF rfl rfl (bT h28) rfl ?_
          refine RL.gF rfl rfl (bT h28) rfl ?_
          refine RL.val rfl (run_pickT (bT h28) (v := B true) rfl) ?_
          refine RL.nil ?_
          refine CW.condT rfl ?_
          refine CW.seq ?_
          refine CW.region ?_
          refine RL.callP rfl hH10 (c_clearancelaw06_alive   _ (hT.hp hH10)) (run_call0 Tryd.call23) ?_
          intro w29 hH30
          refine RL.val rfl (run_assign (v := B _) rfl) ?_
          refine RL.nil ?_
          refine CW.ret ?_
          refine outP1 Tryd.results12 (congrArg B ?_) hH30.below
          rfl
        · refine RL.gT rfl (bF h28) ?_
          refine RL.val rfl (run_move (v := I _) rfl) ?_
          refine RL.gT rfl (bF h28) ?_
          refine RL.val rfl (run_fieldAddr Tryd.underlying25 rfl (off := 0) rfl Tryd.sizeOf3 (by decide) rfl) ?_
          refine RL.gT rfl (bF h28) ?_
          refine RL.val rfl (run_ld Tryd.underlying3 rfl rfl (hH10.cell (i := 1) rfl (relC_N _))) ?_
          refine RL.gT rfl (bF h28) ?_
          refine RL.val rfl (run_geq rfl rfl) ?_
          refine RL.val rfl (run_pickF (bF h28) (v := B _) rfl) ?_
          refine RL.nil ?_
          refine CW.condP rfl (fun h33 => ?_) (fun h33 => ?_)
          · refine CW.seq ?_
            refine CW.region ?_
            refine RL.callP rfl hH10 (c_clearancelaw06_alive   _ (hT.hp hH10)) (run_call0 Tryd.call23) ?_
            intro w34 hH35
            refine RL.val rfl (run_assign (v := B _) rfl) ?_
            refine RL.nil ?_
            refine CW.ret ?_
            refine outP1 Tryd.results12 (congrArg B ?_) hH35.below
            rfl
          · refine CW.skip ?_
            refine CW.seq ?_
            refine CW.regionD (by kernel_rfl) hH10 ?_
            intro w37 hH38
            refine AN.take 0 rfl rfl (by kernel_rfl) (by kernel_rfl) (by kernel_rfl) (hH38.sub (List.Sublist.refl _)) (fun w hS => run_ldRel Tryd.underlying25 rfl rfl rfl (hS.blk (i := 1) rfl)) ?_
            refine AN.take 1 rfl rfl (by kernel_rfl) (by kernel_rfl) (by kernel_rfl) (hH38.sub (List.Sublist.refl _)) (fun w hS => run_move (v := I _) rfl) ?_
            refine AN.take 3 rfl rfl (by kernel_rfl) (by kernel_rfl) (by kernel_rfl) (hH38.sub (List.Sublist.refl _)) (fun w hS => run_ldRel Tryd.underlying25 rfl rfl rfl (hS.blk (i := 1) rfl)) ?_
            refine AN.take 4 rfl rfl (by kernel_rfl) (by kernel_rfl) (by kernel_rfl) (hH38.sub (List.Sublist.refl _)) (fun w hS => run_move (v := I _) rfl) ?_
            refine AN.one 2 (by kernel_rfl) ?_
            refine AO.callP rfl gnone rfl hH38 (List.Sublist.refl _) (c_hasse_Word _ _  _ (hT.hp hH38)) (run_call2 Tryd.call56 rfl rfl) ?_
            intro w39 hH40
            refine AN.one 5 (by kernel_rfl) ?_
            refine AO.callP rfl gnone rfl hH40 (List.Sublist.refl _) (c_hasse_Word _ _  _ (hT.hp hH40)) (run_call2 Tryd.call56 rfl rfl) ?_
            intro w41 hH42
            refine AN.take 6 rfl rfl (by kernel_rfl) (by kernel_rfl) (by kernel_rfl) (hH42.sub (List.Sublist.refl _)) (fun w hS => run_assign (v := U _) rfl) ?_
            refine AN.take 7 rfl rfl (by kernel_rfl) (by kernel_rfl) (by kernel_rfl) (hH42.sub (List.Sublist.refl _)) (fun w hS => run_assign (v := U _) rfl) ?_
            refine AN.done (by kernel_rfl) ?_
            refine CW.seq ?_
            refine CW.region ?_
            refine RL.val rfl (run_ldRel Tryd.underlying25 rfl rfl rfl (hH42.blk (i := 1) rfl)) ?_
            refine RL.val rfl (run_move (v := I _) rfl) ?_
            refine RL.val rfl (run_move (v := I _) rfl) ?_
            refine RL.callP rfl hH42 (c_hasse_Join _ _ _  _ (hT.hp hH42)) (run_call3 Tryd.call19 rfl rfl rfl) ?_
            intro w43 hH44
            refine RL.val rfl (run_move (by conv => lhs; whnf)) ?_
            refine RL.val rfl (run_extract rfl (v := I _) rfl) ?_
            refine RL.val rfl (run_extract rfl (v := B _) rfl) ?_
            refine RL.val rfl (run_assign (v := I _) rfl) ?_
            refine RL.val rfl (run_assign (v := B _) rfl) ?_
            refine RL.nil ?_
            refine CW.seq ?_
            refine CW.region ?_
            refine RL.val rfl (run_ldRel Tryd.underlying25 rfl rfl rfl (hH44.blk (i := 1) rfl)) ?_
            refine RL.val rfl (run_move (v := I _) rfl) ?_
            refine RL.val rfl (run_move (v := I _) rfl) ?_
            refine RL.callP rfl hH44 (c_hasse_Meet _ _ _  _ (hT.hp hH44)) (run_call3 Tryd.call21 rfl rfl rfl) ?_
            intro w46 hH47
            refine RL.val rfl (run_move (by conv => lhs; whnf)) ?_
            refine RL.val rfl (run_extract rfl (v := I _) rfl) ?_
            refine RL.val rfl (run_extract rfl (v := B _) rfl) ?_
            refine RL.val rfl (run_assign (v := I _) rfl) ?_
            refine RL.val rfl (run_assign (v := B _) rfl) ?_
            refine RL.nil ?_
            refine CW.seq ?_
            refine CW.region ?_
            refine RL.val rfl (run_ldRel Tryd.underlying25 rfl rfl rfl (hH47.blk (i := 1) rfl)) ?_
            refine RL.val rfl (run_move (v := U _) rfl) ?_
            refine RL.callP rfl hH47 (c_hasse_Point _ _  _ (hT.hp hH47)) (run_call2 Tryd.call54 rfl rfl) ?_
            intro w49 hH50
            refine RL.val rfl (run_move (by conv => lhs; whnf)) ?_
            refine RL.val rfl (run_extract rfl (v := I _) rfl) ?_
            refine RL.val rfl (run_extract rfl (v := B _) rfl) ?_
            refine RL.val rfl (run_assign (v := I _) rfl) ?_
            refine RL.val rfl (run_assign (v := B _) rfl) ?_
            refine RL.nil ?_
            refine CW.seq ?_
            refine CW.regionD (by kernel_rfl) hH50 ?_
            intro w52 hH53
            refine AN.take 0 rfl rfl (by kernel_rfl) (by kernel_rfl) (by kernel_rfl) (hH53.sub (List.Sublist.refl _)) (fun w hS => run_move (v := B _) rfl) ?_
            refine AN.take 1 rfl rfl (by kernel_rfl) (by kernel_rfl) (by kernel_rfl) (hH53.sub (List.Sublist.refl _)) (fun w hS => run_move (v := B _) rfl) ?_
            refine AN.takeG 2 rfl rfl (bR (c := true) (by rw [point_word (lat_spec (nf ‹(!latB r) = false›)).2.1 (by rw [(lat_spec (nf ‹(!latB r) = false›)).2.2.1]; omega)])) rfl (by kernel_rfl) (by kernel_rfl) (by kernel_rfl) (hH53.sub (List.Sublist.refl _)) (fun w hS => run_move (v := I _) rfl) ?_
            refine AN.takeG 3 rfl rfl (bR (c := true) (by rw [point_word (lat_spec (nf ‹(!latB r) = false›)).2.1 (by rw [(lat_spec (nf ‹(!latB r) = false›)).2.2.1]; omega)])) rfl (by kernel_rfl) (by kernel_rfl) (by kernel_rfl) (hH53.sub (List.Sublist.refl _)) (fun w hS => run_move (v := I _) rfl) ?_
            refine AN.takeG 4 rfl rfl (bR (c := true) (by rw [point_word (lat_spec (nf ‹(!latB r) = false›)).2.1 (by rw [(lat_spec (nf ‹(!latB r) = false›)).2.2.1]; omega)])) rfl (by kernel_rfl) (by kernel_rfl) (by kernel_rfl) (hH53.sub (List.Sublist.refl _)) (fun w hS => run_eql rfl rfl) ?_
            refine AN.take 5 rfl rfl (by kernel_rfl) (by kernel_rfl) (by kernel_rfl) (hH53.sub (List.Sublist.refl _)) (fun w hS => run_pickT (bR (c := true) (by rw [point_word (lat_spec (nf ‹(!latB r) = false›)).2.1 (by rw [(lat_spec (nf ‹(!latB r) = false›)).2.2.1]; omega)])) (v := B _) rfl) ?_
            refine AN.take 6 rfl rfl (by kernel_rfl) (by kernel_rfl) (by kernel_rfl) (hH53.sub (List.Sublist.refl _)) (fun w hS => run_move (v := B _) rfl) ?_
            refine AN.takeG 7 rfl rfl (bT (by rw [point_word (lat_spec (nf ‹(!latB r) = false›)).2.1 (by rw [(lat_spec (nf ‹(!latB r) = false›)).2.2.1]; omega)])) rfl (by kernel_rfl) (by kernel_rfl) (by kernel_rfl) (hH53.sub (List.Sublist.refl _)) (fun w hS => run_ldRel Tryd.underlying25 rfl rfl rfl (hS.blk (i := 1) rfl)) ?_
            refine AN.takeG 8 rfl rfl (bT (by rw [point_word (lat_spec (nf ‹(!latB r) = false›)).2.1 (by rw [(lat_spec (nf ‹(!latB r) = false›)).2.2.1]; omega)])) rfl (by kernel_rfl) (by kernel_rfl) (by kernel_rfl) (hH53.sub (List.Sublist.refl _)) (fun w hS => run_move (v := I _) rfl) ?_
            refine AN.takeG 9 rfl rfl (bT (by rw [point_word (lat_spec (nf ‹(!latB r) = false›)).2.1 (by rw [(lat_spec (nf ‹(!latB r) = false›)).2.2.1]; omega)])) rfl (by kernel_rfl) (by kernel_rfl) (by kernel_rfl) (hH53.sub (List.Sublist.refl _)) (fun w hS => run_move (v := I _) rfl) ?_
            refine AN.takeG 11 rfl rfl (bT (by rw [point_word (lat_spec (nf ‹(!latB r) = false›)).2.1 (by rw [(lat_spec (nf ‹(!latB r) = false›)).2.2.1]; omega)])) rfl (by kernel_rfl) (by kernel_rfl) (by kernel_rfl) (hH53.sub (List.Sublist.refl _)) (fun w hS => run_move (v := U _) rfl) ?_
            refine AN.takeG 12 rfl rfl (bT (by rw [point_word (lat_spec (nf ‹(!latB r) = false›)).2.1 (by rw [(lat_spec (nf ‹(!latB r) = false›)).2.2.1]; omega)])) rfl (by kernel_rfl) (by kernel_rfl) (by kernel_rfl) (hH53.sub (List.Sublist.refl _)) (fun w hS => run_move (v := U _) rfl) ?_
            refine AN.one 10 (by kernel_rfl) ?_
            refine AO.callP rfl (gsome rfl (bT (by rw [point_word (lat_spec (nf ‹(!latB r) = false›)).2.1 (by rw [(lat_spec (nf ‹(!latB r) = false›)).2.2.1]; omega)]))) rfl hH53 (List.Sublist.refl _) (c_relate_Has _ _ _  _) (run_call3 Tryd.call35 rfl rfl rfl) ?_
            intro w55 hH56
            refine AN.one 13 (by kernel_rfl) ?_
            refine AO.callP rfl (gsome rfl (bT (by rw [point_word (lat_spec (nf ‹(!latB r) = false›)).2.1 (by rw [(lat_spec (nf ‹(!latB r) = false›)).2.2.1]; omega)]))) rfl hH56 (List.Sublist.refl _) (c_mask_Sub _ _  _) (run_call2 Tryd.call60 rfl rfl) ?_
            intro w58 hH59
            refine AN.takeG 14 rfl rfl (bT (by rw [point_word (lat_spec (nf ‹(!latB r) = false›)).2.1 (by rw [(lat_spec (nf ‹(!latB r) = false›)).2.2.1]; omega)])) rfl (by kernel_rfl) (by kernel_rfl) (by kernel_rfl) (hH59.sub (List.Sublist.refl _)) (fun w hS => run_eqlB Tryd.underlying4 rfl rfl) ?_
            refine AN.take 15 rfl rfl (by kernel_rfl) (by kernel_rfl) (by kernel_rfl) (hH59.sub (List.Sublist.refl _)) (fun w hS => run_pickT (bT (by rw [point_word (lat_spec (nf ‹(!latB r) = false›)).2.1 (by rw [(lat_spec (nf ‹(!latB r) = false›)).2.2.1]; omega)])) (v := B _) rfl) ?_
            refine AN.take 16 rfl rfl (by kernel_rfl) (by kernel_rfl) (by kernel_rfl) (hH59.sub (List.Sublist.refl _)) (fun w hS => run_move (v := B _) rfl) ?_
            refine AN.takeG 17 rfl rfl (bR (c := true) (law_sub (nf ‹(!latB r) = false›) (show 0 ≤ a ∧ a < r.n by omega) (show 0 ≤ b ∧ b < r.n by omega))) rfl (by kernel_rfl) (by kernel_rfl) (by kernel_rfl) (hH59.sub (List.Sublist.refl _)) (fun w hS => run_ldRel Tryd.underlying25 rfl rfl rfl (hS.blk (i := 1) rfl)) ?_
            refine AN.takeG 18 rfl rfl (bR (c := true) (law_sub (nf ‹(!latB r) = false›) (show 0 ≤ a ∧ a < r.n by omega) (show 0 ≤ b ∧ b < r.n by omega))) rfl (by kernel_rfl) (by kernel_rfl) (by kernel_rfl) (hH59.sub (List.Sublist.refl _)) (fun w hS => run_move (v := I _) rfl) ?_
            refine AN.takeG 20 rfl rfl (bR (c := true) (law_sub (nf ‹(!latB r) = false›) (show 0 ≤ a ∧ a < r.n by omega) (show 0 ≤ b ∧ b < r.n by omega))) rfl (by kernel_rfl) (by kernel_rfl) (by kernel_rfl) (hH59.sub (List.Sublist.refl _)) (fun w hS => run_move (v := U _) rfl) ?_
            refine AN.takeG 21 rfl rfl (bR (c := true) (law_sub (nf ‹(!latB r) = false›) (show 0 ≤ a ∧ a < r.n by omega) (show 0 ≤ b ∧ b < r.n by omega))) rfl (by kernel_rfl) (by kernel_rfl) (by kernel_rfl) (hH59.sub (List.Sublist.refl _)) (fun w hS => run_move (v := U _) rfl) ?_
            refine AN.takeG 22 rfl rfl (bR (c := true) (law_sub (nf ‹(!latB r) = false›) (show 0 ≤ a ∧ a < r.n by omega) (show 0 ≤ b ∧ b < r.n by omega))) rfl (by kernel_rfl) (by kernel_rfl) (by kernel_rfl) (hH59.sub (List.Sublist.refl _)) (fun w hS => run_andU rfl rfl) ?_
            refine AN.one 19 (by kernel_rfl) ?_
            refine AO.callP rfl (gsome rfl (bR (c := true) (law_sub (nf ‹(!latB r) = false›) (show 0 ≤ a ∧ a < r.n by omega) (show 0 ≤ b ∧ b < r.n by omega)))) rfl hH59 (List.Sublist.refl _) (c_hasse_Word _ _  _ (hT.hp hH59)) (run_call2 Tryd.call56 rfl rfl) ?_
            intro w62 hH63
            refine AN.takeG 23 rfl rfl (bR (c := true) (law_sub (nf ‹(!latB r) = false›) (show 0 ≤ a ∧ a < r.n by omega) (show 0 ≤ b ∧ b < r.n by omega))) rfl (by kernel_rfl) (by kernel_rfl) (by kernel_rfl) (hH63.sub (List.Sublist.refl _)) (fun w hS => run_eqlU rfl rfl) ?_
            refine AN.take 24 rfl rfl (by kernel_rfl) (by kernel_rfl) (by kernel_rfl) (hH63.sub (List.Sublist.refl _)) (fun w hS => run_pickT (bR (c := true) (law_sub (nf ‹(!latB r) = false›) (show 0 ≤ a ∧ a < r.n by omega) (show 0 ≤ b ∧ b < r.n by omega))) (v := B _) rfl) ?_
            refine AN.take 25 rfl rfl (by kernel_rfl) (by kernel_rfl) (by kernel_rfl) (hH63.sub (List.Sublist.refl _)) (fun w hS => run_move (v := B _) rfl) ?_
            refine AN.takeG 26 rfl rfl (bT (law_meetw (nf ‹(!latB r) = false›) (show 0 ≤ a ∧ a < r.n by omega) (show 0 ≤ b ∧ b < r.n by omega))) rfl (by kernel_rfl) (by kernel_rfl) (by kernel_rfl) (hH63.sub (List.Sublist.refl _)) (fun w hS => run_ldRel Tryd.underlying25 rfl rfl rfl (hS.blk (i := 1) rfl)) ?_
            refine AN.takeG 27 rfl rfl (bT (law_meetw (nf ‹(!latB r) = false›) (show 0 ≤ a ∧ a < r.n by omega) (show 0 ≤ b ∧ b < r.n by omega))) rfl (by kernel_rfl) (by kernel_rfl) (by kernel_rfl) (hH63.sub (List.Sublist.refl _)) (fun w hS => run_move (v := U _) rfl) ?_
            refine AN.takeG 28 rfl rfl (bT (law_meetw (nf ‹(!latB r) = false›) (show 0 ≤ a ∧ a < r.n by omega) (show 0 ≤ b ∧ b < r.n by omega))) rfl (by kernel_rfl) (by kernel_rfl) (by kernel_rfl) (hH63.sub (List.Sublist.refl _)) (fun w hS => run_move (v := U _) rfl) ?_
            refine AN.takeG 30 rfl rfl (bT (law_meetw (nf ‹(!latB r) = false›) (show 0 ≤ a ∧ a < r.n by omega) (show 0 ≤ b ∧ b < r.n by omega))) rfl (by kernel_rfl) (by kernel_rfl) (by kernel_rfl) (hH63.sub (List.Sublist.refl _)) (fun w hS => run_ldRel Tryd.underlying25 rfl rfl rfl (hS.blk (i := 1) rfl)) ?_
            refine AN.takeG 31 rfl rfl (bT (law_meetw (nf ‹(!latB r) = false›) (show 0 ≤ a ∧ a < r.n by omega) (show 0 ≤ b ∧ b < r.n by omega))) rfl (by kernel_rfl) (by kernel_rfl) (by kernel_rfl) (hH63.sub (List.Sublist.refl _)) (fun w hS => run_move (v := I _) rfl) ?_
            refine AN.one 29 (by kernel_rfl) ?_
            refine AO.callP rfl (gsome rfl (bT (law_meetw (nf ‹(!latB r) = false›) (show 0 ≤ a ∧ a < r.n by omega) (show 0 ≤ b ∧ b < r.n by omega)))) rfl hH63 (List.Sublist.refl _) (c_hasse_Raise _ _ _  _ (hT.hp hH63)) (run_call3 Tryd.call58 rfl rfl rfl) ?_
            intro w65 hH66
            refine AN.one 32 (by kernel_rfl) ?_
            refine AO.callP rfl (gsome rfl (bT (law_meetw (nf ‹(!latB r) = false›) (show 0 ≤ a ∧ a < r.n by omega) (show 0 ≤ b ∧ b < r.n by omega)))) rfl hH66 (List.Sublist.refl _) (c_hasse_Word _ _  _ (hT.hp hH66)) (run_call2 Tryd.call56 rfl rfl) ?_
            intro w67 hH68
            refine AN.takeG 33 rfl rfl (bT (law_meetw (nf ‹(!latB r) = false›) (show 0 ≤ a ∧ a < r.n by omega) (show 0 ≤ b ∧ b < r.n by omega))) rfl (by kernel_rfl) (by kernel_rfl) (by kernel_rfl) (hH68.sub (List.Sublist.refl _)) (fun w hS => run_eqlU rfl rfl) ?_
            refine AN.take 34 rfl rfl (by kernel_rfl) (by kernel_rfl) (by kernel_rfl) (hH68.sub (List.Sublist.refl _)) (fun w hS => run_pickT (bT (law_meetw (nf ‹(!latB r) = false›) (show 0 ≤ a ∧ a < r.n by omega) (show 0 ≤ b ∧ b < r.n by omega))) (v := B _) rfl) ?_
            refine AN.take 35 rfl rfl (by kernel_rfl) (by kernel_rfl) (by kernel_rfl) (hH68.sub (List.Sublist.refl _)) (fun w hS => run_move (v := B _) rfl) ?_
            refine AN.one 36 (by kernel_rfl) ?_
            refine AO.callP rfl (gsome rfl (bT (law_raise (nf ‹(!latB r) = false›) (show 0 ≤ a ∧ a < r.n by omega) (show 0 ≤ b ∧ b < r.n by omega)))) rfl hH68 (List.Sublist.refl _) (c_clearancelaw06_alive   _ (hT.hp hH68)) (run_call0 Tryd.call23) ?_
            intro w70 hH71
            refine AN.take 37 rfl rfl (by kernel_rfl) (by kernel_rfl) (by kernel_rfl) (hH71.sub (List.Sublist.refl _)) (fun w hS => run_pickT (bT (law_raise (nf ‹(!latB r) = false›) (show 0 ≤ a ∧ a < r.n by omega) (show 0 ≤ b ∧ b < r.n by omega))) (v := B _) rfl) ?_
            refine AN.take 38 rfl rfl (by kernel_rfl) (by kernel_rfl) (by kernel_rfl) (hH71.sub (List.Sublist.refl _)) (fun w hS => run_assign (v := B _) rfl) ?_
            refine AN.done (by kernel_rfl) ?_
            refine CW.ret ?_
            refine outP1 Tryd.results12 (congrArg B ?_) hH71.below
            rfl

theorem c_grid_Right (r : Rl) (w : World) : Calls Tryd.prog 61 #[.agg (relC r)] w (Pure (B (rightG r)) w) := by
  refine enter Tryd.func61 rfl Tryd.ntmps61 rfl ?_
  have hH := Hp.start w
  refine CW.seq ?_
  refine CW.region ?_
  refine RL.new rfl hH (f := fun b => (.pointer (some ⟨b, 0, none⟩))) (run_box (v := .agg _) rfl) ?_
  intro b3 w1 hH2
  refine RL.val rfl (run_assign (v := B false) rfl) ?_
  refine RL.nil ?_
  refine CW.seq ?_
  refine CW.region ?_
  refine RL.val rfl (run_fieldAddr Tryd.underlying25 rfl (off := 0) rfl Tryd.sizeOf3 (by decide) rfl) ?_
  refine RL.val rfl (run_ld Tryd.underlying3 rfl rfl (hH2.cell (i := 0) rfl (relC_N _))) ?_
  refine RL.val rfl (run_geq rfl rfl) ?_
  refine RL.val rfl (run_move (v := B _) rfl) ?_
  refine RL.splitP (dj := 6) rfl (fun h5 => ?_) (fun h5 => ?_)
  · refine RL.gT rfl (bT h5) ?_
    refine RL.val rfl (run_fieldAddr Tryd.underlying25 rfl (off := 0) rfl Tryd.sizeOf3 (by decide) rfl) ?_
    refine RL.gT rfl (bT h5) ?_
    refine RL.val rfl (run_ld Tryd.underlying3 rfl rfl (hH2.cell (i := 0) rfl (relC_N _))) ?_
    refine RL.gT rfl (bT h5) ?_
    refine RL.val rfl (run_leq rfl rfl) ?_
    refine RL.val rfl (run_pickT (bT h5) (v := B _) rfl) ?_
    refine RL.val rfl (run_move (v := B _) rfl) ?_
    refine RL.splitP (dj := 11) rfl (fun h7 => ?_) (fun h7 => ?_)
    · refine RL.gT rfl (bT h7) ?_
      refine RL.val rfl (run_ldRel Tryd.underlying25 rfl rfl rfl (hH2.blk (i := 0) rfl)) ?_
      refine RL.gT rfl (bT h7) ?_
      refine RL.callP rfl hH2 (c_relate_Closed _  _) (run_call1 Tryd.call34 rfl) ?_
      intro w8 hH9
      refine RL.val rfl (run_pickT (bT h7) (v := B _) rfl) ?_
      refine RL.val rfl (run_assign (v := B _) rfl) ?_
      refine RL.nil ?_
      refine CW.ret ?_
      refine outP1 Tryd.results61 (congrArg B ?_) hH9.below
      first | rw [rightG, decide_eq_false (show ¬ (1 ≤ r.n ∧ r.n ≤ 8) by omega), Bool.false_and] | rw [rightG, decide_eq_true (show 1 ≤ r.n ∧ r.n ≤ 8 by omega), Bool.true_and]
    · refine RL.gF rfl rfl (bF h7) rfl ?_
      refine RL.gF rfl rfl (bF h7) rfl ?_
      refine RL.val rfl (run_pickF (bF h7) (v := B false) rfl) ?_
      refine RL.val rfl (run_assign (v := B _) rfl) ?_
      refine RL.nil ?_
      refine CW.ret ?_
      refine outP1 Tryd.results61 (congrArg B ?_) hH2.below
      first | rw [rightG, decide_eq_false (show ¬ (1 ≤ r.n ∧ r.n ≤ 8) by omega), Bool.false_and] | rw [rightG, decide_eq_true (show 1 ≤ r.n ∧ r.n ≤ 8 by omega), Bool.true_and]
  · refine RL.gF rfl rfl (bF h5) rfl ?_
    refine RL.gF rfl rfl (bF h5) rfl ?_
    refine RL.gF rfl rfl (bF h5) rfl ?_
    refine RL.val rfl (run_pickF (bF h5) (v := B false) rfl) ?_
    refine RL.val rfl (run_move (v := B _) rfl) ?_
    refine RL.gF rfl rfl rfl rfl ?_
    refine RL.gF rfl rfl rfl rfl ?_
    refine RL.val rfl (run_pickF rfl (v := B false) rfl) ?_
    refine RL.val rfl (run_assign (v := B _) rfl) ?_
    refine RL.nil ?_
    refine CW.ret ?_
    refine outP1 Tryd.results61 (congrArg B ?_) hH2.below
    first | rw [rightG, decide_eq_false (show ¬ (1 ≤ r.n ∧ r.n ≤ 8) by omega), Bool.false_and] | rw [rightG, decide_eq_true (show 1 ≤ r.n ∧ r.n ≤ 8 by omega), Bool.true_and]

theorem c_grid_row (r : Rl) (s : BitVec 64) (o : Int) (ho : 0 ≤ o ∧ o < 8) (w : World) : Calls Tryd.prog 103 #[.agg (relC r), U s, I o] w (Pure (U (growG r s o)) w) := by
  refine enter Tryd.func103 rfl Tryd.ntmps103 rfl ?_
  have hH := Hp.start w
  refine CW.seq ?_
  refine CW.region ?_
  refine RL.new rfl hH (f := fun b => (.pointer (some ⟨b, 0, none⟩))) (run_box (v := .agg _) rfl) ?_
  intro b3 w1 hH2
  refine RL.val rfl (run_assign (v := U 0#64) rfl) ?_
  refine RL.nil ?_
  refine CW.seq ?_
  refine CW.region ?_
  refine RL.val rfl (run_move (v := U _) rfl) ?_
  refine RL.val rfl (run_move (v := I _) rfl) ?_
  refine RL.val rfl (run_mul rfl rfl (by omega)) ?_
  refine RL.val rfl (run_convIU Tryd.underlying3 Tryd.underlying74 rfl) ?_
  refine RL.val rfl (run_shrU rfl rfl) ?_
  refine RL.val rfl (run_fieldAddr Tryd.underlying25 rfl (off := 0) rfl Tryd.sizeOf3 (by decide) rfl) ?_
  refine RL.val rfl (run_ld Tryd.underlying3 rfl rfl (hH2.cell (i := 0) rfl (relC_N _))) ?_
  refine RL.callP rfl hH2 (c_mask_Below _  _) (run_call1 Tryd.call92 rfl) ?_
  intro w4 hH5
  refine RL.val rfl (run_andU rfl rfl) ?_
  refine RL.val rfl (run_assign (v := U _) rfl) ?_
  refine RL.nil ?_
  refine CW.ret ?_
  refine outP1 Tryd.results103 (congrArg U ?_) hH5.below
  rfl

theorem c_grid_rows (r : Rl) (f : FuncId) (cs : List Value) (ff : Int → BitVec 64) (hn : 1 ≤ r.n ∧ r.n ≤ 8) (w : World) (hf : ∀ args w, (callFunc f args).run Tryd.prog w = .ok (.enter f args) w) (go : ∀ i w', Below w.heap.size w w' → 0 ≤ i → i < r.n → Calls Tryd.prog f (I i :: cs).toArray w' (Pure (U (ff i)) w')) : Calls Tryd.prog 101 #[.agg (relC r), .func (.func f) #[] cs.toArray] w (Pure (U (rowsG ff r.n)) w) := by
  refine enter Tryd.func101 rfl Tryd.ntmps101 rfl ?_
  have hH := Hp.start w
  refine CW.seq ?_
  refine CW.region ?_
  refine RL.new rfl hH (f := fun b => (.pointer (some ⟨b, 0, none⟩))) (run_box (v := .agg _) rfl) ?_
  intro b3 w1 hH2
  refine RL.val rfl (run_assign (v := U 0#64) rfl) ?_
  refine RL.nil ?_
  refine CW.seq ?_
  refine CW.region ?_
  refine RL.val rfl (run_assign (v := U 0#64) rfl) ?_
  refine RL.nil ?_
  refine CW.seq ?_
  refine CW.seq ?_
  refine CW.region ?_
  refine RL.val rfl (run_fieldAddr Tryd.underlying25 rfl (off := 0) rfl Tryd.sizeOf3 (by decide) rfl) ?_
  refine RL.val rfl (run_ld Tryd.underlying3 rfl rfl (hH2.cell (i := 0) rfl (relC_N _))) ?_
  refine RL.val rfl (run_move (v := I 0) rfl) ?_
  refine RL.nil ?_
  refine CW.block ?_
  refine CW.loop (G := (Int)) (fun (k : Int) s' w' => (Fr [5, 6, 9, 10, 11, 12, 13, 14, 15, 16, 17, 18, 19, 20, 21] _ s') ∧ (Hp w w' _) ∧ (s' 5 = U (rowsG ff k)) ∧ (s' 9 = I k) ∧ (0 ≤ k) ∧ (k ≤ r.n)) (fun (k : Int) => (r.n - k).toNat) (0) ⟨Fr.refl _ _, hH2, rfl, rfl, (by omega), (by omega)⟩ ?_
  rintro k sg4 w4 ⟨fr4, hH4, e5_4, e9_4, h0, hk⟩
  have e1_4 : sg4 1 = .func _ _ _ := (fr4 1 rfl).trans rfl
  have e4_4 : sg4 4 = U _ := (fr4 4 rfl).trans rfl
  have e8_4 : sg4 8 = I _ := (fr4 8 rfl).trans rfl
  refine CW.seq ?_
  refine CW.region ?_
  refine RL.val rfl (run_lss e9_4 e8_4) ?_
  refine RL.nil ?_
  refine CW.seq ?_
  refine CW.condP rfl (fun h6 => ?_) (fun h6 => ?_)
  · refine CW.skip ?_
    refine CW.seq ?_
    refine CW.block ?_
    refine CW.seq ?_
    refine CW.region ?_
    refine RL.val rfl (run_move e9_4) ?_
    refine RL.val rfl (run_assign (v := I _) rfl) ?_
    refine RL.nil ?_
    refine CW.region ?_
    refine RL.val rfl (run_move e5_4) ?_
    refine RL.val rfl (run_move e1_4) ?_
    refine RL.val rfl (run_move (v := I _) rfl) ?_
    refine RL.callP rfl hH4 (go _ _ hH4.below (by omega) (by omega)) (run_callC1 hf (cs := cs) rfl rfl) ?_
    intro w7 hH8
    refine RL.val rfl (run_move (v := I _) rfl) ?_
    refine RL.val rfl (run_mul rfl rfl (by omega)) ?_
    refine RL.val rfl (run_convIU Tryd.underlying3 Tryd.underlying74 rfl) ?_
    refine RL.val rfl (run_shlU rfl rfl) ?_
    refine RL.val rfl (run_orU rfl rfl) ?_
    refine RL.val rfl (run_assign (v := U _) rfl) ?_
    refine RL.nil ?_
    refine CW.region ?_
    refine RL.val rfl (run_add e9_4 rfl (by omega)) ?_
    refine RL.val rfl (run_move (v := I _) rfl) ?_
    refine RL.nil ?_
    refine ⟨k + 1, ?_, ((((((((((((((fr4.u rfl).u rfl).u rfl).u rfl).u rfl).u rfl).u rfl).u rfl).u rfl).u rfl).u rfl).u rfl).u rfl).u rfl).u rfl, hH8, (congrArg U (rows_next h0)), (congrArg I (by first | rfl | omega)), ?_, ?_⟩
    · ((try dsimp only); omega)
    · omega
    · omega
  · refine CW.exit (id := 0) rfl ?_
    refine CW.seq ?_
    refine CW.region ?_
    refine RL.val rfl (run_move e5_4) ?_
    refine RL.val rfl (run_assign (v := U _) rfl) ?_
    refine RL.nil ?_
    refine CW.ret ?_
    refine outP1 Tryd.results101 (congrArg U ?_) hH4.below
    (rw [show k = r.n by omega])

theorem c_grid_Close_1 (b c : Nat) (r : Rl) (s : BitVec 64) (o : Int) (hr : rightG r = true) (w : World) (hb : w.heap[b]? = some (.cells (relC r) 25 (0, 0))) (hc : w.heap[c]? = some (.cells #[U s] 22 (0, 0))) (hT : Tab w) : Calls Tryd.prog 102 #[I o, .pointer (some ⟨b, 0, none⟩), .pointer (some ⟨c, 0, none⟩)] w (Pure (U (closeF r s o)) w) := by
  have hl := lst_len (upR r (ofl [o]))
  refine enter Tryd.func102 rfl Tryd.ntmps102 rfl ?_
  have hH := Hp.start w
  refine CW.seq ?_
  refine CW.region ?_
  refine RL.val rfl (run_assign (v := U 0#64) rfl) ?_
  refine RL.nil ?_
  refine CW.seq ?_
  refine CW.region ?_
  refine RL.val rfl (run_assign (v := U 0#64) rfl) ?_
  refine RL.nil ?_
  refine CW.seq ?_
  refine CW.seq ?_
  refine CW.regionD (by kernel_rfl) hH ?_
  intro w1 hH2
  refine AN.take 0 rfl rfl (by kernel_rfl) (by kernel_rfl) (by kernel_rfl) (hH2.sub (List.Sublist.refl _)) (fun w hS => run_ldRel Tryd.underlying25 rfl rfl rfl (hS.ext hb)) ?_
  refine AN.take 1 rfl rfl (by kernel_rfl) (by kernel_rfl) (by kernel_rfl) (hH2.sub (List.Sublist.refl _)) (fun w hS => run_move (v := I _) rfl) ?_
  refine AN.take 7 rfl rfl (by kernel_rfl) (by kernel_rfl) (by kernel_rfl) (hH2.sub (List.Sublist.refl _)) (fun w hS => run_move (v := I 0) rfl) ?_
  refine AN.one 2 (by kernel_rfl) ?_
  refine AO.new rfl gnone rfl hH2 (List.Sublist.refl _) (f := fun b => .slice (some ⟨b, 0, none⟩) 1 1) (run_mkL Tryd.underlying36 rfl rfl (sz := 1) (vs := [I _]) rfl rfl (by decide) (by decide) rfl rfl) ?_
  intro b5 w3 hH4
  (try simp only [List.flatMap_cons, List.flatMap_nil, clI, clB, clS, clP, clL, clA, List.append_nil, List.cons_append, List.nil_append] at hH4)
  have hH6 := hH4.blkRow 1 1 rfl (by decide)
  refine AN.one 3 (by kernel_rfl) ?_
  refine AO.callP rfl gnone rfl hH6 (.cons _ (List.Sublist.refl _)) (c_mask_Of _ [o] _ (hH6.sl (i := 0) rfl)) (run_call1 Tryd.call65 rfl) ?_
  intro w7 hH8
  refine AN.one 4 (by kernel_rfl) ?_
  refine AO.callP rfl gnone rfl hH8 (.cons _ (List.Sublist.refl _)) (c_relate_Up _ _  _ (hT.hp hH8)) (run_call2 Tryd.call32 rfl rfl) ?_
  intro w9 hH10
  refine AN.one 5 (by kernel_rfl) ?_
  refine AO.callR rfl gnone rfl hH10 (.cons _ (List.Sublist.refl _)) (c_mask_List _  _ (hT.hp hH10)) (run_call1 Tryd.call84 rfl) ?_
  intro v13 w11 hH12
  refine AN.one 6 (by kernel_rfl) ?_
  refine AO.read rfl gnone rfl hH12 (.cons _ (.cons _ (List.Sublist.refl _))) (run_lenSl (hH12.sl (i := 0) rfl) rfl Tryd.underlying36 rfl) ?_
  refine AN.done (by kernel_rfl) ?_
  refine CW.block ?_
  refine CW.loop (G := (Int)) (fun (k : Int) s' w' => (Fr [5, 7, 15, 16, 17, 18, 19, 20, 21, 22, 23, 24, 25, 26, 27] _ s') ∧ (Hp w w' _) ∧ (s' 5 = U (orAll (fun p => downR r (growG r s p)) ((lst (upR r (ofl [o]))).take k.toNat))) ∧ (s' 15 = I k) ∧ (0 ≤ k) ∧ (k ≤ (lst (upR r (ofl [o]))).length)) (fun (k : Int) => ((lst (upR r (ofl [o]))).length - k).toNat) (0) ⟨Fr.refl _ _, hH12, (congrArg U (by simp [orAll])), rfl, (by omega), (by omega)⟩ ?_
  rintro k sg16 w16 ⟨fr16, hH16, e5_16, e15_16, h0, hk⟩
  have e1_16 := (fr16 1 rfl).trans (by conv => lhs; whnf)
  have e2_16 := (fr16 2 rfl).trans (by conv => lhs; whnf)
  have e4_16 : sg16 4 = U _ := (fr16 4 rfl).trans rfl
  have e13_16 := (fr16 13 rfl).trans (by conv => lhs; whnf)
  have e14_16 : sg16 14 = I _ := (fr16 14 rfl).trans rfl
  refine CW.seq ?_
  refine CW.region ?_
  refine RL.val rfl (run_lss e15_16 e14_16) ?_
  refine RL.nil ?_
  refine CW.seq ?_
  refine CW.condP rfl (fun h18 => ?_) (fun h18 => ?_)
  · refine CW.skip ?_
    refine CW.seq ?_
    refine CW.block ?_
    refine CW.seq ?_
    refine CW.region ?_
    refine RL.val rfl (run_indexAddrS (hH16.sl (i := 0) rfl) Tryd.underlying36 Tryd.sizeOf3 e13_16 e15_16 (by omega)) ?_
    refine RL.val rfl (run_ld Tryd.underlying3 rfl rfl ((hH16.sl (i := 0) rfl).cell _ _ (map_at (by omega)))) ?_
    refine RL.val rfl (run_assign (v := I _) rfl) ?_
    refine RL.nil ?_
    refine CW.regionD (by kernel_rfl) hH16 ?_
    intro w19 hH20
    refine AN.take 0 rfl rfl (by kernel_rfl) (by kernel_rfl) (by kernel_rfl) (hH20.sub (List.Sublist.refl _)) (fun w hS => run_move e5_16) ?_
    refine AN.take 1 rfl rfl (by kernel_rfl) (by kernel_rfl) (by kernel_rfl) (hH20.sub (List.Sublist.refl _)) (fun w hS => run_ldRel Tryd.underlying25 rfl rfl e1_16 (hS.ext hb)) ?_
    refine AN.take 2 rfl rfl (by kernel_rfl) (by kernel_rfl) (by kernel_rfl) (hH20.sub (List.Sublist.refl _)) (fun w hS => run_ldRel Tryd.underlying25 rfl rfl e1_16 (hS.ext hb)) ?_
    refine AN.take 3 rfl rfl (by kernel_rfl) (by kernel_rfl) (by kernel_rfl) (hH20.sub (List.Sublist.refl _)) (fun w hS => run_ld Tryd.underlying22 rfl e2_16 (hS.extCell hc (v := U _) rfl)) ?_
    refine AN.take 4 rfl rfl (by kernel_rfl) (by kernel_rfl) (by kernel_rfl) (hH20.sub (List.Sublist.refl _)) (fun w hS => run_move (v := I _) rfl) ?_
    refine AN.one 5 (by kernel_rfl) ?_
    refine AO.callP rfl gnone rfl hH20 (List.Sublist.refl _) (c_grid_row _ _ _ (above_lt hr (lst_at h0 ‹_›)) _) (run_call3 Tryd.call103 rfl rfl rfl) ?_
    intro w21 hH22
    refine AN.one 6 (by kernel_rfl) ?_
    refine AO.callP rfl gnone rfl hH22 (List.Sublist.refl _) (c_relate_Down _ _  _) (run_call2 Tryd.call33 rfl rfl) ?_
    intro w23 hH24
    refine AN.take 7 rfl rfl (by kernel_rfl) (by kernel_rfl) (by kernel_rfl) (hH24.sub (List.Sublist.refl _)) (fun w hS => run_orU rfl rfl) ?_
    refine AN.take 8 rfl rfl (by kernel_rfl) (by kernel_rfl) (by kernel_rfl) (hH24.sub (List.Sublist.refl _)) (fun w hS => run_assign (v := U _) rfl) ?_
    refine AN.done (by kernel_rfl) ?_
    refine CW.region ?_
    refine RL.val rfl (run_add e15_16 rfl (by omega)) ?_
    refine RL.val rfl (run_move (v := I _) rfl) ?_
    refine RL.nil ?_
    refine ⟨k + 1, ?_, ((((((((((((((fr16.u rfl).u rfl).u rfl).u rfl).u rfl).u rfl).u rfl).u rfl).u rfl).u rfl).u rfl).u rfl).u rfl).u rfl).u rfl, hH24, (congrArg U (orAll_next (f := fun p => downR r (growG r s p)) h0 ‹_›)), (congrArg I (by first | rfl | omega)), ?_, ?_⟩
    · ((try dsimp only); omega)
    · omega
    · omega
  · refine CW.exit (id := 0) rfl ?_
    refine CW.seq ?_
    refine CW.region ?_
    refine RL.val rfl (run_move e5_16) ?_
    refine RL.val rfl (run_assign (v := U _) rfl) ?_
    refine RL.nil ?_
    refine CW.ret ?_
    refine outP1 Tryd.results102 (congrArg U ?_) hH16.below
    (rw [take_all ‹_›]; rfl)

theorem c_grid_Close (r : Rl) (s : BitVec 64) (w : World) (hT : Tab w) : Calls Tryd.prog 64 #[.agg (relC r), U s] w (Pure (U (closeG r s)) w) := by
  refine enter Tryd.func64 rfl Tryd.ntmps64 rfl ?_
  have hH := Hp.start w
  refine CW.seq ?_
  refine CW.region ?_
  refine RL.new rfl hH (f := fun b => (.pointer (some ⟨b, 0, none⟩))) (run_box (v := .agg _) rfl) ?_
  intro b3 w1 hH2
  refine RL.new rfl hH2 (f := fun b => (.pointer (some ⟨b, 0, none⟩))) (run_box (v := U _) rfl) ?_
  intro b6 w4 hH5
  refine RL.val rfl (run_assign (v := U 0#64) rfl) ?_
  refine RL.nil ?_
  refine CW.seq ?_
  refine CW.seq ?_
  refine CW.region ?_
  refine RL.val rfl (run_ldRel Tryd.underlying25 rfl rfl rfl (hH5.blk (i := 1) rfl)) ?_
  refine RL.callP rfl hH5 (c_grid_Right _  _) (run_call1 Tryd.call61 rfl) ?_
  intro w7 hH8
  refine RL.val rfl (run_not rfl) ?_
  refine RL.nil ?_
  refine CW.cond rfl (fun h11 => ?_) (fun h11 => ?_)
  · refine CW.seq ?_
    refine CW.region ?_
    refine RL.val rfl (run_assign (v := U 0#64) rfl) ?_
    refine RL.nil ?_
    refine CW.ret ?_
    refine outP1 Tryd.results64 (congrArg U ?_) hH8.below
    first | exact (close_no (nt ‹_›)).symm | exact close_yes (nf ‹_›)
  · refine CW.skip ?_
    refine CW.seq ?_
    refine CW.region ?_
    refine RL.val rfl (run_ldRel Tryd.underlying25 rfl rfl rfl (hH8.blk (i := 1) rfl)) ?_
    refine RL.val rfl (run_mkF2 (by conv => lhs; whnf) (by conv => lhs; whnf)) ?_
    refine RL.callP rfl hH8 (c_grid_rows r 102 [.pointer (some ⟨b3, 0, none⟩), .pointer (some ⟨b6, 0, none⟩)] (closeF r s) (right_spec (nf ‹(!rightG r) = false›)).1 _ Tryd.call102 (fun i w h _ _ => c_grid_Close_1 b3 b6 r s i (nf ‹(!rightG r) = false›) w (keep h (hH8.blk (i := 1) rfl)) (keep h (hH8.blk (i := 0) rfl)) ((hT.hp hH8).below h))) (run_call2 Tryd.call101 rfl rfl) ?_
    intro w12 hH13
    refine RL.val rfl (run_assign (v := U _) rfl) ?_
    refine RL.nil ?_
    refine CW.ret ?_
    refine outP1 Tryd.results64 (congrArg U ?_) hH13.below
    first | exact (close_no (nt ‹_›)).symm | exact close_yes (nf ‹_›)

theorem c_grid_Closed (r : Rl) (s : BitVec 64) (w : World) (hT : Tab w) : Calls Tryd.prog 71 #[.agg (relC r), U s] w (Pure (B (closedG r s)) w) := by
  refine enter Tryd.func71 rfl Tryd.ntmps71 rfl ?_
  have hH := Hp.start w
  refine CW.seq ?_
  refine CW.region ?_
  refine RL.new rfl hH (f := fun b => (.pointer (some ⟨b, 0, none⟩))) (run_box (v := .agg _) rfl) ?_
  intro b3 w1 hH2
  refine RL.val rfl (run_assign (v := B false) rfl) ?_
  refine RL.nil ?_
  refine CW.seq ?_
  refine CW.region ?_
  refine RL.val rfl (run_ldRel Tryd.underlying25 rfl rfl rfl (hH2.blk (i := 0) rfl)) ?_
  refine RL.callP rfl hH2 (c_grid_Right _  _) (run_call1 Tryd.call61 rfl) ?_
  intro w4 hH5
  refine RL.val rfl (run_move (v := B _) rfl) ?_
  refine RL.split (dj := 7) rfl (fun h7 => ?_) (fun h7 => ?_)
  · refine RL.gT rfl (bR (c := true) h7) ?_
    refine RL.val rfl (run_ldRel Tryd.underlying25 rfl rfl rfl (hH5.blk (i := 0) rfl)) ?_
    refine RL.gT rfl (bR (c := true) h7) ?_
    refine RL.val rfl (run_move (v := U _) rfl) ?_
    refine RL.gT rfl (bR (c := true) h7) ?_
    refine RL.callP rfl hH5 (c_grid_Close _ _  _ (hT.hp hH5)) (run_call2 Tryd.call64 rfl rfl) ?_
    intro w8 hH9
    refine RL.gT rfl (bR (c := true) h7) ?_
    refine RL.val rfl (run_move (v := U _) rfl) ?_
    refine RL.gT rfl (bR (c := true) h7) ?_
    refine RL.val rfl (run_eqlU rfl rfl) ?_
    refine RL.val rfl (run_pickT (bR (c := true) h7) (v := B _) rfl) ?_
    refine RL.val rfl (run_assign (v := B _) rfl) ?_
    refine RL.nil ?_
    refine CW.ret ?_
    refine outP1 Tryd.results71 (congrArg B ?_) hH9.below
    first | (rw [closedG, ‹rightG r = false›]; rfl) | (rw [closedG, ‹rightG r = true›]; rfl)
  · refine RL.gF rfl rfl (bR (c := false) h7) rfl ?_
    refine RL.gF rfl rfl (bR (c := false) h7) rfl ?_
    refine RL.gF rfl rfl (bR (c := false) h7) rfl ?_
    refine RL.gF rfl rfl (bR (c := false) h7) rfl ?_
    refine RL.gF rfl rfl (bR (c := false) h7) rfl ?_
    refine RL.val rfl (run_pickF (bR (c := false) h7) (v := B false) rfl) ?_
    refine RL.val rfl (run_assign (v := B _) rfl) ?_
    refine RL.nil ?_
    refine CW.ret ?_
    refine outP1 Tryd.results71 (congrArg B ?_) hH5.below
    first | (rw [closedG, ‹rightG r = false›]; rfl) | (rw [closedG, ‹rightG r = true›]; rfl)

theorem c_grid_owns (r : Rl) (o : Int) (w : World) : Calls Tryd.prog 108 #[.agg (relC r), I o] w (Pure (B (ownsG r o)) w) := by
  refine enter Tryd.func108 rfl Tryd.ntmps108 rfl ?_
  have hH := Hp.start w
  refine CW.seq ?_
  refine CW.region ?_
  refine RL.new rfl hH (f := fun b => (.pointer (some ⟨b, 0, none⟩))) (run_box (v := .agg _) rfl) ?_
  intro b3 w1 hH2
  refine RL.val rfl (run_assign (v := B false) rfl) ?_
  refine RL.nil ?_
  refine CW.seq ?_
  refine CW.region ?_
  refine RL.val rfl (run_ldRel Tryd.underlying25 rfl rfl rfl (hH2.blk (i := 0) rfl)) ?_
  refine RL.callP rfl hH2 (c_grid_Right _  _) (run_call1 Tryd.call61 rfl) ?_
  intro w4 hH5
  refine RL.val rfl (run_move (v := B _) rfl) ?_
  refine RL.split (dj := 7) rfl (fun h7 => ?_) (fun h7 => ?_)
  · refine RL.gT rfl (bR (c := true) h7) ?_
    refine RL.val rfl (run_move (v := I _) rfl) ?_
    refine RL.gT rfl (bR (c := true) h7) ?_
    refine RL.val rfl (run_geq rfl rfl) ?_
    refine RL.val rfl (run_pickT (bR (c := true) h7) (v := B _) rfl) ?_
    refine RL.val rfl (run_move (v := B _) rfl) ?_
    refine RL.splitP (dj := 11) rfl (fun h9 => ?_) (fun h9 => ?_)
    · refine RL.gT rfl (bT h9) ?_
      refine RL.val rfl (run_move (v := I _) rfl) ?_
      refine RL.gT rfl (bT h9) ?_
      refine RL.val rfl (run_fieldAddr Tryd.underlying25 rfl (off := 0) rfl Tryd.sizeOf3 (by decide) rfl) ?_
      refine RL.gT rfl (bT h9) ?_
      refine RL.val rfl (run_ld Tryd.underlying3 rfl rfl (hH5.cell (i := 0) rfl (relC_N _))) ?_
      refine RL.gT rfl (bT h9) ?_
      refine RL.val rfl (run_lss rfl rfl) ?_
      refine RL.val rfl (run_pickT (bT h9) (v := B _) rfl) ?_
      refine RL.val rfl (run_assign (v := B _) rfl) ?_
      refine RL.nil ?_
      refine CW.ret ?_
      refine outP1 Tryd.results108 (congrArg B ?_) hH5.below
      first | rw [own_no (.inl ‹_›)] | rw [own_no (.inr (by omega))] | (rw [ownsG, ‹rightG r = true›, Bool.true_and, Bool.eq_iff_iff]; simp only [decide_eq_true_eq]; omega)
    · refine RL.gF rfl rfl (bF h9) rfl ?_
      refine RL.gF rfl rfl (bF h9) rfl ?_
      refine RL.gF rfl rfl (bF h9) rfl ?_
      refine RL.gF rfl rfl (bF h9) rfl ?_
      refine RL.val rfl (run_pickF (bF h9) (v := B false) rfl) ?_
      refine RL.val rfl (run_assign (v := B _) rfl) ?_
      refine RL.nil ?_
      refine CW.ret ?_
      refine outP1 Tryd.results108 (congrArg B ?_) hH5.below
      first | rw [own_no (.inl ‹_›)] | rw [own_no (.inr (by omega))] | (rw [ownsG, ‹rightG r = true›, Bool.true_and, Bool.eq_iff_iff]; simp only [decide_eq_true_eq]; omega)
  · refine RL.gF rfl rfl (bR (c := false) h7) rfl ?_
    refine RL.gF rfl rfl (bR (c := false) h7) rfl ?_
    refine RL.val rfl (run_pickF (bR (c := false) h7) (v := B false) rfl) ?_
    refine RL.val rfl (run_move (v := B _) rfl) ?_
    refine RL.gF rfl rfl rfl rfl ?_
    refine RL.gF rfl rfl rfl rfl ?_
    refine RL.gF rfl rfl rfl rfl ?_
    refine RL.gF rfl rfl rfl rfl ?_
    refine RL.val rfl (run_pickF rfl (v := B false) rfl) ?_
    refine RL.val rfl (run_assign (v := B _) rfl) ?_
    refine RL.nil ?_
    refine CW.ret ?_
    refine outP1 Tryd.results108 (congrArg B ?_) hH5.below
    first | rw [own_no (.inl ‹_›)] | rw [own_no (.inr (by omega))] | (rw [ownsG, ‹rightG r = true›, Bool.true_and, Bool.eq_iff_iff]; simp only [decide_eq_true_eq]; omega)

theorem c_grid_Rule_1 (b c : Nat) (o : Int) (s : BitVec 64) (i : Int) (w : World) (hb : w.heap[b]? = some (.cells #[I o] 3 (0, 0))) (hc : w.heap[c]? = some (.cells #[U s] 22 (0, 0))) : Calls Tryd.prog 109 #[I i, .pointer (some ⟨b, 0, none⟩), .pointer (some ⟨c, 0, none⟩)] w (Pure (U (ownF o s i)) w) := by
  refine enter Tryd.func109 rfl Tryd.ntmps109 rfl ?_
  have hH := Hp.start w
  refine CW.seq ?_
  refine CW.region ?_
  refine RL.val rfl (run_assign (v := U 0#64) rfl) ?_
  refine RL.nil ?_
  refine CW.seq ?_
  refine CW.seq ?_
  refine CW.region ?_
  refine RL.val rfl (run_move (v := I _) rfl) ?_
  refine RL.val rfl (run_ld Tryd.underlying3 rfl rfl (hH.extCell hb (v := I _) rfl)) ?_
  refine RL.val rfl (run_eql rfl rfl) ?_
  refine RL.nil ?_
  refine CW.condP rfl (fun h2 => ?_) (fun h2 => ?_)
  · refine CW.seq ?_
    refine CW.region ?_
    refine RL.val rfl (run_ld Tryd.underlying22 rfl rfl (hH.extCell hc (v := U _) rfl)) ?_
    refine RL.val rfl (run_assign (v := U _) rfl) ?_
    refine RL.nil ?_
    refine CW.ret ?_
    refine outP1 Tryd.results109 (congrArg U ?_) hH.below
    first | rw [ownF, if_pos ‹_›] | rw [ownF, if_neg ‹_›]
  · refine CW.skip ?_
    refine CW.seq ?_
    refine CW.region ?_
    refine RL.val rfl (run_assign (v := U 0#64) rfl) ?_
    refine RL.nil ?_
    refine CW.ret ?_
    refine outP1 Tryd.results109 (congrArg U ?_) hH.below
    first | rw [ownF, if_pos ‹_›] | rw [ownF, if_neg ‹_›]

theorem c_grid_Rule (r : Rl) (o : Int) (s : BitVec 64) (w : World) (hT : Tab w) : Calls Tryd.prog 78 #[.agg (relC r), I o, U s] w (Pure (U (ruleG r o s)) w) := by
  refine enter Tryd.func78 rfl Tryd.ntmps78 rfl ?_
  have hH := Hp.start w
  refine CW.seq ?_
  refine CW.region ?_
  refine RL.new rfl hH (f := fun b => (.pointer (some ⟨b, 0, none⟩))) (run_box (v := .agg _) rfl) ?_
  intro b3 w1 hH2
  refine RL.new rfl hH2 (f := fun b => (.pointer (some ⟨b, 0, none⟩))) (run_box (v := I _) rfl) ?_
  intro b6 w4 hH5
  refine RL.val rfl (run_assign (v := U 0#64) rfl) ?_
  refine RL.nil ?_
  refine CW.seq ?_
  refine CW.seq ?_
  refine CW.region ?_
  refine RL.val rfl (run_ldRel Tryd.underlying25 rfl rfl rfl (hH5.blk (i := 1) rfl)) ?_
  refine RL.val rfl (run_ld Tryd.underlying3 rfl rfl (hH5.cell (i := 0) rfl (v := I _) rfl)) ?_
  refine RL.callP rfl hH5 (c_grid_owns _ _  _) (run_call2 Tryd.call108 rfl rfl) ?_
  intro w7 hH8
  refine RL.val rfl (run_not rfl) ?_
  refine RL.nil ?_
  refine CW.cond rfl (fun h11 => ?_) (fun h11 => ?_)
  · refine CW.seq ?_
    refine CW.region ?_
    refine RL.val rfl (run_assign (v := U 0#64) rfl) ?_
    refine RL.nil ?_
    refine CW.ret ?_
    refine outP1 Tryd.results78 (congrArg U ?_) hH8.below
    first | exact (rule_no (nt ‹_›)).symm | (rw [ruleG, if_pos (nf ‹_›)])
  · refine CW.skip ?_
    refine CW.seq ?_
    refine CW.regionD (by kernel_rfl) hH8 ?_
    intro w12 hH13
    refine AN.take 0 rfl rfl (by kernel_rfl) (by kernel_rfl) (by kernel_rfl) (hH13.sub (List.Sublist.refl _)) (fun w hS => run_fieldAddr Tryd.underlying25 rfl (off := 0) rfl Tryd.sizeOf3 (by decide) rfl) ?_
    refine AN.take 1 rfl rfl (by kernel_rfl) (by kernel_rfl) (by kernel_rfl) (hH13.sub (List.Sublist.refl _)) (fun w hS => run_ld Tryd.underlying3 rfl rfl (hS.cell (i := 1) rfl (relC_N _))) ?_
    refine AN.take 3 rfl rfl (by kernel_rfl) (by kernel_rfl) (by kernel_rfl) (hH13.sub (List.Sublist.refl _)) (fun w hS => run_ldRel Tryd.underlying25 rfl rfl rfl (hS.blk (i := 1) rfl)) ?_
    refine AN.take 4 rfl rfl (by kernel_rfl) (by kernel_rfl) (by kernel_rfl) (hH13.sub (List.Sublist.refl _)) (fun w hS => run_move (v := U _) rfl) ?_
    refine AN.two 2 7 (by kernel_rfl) ?_ ?_
    · refine AO.callP rfl gnone rfl hH13 (List.Sublist.refl _) (c_mask_Below _  _) (run_call1 Tryd.call92 rfl) ?_
      intro w14 hH15
      refine AN.two 5 7 (by kernel_rfl) ?_ ?_
      · refine AO.callP rfl gnone rfl hH15 (List.Sublist.refl _) (c_relate_Up _ _  _ (hT.hp hH15)) (run_call2 Tryd.call32 rfl rfl) ?_
        intro w16 hH17
        refine AN.take 6 rfl rfl (by kernel_rfl) (by kernel_rfl) (by kernel_rfl) (hH17.sub (List.Sublist.refl _)) (fun w hS => run_andNotU rfl rfl) ?_
        refine AN.one 7 (by kernel_rfl) ?_
        refine AO.new rfl gnone rfl hH17 (List.Sublist.refl _) (f := fun b => .pointer (some ⟨b, 0, none⟩)) (run_alloc Tryd.zeroValue22) ?_
        intro b20 w18 hH19
        refine AN.one 8 (by kernel_rfl) ?_
        refine AO.set rfl gnone hH19 (j := 0) rfl (.cons _ (List.Sublist.refl _)) (run_st rfl rfl (v := U _) rfl rfl rfl (hH19.blk (i := 0) rfl) (by first | decide | simp)) ?_
        intro w21 hH22
        simp only [List.set_cons_zero, List.set_cons_succ] at hH22
        refine AN.done (by kernel_rfl) ?_
        refine CW.seq ?_
        refine CW.regionD (by kernel_rfl) hH22 ?_
        intro w23 hH24
        refine AN.take 0 rfl rfl (by kernel_rfl) (by kernel_rfl) (by kernel_rfl) (hH24.sub (List.Sublist.refl _)) (fun w hS => run_ldRel Tryd.underlying25 rfl rfl rfl (hS.blk (i := 2) rfl)) ?_
        refine AN.take 1 rfl rfl (by kernel_rfl) (by kernel_rfl) (by kernel_rfl) (hH24.sub (List.Sublist.refl _)) (fun w hS => run_ldRel Tryd.underlying25 rfl rfl rfl (hS.blk (i := 2) rfl)) ?_
        refine AN.take 2 rfl rfl (by kernel_rfl) (by kernel_rfl) (by kernel_rfl) (hH24.sub (List.Sublist.refl _)) (fun w hS => run_mkF2 (by conv => lhs; whnf) (by conv => lhs; whnf)) ?_
        refine AN.one 3 (by kernel_rfl) ?_
        refine AO.callP rfl gnone rfl hH24 (List.Sublist.refl _) (c_grid_rows r 109 [.pointer (some ⟨b6, 0, none⟩), .pointer (some ⟨b20, 0, none⟩)] (ownF o (below r.n &&& ~~~upR r s)) (right_spec (own_spec (nf ‹(!ownsG r o) = false›)).1).1 _ Tryd.call109 (fun i w h _ _ => c_grid_Rule_1 b6 b20 o (below r.n &&& ~~~upR r s) i w (keep h (hH24.blk (i := 1) rfl)) (keep h (hH24.blk (i := 0) rfl)))) (run_call2 Tryd.call101 rfl rfl) ?_
        intro w25 hH26
        refine AN.one 4 (by kernel_rfl) ?_
        refine AO.callP rfl gnone rfl hH26 (List.Sublist.refl _) (c_grid_Close _ _  _ (hT.hp hH26)) (run_call2 Tryd.call64 rfl rfl) ?_
        intro w27 hH28
        refine AN.take 5 rfl rfl (by kernel_rfl) (by kernel_rfl) (by kernel_rfl) (hH28.sub (List.Sublist.refl _)) (fun w hS => run_assign (v := U _) rfl) ?_
        refine AN.done (by kernel_rfl) ?_
        refine CW.ret ?_
        refine outP1 Tryd.results78 (congrArg U ?_) hH28.below
        first | exact (rule_no (nt ‹_›)).symm | (rw [ruleG, if_pos (nf ‹_›)])
      · refine AO.new rfl gnone rfl hH15 (List.Sublist.refl _) (f := fun b => .pointer (some ⟨b, 0, none⟩)) (run_alloc Tryd.zeroValue22) ?_
        intro b31 w29 hH30
        refine AN.one 5 (by kernel_rfl) ?_
        refine AO.callP rfl gnone rfl hH30 (.cons _ (List.Sublist.refl _)) (c_relate_Up _ _  _ (hT.hp hH30)) (run_call2 Tryd.call32 rfl rfl) ?_
        intro w32 hH33
        refine AN.take 6 rfl rfl (by kernel_rfl) (by kernel_rfl) (by kernel_rfl) (hH33.sub (.cons _ (List.Sublist.refl _))) (fun w hS => run_andNotU rfl rfl) ?_
        refine AN.one 8 (by kernel_rfl) ?_
        refine AO.set rfl gnone hH33 (j := 0) rfl (.cons _ (List.Sublist.refl _)) (run_st rfl rfl (v := U _) rfl rfl rfl (hH33.blk (i := 0) rfl) (by first | decide | simp)) ?_
        intro w34 hH35
        simp only [List.set_cons_zero, List.set_cons_succ] at hH35
        refine AN.done (by kernel_rfl) ?_
        refine CW.seq ?_
        refine CW.regionD (by kernel_rfl) hH35 ?_
        intro w36 hH37
        refine AN.take 0 rfl rfl (by kernel_rfl) (by kernel_rfl) (by kernel_rfl) (hH37.sub (List.Sublist.refl _)) (fun w hS => run_ldRel Tryd.underlying25 rfl rfl rfl (hS.blk (i := 2) rfl)) ?_
        refine AN.take 1 rfl rfl (by kernel_rfl) (by kernel_rfl) (by kernel_rfl) (hH37.sub (List.Sublist.refl _)) (fun w hS => run_ldRel Tryd.underlying25 rfl rfl rfl (hS.blk (i := 2) rfl)) ?_
        refine AN.take 2 rfl rfl (by kernel_rfl) (by kernel_rfl) (by kernel_rfl) (hH37.sub (List.Sublist.refl _)) (fun w hS => run_mkF2 (by conv => lhs; whnf) (by conv => lhs; whnf)) ?_
        refine AN.one 3 (by kernel_rfl) ?_
        refine AO.callP rfl gnone rfl hH37 (List.Sublist.refl _) (c_grid_rows r 109 [.pointer (some ⟨b6, 0, none⟩), .pointer (some ⟨b31, 0, none⟩)] (ownF o (below r.n &&& ~~~upR r s)) (right_spec (own_spec (nf ‹(!ownsG r o) = false›)).1).1 _ Tryd.call109 (fun i w h _ _ => c_grid_Rule_1 b6 b31 o (below r.n &&& ~~~upR r s) i w (keep h (hH37.blk (i := 1) rfl)) (keep h (hH37.blk (i := 0) rfl)))) (run_call2 Tryd.call101 rfl rfl) ?_
        intro w38 hH39
        refine AN.one 4 (by kernel_rfl) ?_
        refine AO.callP rfl gnone rfl hH39 (List.Sublist.refl _) (c_grid_Close _ _  _ (hT.hp hH39)) (run_call2 Tryd.call64 rfl rfl) ?_
        intro w40 hH41
        refine AN.take 5 rfl rfl (by kernel_rfl) (by kernel_rfl) (by kernel_rfl) (hH41.sub (List.Sublist.refl _)) (fun w hS => run_assign (v := U _) rfl) ?_
        refine AN.done (by kernel_rfl) ?_
        refine CW.ret ?_
        refine outP1 Tryd.results78 (congrArg U ?_) hH41.below
        first | exact (rule_no (nt ‹_›)).symm | (rw [ruleG, if_pos (nf ‹_›)])
    · refine AO.new rfl gnone rfl hH13 (List.Sublist.refl _) (f := fun b => .pointer (some ⟨b, 0, none⟩)) (run_alloc Tryd.zeroValue22) ?_
      intro b44 w42 hH43
      refine AN.one 2 (by kernel_rfl) ?_
      refine AO.callP rfl gnone rfl hH43 (.cons _ (List.Sublist.refl _)) (c_mask_Below _  _) (run_call1 Tryd.call92 rfl) ?_
      intro w45 hH46
      refine AN.one 5 (by kernel_rfl) ?_
      refine AO.callP rfl gnone rfl hH46 (.cons _ (List.Sublist.refl _)) (c_relate_Up _ _  _ (hT.hp hH46)) (run_call2 Tryd.call32 rfl rfl) ?_
      intro w47 hH48
      refine AN.take 6 rfl rfl (by kernel_rfl) (by kernel_rfl) (by kernel_rfl) (hH48.sub (.cons _ (List.Sublist.refl _))) (fun w hS => run_andNotU rfl rfl) ?_
      refine AN.one 8 (by kernel_rfl) ?_
      refine AO.set rfl gnone hH48 (j := 0) rfl (.cons _ (List.Sublist.refl _)) (run_st rfl rfl (v := U _) rfl rfl rfl (hH48.blk (i := 0) rfl) (by first | decide | simp)) ?_
      intro w49 hH50
      simp only [List.set_cons_zero, List.set_cons_succ] at hH50
      refine AN.done (by kernel_rfl) ?_
      refine CW.seq ?_
      refine CW.regionD (by kernel_rfl) hH50 ?_
      intro w51 hH52
      refine AN.take 0 rfl rfl (by kernel_rfl) (by kernel_rfl) (by kernel_rfl) (hH52.sub (List.Sublist.refl _)) (fun w hS => run_ldRel Tryd.underlying25 rfl rfl rfl (hS.blk (i := 2) rfl)) ?_
      refine AN.take 1 rfl rfl (by kernel_rfl) (by kernel_rfl) (by kernel_rfl) (hH52.sub (List.Sublist.refl _)) (fun w hS => run_ldRel Tryd.underlying25 rfl rfl rfl (hS.blk (i := 2) rfl)) ?_
      refine AN.take 2 rfl rfl (by kernel_rfl) (by kernel_rfl) (by kernel_rfl) (hH52.sub (List.Sublist.refl _)) (fun w hS => run_mkF2 (by conv => lhs; whnf) (by conv => lhs; whnf)) ?_
      refine AN.one 3 (by kernel_rfl) ?_
      refine AO.callP rfl gnone rfl hH52 (List.Sublist.refl _) (c_grid_rows r 109 [.pointer (some ⟨b6, 0, none⟩), .pointer (some ⟨b44, 0, none⟩)] (ownF o (below r.n &&& ~~~upR r s)) (right_spec (own_spec (nf ‹(!ownsG r o) = false›)).1).1 _ Tryd.call109 (fun i w h _ _ => c_grid_Rule_1 b6 b44 o (below r.n &&& ~~~upR r s) i w (keep h (hH52.blk (i := 1) rfl)) (keep h (hH52.blk (i := 0) rfl)))) (run_call2 Tryd.call101 rfl rfl) ?_
      intro w53 hH54
      refine AN.one 4 (by kernel_rfl) ?_
      refine AO.callP rfl gnone rfl hH54 (List.Sublist.refl _) (c_grid_Close _ _  _ (hT.hp hH54)) (run_call2 Tryd.call64 rfl rfl) ?_
      intro w55 hH56
      refine AN.take 5 rfl rfl (by kernel_rfl) (by kernel_rfl) (by kernel_rfl) (hH56.sub (List.Sublist.refl _)) (fun w hS => run_assign (v := U _) rfl) ?_
      refine AN.done (by kernel_rfl) ?_
      refine CW.ret ?_
      refine outP1 Tryd.results78 (congrArg U ?_) hH56.below
      first | exact (rule_no (nt ‹_›)).symm | (rw [ruleG, if_pos (nf ‹_›)])

theorem c_grid_Top_1 (b : Nat) (r : Rl) (i : Int) (w : World) (hb : w.heap[b]? = some (.cells (relC r) 25 (0, 0))) : Calls Tryd.prog 104 #[I i, .pointer (some ⟨b, 0, none⟩)] w (Pure (U (below r.n)) w) := by
  refine enter Tryd.func104 rfl Tryd.ntmps104 rfl ?_
  have hH := Hp.start w
  refine CW.seq ?_
  refine CW.region ?_
  refine RL.val rfl (run_assign (v := U 0#64) rfl) ?_
  refine RL.nil ?_
  refine CW.seq ?_
  refine CW.region ?_
  refine RL.val rfl (run_fieldAddr Tryd.underlying25 rfl (off := 0) rfl Tryd.sizeOf3 (by decide) rfl) ?_
  refine RL.val rfl (run_ld Tryd.underlying3 rfl rfl (hH.extCell hb (relC_N _))) ?_
  refine RL.callP rfl hH (c_mask_Below _  _) (run_call1 Tryd.call92 rfl) ?_
  intro w1 hH2
  refine RL.val rfl (run_assign (v := U _) rfl) ?_
  refine RL.nil ?_
  refine CW.ret ?_
  refine outP1 Tryd.results104 (congrArg U ?_) hH2.below
  rfl

theorem c_grid_Top (r : Rl) (w : World) : Calls Tryd.prog 67 #[.agg (relC r)] w (Pure (U (topG r)) w) := by
  refine enter Tryd.func67 rfl Tryd.ntmps67 rfl ?_
  have hH := Hp.start w
  refine CW.seq ?_
  refine CW.region ?_
  refine RL.new rfl hH (f := fun b => (.pointer (some ⟨b, 0, none⟩))) (run_box (v := .agg _) rfl) ?_
  intro b3 w1 hH2
  refine RL.val rfl (run_assign (v := U 0#64) rfl) ?_
  refine RL.nil ?_
  refine CW.seq ?_
  refine CW.seq ?_
  refine CW.region ?_
  refine RL.val rfl (run_ldRel Tryd.underlying25 rfl rfl rfl (hH2.blk (i := 0) rfl)) ?_
  refine RL.callP rfl hH2 (c_grid_Right _  _) (run_call1 Tryd.call61 rfl) ?_
  intro w4 hH5
  refine RL.val rfl (run_not rfl) ?_
  refine RL.nil ?_
  refine CW.cond rfl (fun h8 => ?_) (fun h8 => ?_)
  · refine CW.seq ?_
    refine CW.region ?_
    refine RL.val rfl (run_assign (v := U 0#64) rfl) ?_
    refine RL.nil ?_
    refine CW.ret ?_
    refine outP1 Tryd.results67 (congrArg U ?_) hH5.below
    first | exact (top_no (nt ‹_›)).symm | exact top_yes (nf ‹_›)
  · refine CW.skip ?_
    refine CW.seq ?_
    refine CW.region ?_
    refine RL.val rfl (run_ldRel Tryd.underlying25 rfl rfl rfl (hH5.blk (i := 0) rfl)) ?_
    refine RL.val rfl (run_mkF1 (by conv => lhs; whnf)) ?_
    refine RL.callP rfl hH5 (c_grid_rows r 104 [.pointer (some ⟨b3, 0, none⟩)] (fun _ => below r.n) (right_spec (nf ‹(!rightG r) = false›)).1 _ Tryd.call104 (fun i w h _ _ => c_grid_Top_1 b3 r i w (keep h (hH5.blk (i := 0) rfl)))) (run_call2 Tryd.call101 rfl rfl) ?_
    intro w9 hH10
    refine RL.val rfl (run_assign (v := U _) rfl) ?_
    refine RL.nil ?_
    refine CW.ret ?_
    refine outP1 Tryd.results67 (congrArg U ?_) hH10.below
    first | exact (top_no (nt ‹_›)).symm | exact top_yes (nf ‹_›)

theorem c_grid_Readers (r : Rl) (s : BitVec 64) (o : Int) (w : World) : Calls Tryd.prog 80 #[.agg (relC r), U s, I o] w (Pure (U (readersG r s o)) w) := by
  refine enter Tryd.func80 rfl Tryd.ntmps80 rfl ?_
  have hH := Hp.start w
  refine CW.seq ?_
  refine CW.region ?_
  refine RL.new rfl hH (f := fun b => (.pointer (some ⟨b, 0, none⟩))) (run_box (v := .agg _) rfl) ?_
  intro b3 w1 hH2
  refine RL.val rfl (run_assign (v := U 0#64) rfl) ?_
  refine RL.nil ?_
  refine CW.seq ?_
  refine CW.seq ?_
  refine CW.region ?_
  refine RL.val rfl (run_ldRel Tryd.underlying25 rfl rfl rfl (hH2.blk (i := 0) rfl)) ?_
  refine RL.val rfl (run_move (v := I _) rfl) ?_
  refine RL.callP rfl hH2 (c_grid_owns _ _  _) (run_call2 Tryd.call108 rfl rfl) ?_
  intro w4 hH5
  refine RL.val rfl (run_not rfl) ?_
  refine RL.nil ?_
  refine CW.cond rfl (fun h8 => ?_) (fun h8 => ?_)
  · refine CW.seq ?_
    refine CW.region ?_
    refine RL.val rfl (run_assign (v := U 0#64) rfl) ?_
    refine RL.nil ?_
    refine CW.ret ?_
    refine outP1 Tryd.results80 (congrArg U ?_) hH5.below
    first | exact (read_no (nt ‹_›)).symm | (rw [readersG, if_pos (nf ‹_›)])
  · refine CW.skip ?_
    refine CW.seq ?_
    refine CW.regionD (by kernel_rfl) hH5 ?_
    intro w9 hH10
    refine AN.take 0 rfl rfl (by kernel_rfl) (by kernel_rfl) (by kernel_rfl) (hH10.sub (List.Sublist.refl _)) (fun w hS => run_fieldAddr Tryd.underlying25 rfl (off := 0) rfl Tryd.sizeOf3 (by decide) rfl) ?_
    refine AN.take 1 rfl rfl (by kernel_rfl) (by kernel_rfl) (by kernel_rfl) (hH10.sub (List.Sublist.refl _)) (fun w hS => run_ld Tryd.underlying3 rfl rfl (hS.cell (i := 0) rfl (relC_N _))) ?_
    refine AN.take 3 rfl rfl (by kernel_rfl) (by kernel_rfl) (by kernel_rfl) (hH10.sub (List.Sublist.refl _)) (fun w hS => run_ldRel Tryd.underlying25 rfl rfl rfl (hS.blk (i := 0) rfl)) ?_
    refine AN.take 4 rfl rfl (by kernel_rfl) (by kernel_rfl) (by kernel_rfl) (hH10.sub (List.Sublist.refl _)) (fun w hS => run_move (v := U _) rfl) ?_
    refine AN.take 5 rfl rfl (by kernel_rfl) (by kernel_rfl) (by kernel_rfl) (hH10.sub (List.Sublist.refl _)) (fun w hS => run_move (v := I _) rfl) ?_
    refine AN.one 2 (by kernel_rfl) ?_
    refine AO.callP rfl gnone rfl hH10 (List.Sublist.refl _) (c_mask_Below _  _) (run_call1 Tryd.call92 rfl) ?_
    intro w11 hH12
    refine AN.one 6 (by kernel_rfl) ?_
    refine AO.callP rfl gnone rfl hH12 (List.Sublist.refl _) (c_grid_row _ _ _ (own_lt (nf ‹(!ownsG r o) = false›)) _) (run_call3 Tryd.call103 rfl rfl rfl) ?_
    intro w13 hH14
    refine AN.take 7 rfl rfl (by kernel_rfl) (by kernel_rfl) (by kernel_rfl) (hH14.sub (List.Sublist.refl _)) (fun w hS => run_andNotU rfl rfl) ?_
    refine AN.take 8 rfl rfl (by kernel_rfl) (by kernel_rfl) (by kernel_rfl) (hH14.sub (List.Sublist.refl _)) (fun w hS => run_assign (v := U _) rfl) ?_
    refine AN.done (by kernel_rfl) ?_
    refine CW.ret ?_
    refine outP1 Tryd.results80 (congrArg U ?_) hH14.below
    first | exact (read_no (nt ‹_›)).symm | (rw [readersG, if_pos (nf ‹_›)])

theorem c_grid_Owners (r : Rl) (s : BitVec 64) (w : World) : Calls Tryd.prog 82 #[.agg (relC r), U s] w (Pure (U (ownersG r s)) w) := by
  refine enter Tryd.func82 rfl Tryd.ntmps82 rfl ?_
  have hH := Hp.start w
  refine CW.seq ?_
  refine CW.region ?_
  refine RL.new rfl hH (f := fun b => (.pointer (some ⟨b, 0, none⟩))) (run_box (v := .agg _) rfl) ?_
  intro b3 w1 hH2
  refine RL.val rfl (run_assign (v := U 0#64) rfl) ?_
  refine RL.nil ?_
  refine CW.seq ?_
  refine CW.region ?_
  refine RL.val rfl (run_assign (v := U 0#64) rfl) ?_
  refine RL.nil ?_
  refine CW.seq ?_
  refine CW.seq ?_
  refine CW.region ?_
  refine RL.val rfl (run_ldRel Tryd.underlying25 rfl rfl rfl (hH2.blk (i := 0) rfl)) ?_
  refine RL.callP rfl hH2 (c_grid_Right _  _) (run_call1 Tryd.call61 rfl) ?_
  intro w4 hH5
  refine RL.val rfl (run_not rfl) ?_
  refine RL.nil ?_
  refine CW.cond rfl (fun h8 => ?_) (fun h8 => ?_)
  · refine CW.seq ?_
    refine CW.region ?_
    refine RL.val rfl (run_assign (v := U 0#64) rfl) ?_
    refine RL.nil ?_
    refine CW.ret ?_
    refine outP1 Tryd.results82 (congrArg U ?_) hH5.below
    first | exact (owner_no (nt ‹_›)).symm | exact owner_yes hr (by omega)
  · refine CW.skip ?_
    refine CW.seq ?_
    refine CW.seq ?_
    refine CW.region ?_
    refine RL.val rfl (run_fieldAddr Tryd.underlying25 rfl (off := 0) rfl Tryd.sizeOf3 (by decide) rfl) ?_
    refine RL.val rfl (run_ld Tryd.underlying3 rfl rfl (hH5.cell (i := 0) rfl (relC_N _))) ?_
    refine RL.val rfl (run_move (v := I 0) rfl) ?_
    refine RL.nil ?_
    refine CW.block ?_
    have hr : rightG r = true := nf ‹_›
    have hs := right_spec hr
    refine CW.loop (G := (Int)) (fun (k : Int) s' w' => (Fr [5, 6, 12, 13, 14, 15, 16, 17, 18, 19, 20, 21, 22, 23] _ s') ∧ (Hp w w' _) ∧ (s' 5 = U (ofl (ownL r s k))) ∧ (s' 12 = I k) ∧ (0 ≤ k) ∧ (k ≤ r.n)) (fun (k : Int) => (r.n - k).toNat) (0) ⟨Fr.refl _ _, hH5, (congrArg U (by rfl)), rfl, (by omega), (by omega)⟩ ?_
    rintro k sg9 w9 ⟨fr9, hH9, e5_9, e12_9, h0, hk⟩
    have e1_9 : sg9 1 = U _ := (fr9 1 rfl).trans rfl
    have e2_9 : sg9 2 = .pointer (some ⟨_, _, none⟩) := (fr9 2 rfl).trans rfl
    have e4_9 : sg9 4 = U _ := (fr9 4 rfl).trans rfl
    have e11_9 : sg9 11 = I _ := (fr9 11 rfl).trans rfl
    refine CW.seq ?_
    refine CW.region ?_
    refine RL.val rfl (run_lss e12_9 e11_9) ?_
    refine RL.nil ?_
    refine CW.seq ?_
    refine CW.condP rfl (fun h11 => ?_) (fun h11 => ?_)
    · refine CW.skip ?_
      refine CW.seq ?_
      refine CW.block ?_
      refine CW.seq ?_
      refine CW.region ?_
      refine RL.val rfl (run_move e12_9) ?_
      refine RL.val rfl (run_assign (v := I _) rfl) ?_
      refine RL.nil ?_
      refine CW.seq ?_
      refine CW.region ?_
      refine RL.val rfl (run_ldRel Tryd.underlying25 rfl rfl e2_9 (hH9.blk (i := 0) rfl)) ?_
      refine RL.val rfl (run_move e1_9) ?_
      refine RL.val rfl (run_move (v := I _) rfl) ?_
      refine RL.callP rfl hH9 (c_grid_row _ _ _ (by omega) _) (run_call3 Tryd.call103 rfl rfl rfl) ?_
      intro w12 hH13
      refine RL.val rfl (run_neqU rfl (b := 0#64) rfl) ?_
      refine RL.nil ?_
      refine CW.condP rfl (fun h15 => ?_) (fun h15 => ?_)
      · refine CW.region ?_
        refine RL.val rfl (run_move e5_9) ?_
        refine RL.val rfl (run_move (v := I _) rfl) ?_
        refine RL.callP rfl hH13 (c_mask_With _ _  _) (run_call2 Tryd.call90 rfl rfl) ?_
        intro w16 hH17
        refine RL.val rfl (run_assign (v := U _) rfl) ?_
        refine RL.nil ?_
        refine CW.region ?_
        refine RL.val rfl (run_add e12_9 rfl (by omega)) ?_
        refine RL.val rfl (run_move (v := I _) rfl) ?_
        refine RL.nil ?_
        refine ⟨k + 1, ?_, (((((((((((((fr9.u rfl).u rfl).u rfl).u rfl).u rfl).u rfl).u rfl).u rfl).u rfl).u rfl).u rfl).u rfl).u rfl).u rfl, hH17, (congrArg U (by first | (rw [withB_ofl, ownL_yes h0 ‹_›]) | (rw [ownL_no h0 ‹_›]))), (congrArg I (by first | rfl | omega)), ?_, ?_⟩
        · ((try dsimp only); omega)
        · omega
        · omega
      · refine CW.skip ?_
        refine CW.region ?_
        refine RL.val rfl (run_add e12_9 rfl (by omega)) ?_
        refine RL.val rfl (run_move (v := I _) rfl) ?_
        refine RL.nil ?_
        refine ⟨k + 1, ?_, (((((((((fr9.u rfl).u rfl).u rfl).u rfl).u rfl).u rfl).u rfl).u rfl).u rfl).u rfl, hH13, (Eq.trans e5_9 (congrArg U (by first | (rw [withB_ofl, ownL_yes h0 ‹_›]) | (rw [ownL_no h0 ‹_›])))), (congrArg I (by first | rfl | omega)), ?_, ?_⟩
        · ((try dsimp only); omega)
        · omega
        · omega
    · refine CW.exit (id := 0) rfl ?_
      refine CW.seq ?_
      refine CW.region ?_
      refine RL.val rfl (run_move e5_9) ?_
      refine RL.val rfl (run_assign (v := U _) rfl) ?_
      refine RL.nil ?_
      refine CW.ret ?_
      refine outP1 Tryd.results82 (congrArg U ?_) hH9.below
      first | exact (owner_no (nt ‹_›)).symm | exact owner_yes hr (by omega)

theorem c_grid_Height (r : Rl) (w : World) (hT : Tab w) : Calls Tryd.prog 62 #[.agg (relC r)] w (Pure (I (heightG r)) w) := by
  refine enter Tryd.func62 rfl Tryd.ntmps62 rfl ?_
  have hH := Hp.start w
  refine CW.seq ?_
  refine CW.region ?_
  refine RL.new rfl hH (f := fun b => (.pointer (some ⟨b, 0, none⟩))) (run_box (v := .agg _) rfl) ?_
  intro b3 w1 hH2
  refine RL.val rfl (run_assign (v := I 0) rfl) ?_
  refine RL.nil ?_
  refine CW.seq ?_
  refine CW.seq ?_
  refine CW.region ?_
  refine RL.val rfl (run_ldRel Tryd.underlying25 rfl rfl rfl (hH2.blk (i := 0) rfl)) ?_
  refine RL.callP rfl hH2 (c_grid_Right _  _) (run_call1 Tryd.call61 rfl) ?_
  intro w4 hH5
  refine RL.val rfl (run_not rfl) ?_
  refine RL.nil ?_
  refine CW.cond rfl (fun h8 => ?_) (fun h8 => ?_)
  · refine CW.seq ?_
    refine CW.region ?_
    refine RL.val rfl (run_assign (v := I 0) rfl) ?_
    refine RL.nil ?_
    refine CW.ret ?_
    refine outP1 Tryd.results62 (congrArg I ?_) hH5.below
    first | exact (height_no (nt ‹_›)).symm | exact height_yes (nf ‹_›)
  · refine CW.skip ?_
    refine CW.seq ?_
    refine CW.region ?_
    refine RL.val rfl (run_ldRel Tryd.underlying25 rfl rfl rfl (hH5.blk (i := 0) rfl)) ?_
    refine RL.callP rfl hH5 (c_relate_Classes _  _ (hT.hp hH5)) (run_call1 Tryd.call76 rfl) ?_
    intro w9 hH10
    refine RL.val rfl (run_assign (v := I _) rfl) ?_
    refine RL.nil ?_
    refine CW.seq ?_
    refine CW.region ?_
    refine RL.val rfl (run_move (v := I _) rfl) ?_
    refine RL.val rfl (run_move (v := I _) rfl) ?_
    refine RL.val rfl (run_mul rfl rfl (by exact cls_sq (nf ‹_›))) ?_
    refine RL.val rfl (run_assign (v := I _) rfl) ?_
    refine RL.nil ?_
    refine CW.ret ?_
    refine outP1 Tryd.results62 (congrArg I ?_) hH10.below
    first | exact (height_no (nt ‹_›)).symm | exact height_yes (nf ‹_›)

theorem c_clearanceref05_Right (r : Rl) (w : World) : Calls Tryd.prog 66 #[.agg (relC r)] w (Pure (B (rightG r)) w) := by
  refine enter Tryd.func66 rfl Tryd.ntmps66 rfl ?_
  have hH := Hp.start w
  refine CW.seq ?_
  refine CW.region ?_
  refine RL.new rfl hH (f := fun b => (.pointer (some ⟨b, 0, none⟩))) (run_box (v := .agg _) rfl) ?_
  intro b3 w1 hH2
  refine RL.val rfl (run_assign (v := B false) rfl) ?_
  refine RL.nil ?_
  refine CW.seq ?_
  refine CW.region ?_
  refine RL.val rfl (run_fieldAddr Tryd.underlying25 rfl (off := 0) rfl Tryd.sizeOf3 (by decide) rfl) ?_
  refine RL.val rfl (run_ld Tryd.underlying3 rfl rfl (hH2.cell (i := 0) rfl (relC_N _))) ?_
  refine RL.val rfl (run_geq rfl rfl) ?_
  refine RL.val rfl (run_move (v := B _) rfl) ?_
  refine RL.splitP (dj := 6) rfl (fun h5 => ?_) (fun h5 => ?_)
  · refine RL.gT rfl (bT h5) ?_
    refine RL.val rfl (run_fieldAddr Tryd.underlying25 rfl (off := 0) rfl Tryd.sizeOf3 (by decide) rfl) ?_
    refine RL.gT rfl (bT h5) ?_
    refine RL.val rfl (run_ld Tryd.underlying3 rfl rfl (hH2.cell (i := 0) rfl (relC_N _))) ?_
    refine RL.gT rfl (bT h5) ?_
    refine RL.val rfl (run_leq rfl rfl) ?_
    refine RL.val rfl (run_pickT (bT h5) (v := B _) rfl) ?_
    refine RL.val rfl (run_move (v := B _) rfl) ?_
    refine RL.splitP (dj := 11) rfl (fun h7 => ?_) (fun h7 => ?_)
    · refine RL.gT rfl (bT h7) ?_
      refine RL.val rfl (run_ldRel Tryd.underlying25 rfl rfl rfl (hH2.blk (i := 0) rfl)) ?_
      refine RL.gT rfl (bT h7) ?_
      refine RL.callP rfl hH2 (c_clearanceref03_Closed _  _) (run_call1 Tryd.call73 rfl) ?_
      intro w8 hH9
      refine RL.val rfl (run_pickT (bT h7) (v := B _) rfl) ?_
      refine RL.val rfl (run_assign (v := B _) rfl) ?_
      refine RL.nil ?_
      refine CW.ret ?_
      refine outP1 Tryd.results66 (congrArg B ?_) hH9.below
      first | rw [rightG, decide_eq_false (show ¬ (1 ≤ r.n ∧ r.n ≤ 8) by omega), Bool.false_and] | rw [rightG, decide_eq_true (show 1 ≤ r.n ∧ r.n ≤ 8 by omega), Bool.true_and]
    · refine RL.gF rfl rfl (bF h7) rfl ?_
      refine RL.gF rfl rfl (bF h7) rfl ?_
      refine RL.val rfl (run_pickF (bF h7) (v := B false) rfl) ?_
      refine RL.val rfl (run_assign (v := B _) rfl) ?_
      refine RL.nil ?_
      refine CW.ret ?_
      refine outP1 Tryd.results66 (congrArg B ?_) hH2.below
      first | rw [rightG, decide_eq_false (show ¬ (1 ≤ r.n ∧ r.n ≤ 8) by omega), Bool.false_and] | rw [rightG, decide_eq_true (show 1 ≤ r.n ∧ r.n ≤ 8 by omega), Bool.true_and]
  · refine RL.gF rfl rfl (bF h5) rfl ?_
    refine RL.gF rfl rfl (bF h5) rfl ?_
    refine RL.gF rfl rfl (bF h5) rfl ?_
    refine RL.val rfl (run_pickF (bF h5) (v := B false) rfl) ?_
    refine RL.val rfl (run_move (v := B _) rfl) ?_
    refine RL.gF rfl rfl rfl rfl ?_
    refine RL.gF rfl rfl rfl rfl ?_
    refine RL.val rfl (run_pickF rfl (v := B false) rfl) ?_
    refine RL.val rfl (run_assign (v := B _) rfl) ?_
    refine RL.nil ?_
    refine CW.ret ?_
    refine outP1 Tryd.results66 (congrArg B ?_) hH2.below
    first | rw [rightG, decide_eq_false (show ¬ (1 ≤ r.n ∧ r.n ≤ 8) by omega), Bool.false_and] | rw [rightG, decide_eq_true (show 1 ≤ r.n ∧ r.n ≤ 8 by omega), Bool.true_and]

theorem c_clearanceref05_Out (r : Rl) (s : BitVec 64) (o x : Int) (hn : 1 ≤ r.n ∧ r.n ≤ 8) (w : World) : Calls Tryd.prog 110 #[.agg (relC r), U s, I o, I x] w (Pure (B (outG r s o x)) w) := by
  refine enter Tryd.func110 rfl Tryd.ntmps110 rfl ?_
  have hH := Hp.start w
  refine CW.seq ?_
  refine CW.region ?_
  refine RL.new rfl hH (f := fun b => (.pointer (some ⟨b, 0, none⟩))) (run_box (v := .agg _) rfl) ?_
  intro b3 w1 hH2
  refine RL.val rfl (run_assign (v := B false) rfl) ?_
  refine RL.nil ?_
  refine CW.seq ?_
  refine CW.region ?_
  refine RL.val rfl (run_move (v := I _) rfl) ?_
  refine RL.val rfl (run_geq rfl rfl) ?_
  refine RL.val rfl (run_move (v := B _) rfl) ?_
  refine RL.splitP (dj := 11) rfl (fun h5 => ?_) (fun h5 => ?_)
  · refine RL.gT rfl (bT h5) ?_
    refine RL.val rfl (run_move (v := I _) rfl) ?_
    refine RL.gT rfl (bT h5) ?_
    refine RL.val rfl (run_geq rfl rfl) ?_
    refine RL.val rfl (run_pickT (bT h5) (v := B _) rfl) ?_
    refine RL.val rfl (run_move (v := B _) rfl) ?_
    refine RL.splitP (dj := 15) rfl (fun h7 => ?_) (fun h7 => ?_)
    · refine RL.gT rfl (bT h7) ?_
      refine RL.val rfl (run_move (v := I _) rfl) ?_
      refine RL.gT rfl (bT h7) ?_
      refine RL.val rfl (run_fieldAddr Tryd.underlying25 rfl (off := 0) rfl Tryd.sizeOf3 (by decide) rfl) ?_
      refine RL.gT rfl (bT h7) ?_
      refine RL.val rfl (run_ld Tryd.underlying3 rfl rfl (hH2.cell (i := 0) rfl (relC_N _))) ?_
      refine RL.gT rfl (bT h7) ?_
      refine RL.val rfl (run_lss rfl rfl) ?_
      refine RL.val rfl (run_pickT (bT h7) (v := B _) rfl) ?_
      refine RL.val rfl (run_move (v := B _) rfl) ?_
      refine RL.splitP (dj := 21) rfl (fun h9 => ?_) (fun h9 => ?_)
      · refine RL.gT rfl (bT h9) ?_
        refine RL.val rfl (run_move (v := I _) rfl) ?_
        refine RL.gT rfl (bT h9) ?_
        refine RL.val rfl (run_fieldAddr Tryd.underlying25 rfl (off := 0) rfl Tryd.sizeOf3 (by decide) rfl) ?_
        refine RL.gT rfl (bT h9) ?_
        refine RL.val rfl (run_ld Tryd.underlying3 rfl rfl (hH2.cell (i := 0) rfl (relC_N _))) ?_
        refine RL.gT rfl (bT h9) ?_
        refine RL.val rfl (run_lss rfl rfl) ?_
        refine RL.val rfl (run_pickT (bT h9) (v := B _) rfl) ?_
        refine RL.val rfl (run_move (v := B _) rfl) ?_
        refine RL.splitP (dj := 27) rfl (fun h11 => ?_) (fun h11 => ?_)
        · refine RL.gT rfl (bT h11) ?_
          refine RL.val rfl (run_move (v := U _) rfl) ?_
          refine RL.gT rfl (bT h11) ?_
          refine RL.val rfl (run_move (v := I _) rfl) ?_
          refine RL.gT rfl (bT h11) ?_
          refine RL.val rfl (run_mul rfl rfl (by omega)) ?_
          refine RL.gT rfl (bT h11) ?_
          refine RL.val rfl (run_move (v := I _) rfl) ?_
          refine RL.gT rfl (bT h11) ?_
          refine RL.val rfl (run_add rfl rfl (by omega)) ?_
          refine RL.gT rfl (bT h11) ?_
          refine RL.callP rfl hH2 (c_clearanceref01_Has _ _  _) (run_call2 Tryd.call31 rfl rfl) ?_
          intro w12 hH13
          refine RL.val rfl (run_pickT (bT h11) (v := B _) rfl) ?_
          refine RL.val rfl (run_assign (v := B _) rfl) ?_
          refine RL.nil ?_
          refine CW.ret ?_
          refine outP1 Tryd.results110 (congrArg B ?_) hH13.below
          first | rw [outG, decide_eq_false (by omega), Bool.false_and] | rw [outG, decide_eq_true (by omega), Bool.true_and]
        · refine RL.gF rfl rfl (bF h11) rfl ?_
          refine RL.gF rfl rfl (bF h11) rfl ?_
          refine RL.gF rfl rfl (bF h11) rfl ?_
          refine RL.gF rfl rfl (bF h11) rfl ?_
          refine RL.gF rfl rfl (bF h11) rfl ?_
          refine RL.gF rfl rfl (bF h11) rfl ?_
          refine RL.val rfl (run_pickF (bF h11) (v := B false) rfl) ?_
          refine RL.val rfl (run_assign (v := B _) rfl) ?_
          refine RL.nil ?_
          refine CW.ret ?_
          refine outP1 Tryd.results110 (congrArg B ?_) hH2.below
          first | rw [outG, decide_eq_false (by omega), Bool.false_and] | rw [outG, decide_eq_true (by omega), Bool.true_and]
      · refine RL.gF rfl rfl (bF h9) rfl ?_
        refine RL.gF rfl rfl (bF h9) rfl ?_
        refine RL.gF rfl rfl (bF h9) rfl ?_
        refine RL.gF rfl rfl (bF h9) rfl ?_
        refine RL.val rfl (run_pickF (bF h9) (v := B false) rfl) ?_
        refine RL.val rfl (run_move (v := B _) rfl) ?_
        refine RL.gF rfl rfl rfl rfl ?_
        refine RL.gF rfl rfl rfl rfl ?_
        refine RL.gF rfl rfl rfl rfl ?_
        refine RL.gF rfl rfl rfl rfl ?_
        refine RL.gF rfl rfl rfl rfl ?_
        refine RL.gF rfl rfl rfl rfl ?_
        refine RL.val rfl (run_pickF rfl (v := B false) rfl) ?_
        refine RL.val rfl (run_assign (v := B _) rfl) ?_
        refine RL.nil ?_
        refine CW.ret ?_
        refine outP1 Tryd.results110 (congrArg B ?_) hH2.below
        first | rw [outG, decide_eq_false (by omega), Bool.false_and] | rw [outG, decide_eq_true (by omega), Bool.true_and]
    · refine RL.gF rfl rfl (bF h7) rfl ?_
      refine RL.gF rfl rfl (bF h7) rfl ?_
      refine RL.gF rfl rfl (bF h7) rfl ?_
      refine RL.gF rfl rfl (bF h7) rfl ?_
      refine RL.val rfl (run_pickF (bF h7) (v := B false) rfl) ?_
      refine RL.val rfl (run_move (v := B _) rfl) ?_
      refine RL.gF rfl rfl rfl rfl ?_
      refine RL.gF rfl rfl rfl rfl ?_
      refine RL.gF rfl rfl rfl rfl ?_
      refine RL.gF rfl rfl rfl rfl ?_
      refine RL.val rfl (run_pickF rfl (v := B false) rfl) ?_
      refine RL.val rfl (run_move (v := B _) rfl) ?_
      refine RL.gF rfl rfl rfl rfl ?_
      refine RL.gF rfl rfl rfl rfl ?_
      refine RL.gF rfl rfl rfl rfl ?_
      refine RL.gF rfl rfl rfl rfl ?_
      refine RL.gF rfl rfl rfl rfl ?_
      refine RL.gF rfl rfl rfl rfl ?_
      refine RL.val rfl (run_pickF rfl (v := B false) rfl) ?_
      refine RL.val rfl (run_assign (v := B _) rfl) ?_
      refine RL.nil ?_
      refine CW.ret ?_
      refine outP1 Tryd.results110 (congrArg B ?_) hH2.below
      first | rw [outG, decide_eq_false (by omega), Bool.false_and] | rw [outG, decide_eq_true (by omega), Bool.true_and]
  · refine RL.gF rfl rfl (bF h5) rfl ?_
    refine RL.gF rfl rfl (bF h5) rfl ?_
    refine RL.val rfl (run_pickF (bF h5) (v := B false) rfl) ?_
    refine RL.val rfl (run_move (v := B _) rfl) ?_
    refine RL.gF rfl rfl rfl rfl ?_
    refine RL.gF rfl rfl rfl rfl ?_
    refine RL.gF rfl rfl rfl rfl ?_
    refine RL.gF rfl rfl rfl rfl ?_
    refine RL.val rfl (run_pickF rfl (v := B false) rfl) ?_
    refine RL.val rfl (run_move (v := B _) rfl) ?_
    refine RL.gF rfl rfl rfl rfl ?_
    refine RL.gF rfl rfl rfl rfl ?_
    refine RL.gF rfl rfl rfl rfl ?_
    refine RL.gF rfl rfl rfl rfl ?_
    refine RL.val rfl (run_pickF rfl (v := B false) rfl) ?_
    refine RL.val rfl (run_move (v := B _) rfl) ?_
    refine RL.gF rfl rfl rfl rfl ?_
    refine RL.gF rfl rfl rfl rfl ?_
    refine RL.gF rfl rfl rfl rfl ?_
    refine RL.gF rfl rfl rfl rfl ?_
    refine RL.gF rfl rfl rfl rfl ?_
    refine RL.gF rfl rfl rfl rfl ?_
    refine RL.val rfl (run_pickF rfl (v := B false) rfl) ?_
    refine RL.val rfl (run_assign (v := B _) rfl) ?_
    refine RL.nil ?_
    refine CW.ret ?_
    refine outP1 Tryd.results110 (congrArg B ?_) hH2.below
    first | rw [outG, decide_eq_false (by omega), Bool.false_and] | rw [outG, decide_eq_true (by omega), Bool.true_and]

theorem c_clearanceref05_follows (r : Rl) (s : BitVec 64) (o x : Int) (hn : 1 ≤ r.n ∧ r.n ≤ 8) (w : World) : Calls Tryd.prog 105 #[.agg (relC r), U s, I o, I x] w (Pure (B (folB r s o x)) w) := by
  refine enter Tryd.func105 rfl Tryd.ntmps105 rfl ?_
  have hH := Hp.start w
  refine CW.seq ?_
  refine CW.region ?_
  refine RL.new rfl hH (f := fun b => (.pointer (some ⟨b, 0, none⟩))) (run_box (v := .agg _) rfl) ?_
  intro b3 w1 hH2
  refine RL.val rfl (run_assign (v := B false) rfl) ?_
  refine RL.nil ?_
  refine CW.seq ?_
  refine CW.seq ?_
  refine CW.region ?_
  refine RL.val rfl (run_assign (v := I 0) rfl) ?_
  refine RL.nil ?_
  refine CW.block ?_
  refine CW.loop (G := (Int)) (fun (p : Int) s' w' => (Fr [8, 9, 10, 11, 12, 13, 14, 15, 16, 17, 18, 19, 20, 21, 22, 23, 24, 25, 26, 27, 28, 29, 30, 31, 32, 33, 34, 35, 36, 37, 38, 39] _ s') ∧ (Hp w w' _) ∧ (s' 9 = I p) ∧ (0 ≤ p) ∧ (p ≤ r.n) ∧ (∀ q y : Int, 0 ≤ q → q < p → ¬ (outG r s q y = true ∧ hasR r o q = true ∧ hasR r x y = true))) (fun (p : Int) => (r.n - p).toNat) (0) ⟨Fr.refl _ _, hH2, rfl, (by omega), (by omega), fun q y a b => absurd b (by omega)⟩ ?_
  rintro p sg4 w4 ⟨fr4, hH4, e9_4, p0, p1, hf⟩
  have e1_4 : sg4 1 = U _ := (fr4 1 rfl).trans rfl
  have e2_4 : sg4 2 = I _ := (fr4 2 rfl).trans rfl
  have e3_4 : sg4 3 = I _ := (fr4 3 rfl).trans rfl
  have e4_4 : sg4 4 = .pointer (some ⟨_, _, none⟩) := (fr4 4 rfl).trans rfl
  refine CW.seq ?_
  refine CW.seq ?_
  refine CW.region ?_
  refine RL.val rfl (run_move e9_4) ?_
  refine RL.val rfl (run_fieldAddr Tryd.underlying25 rfl (off := 0) rfl Tryd.sizeOf3 (by decide) e4_4) ?_
  refine RL.val rfl (run_ld Tryd.underlying3 rfl rfl (hH4.cell (i := 0) rfl (relC_N _))) ?_
  refine RL.val rfl (run_lss rfl rfl) ?_
  refine RL.nil ?_
  refine CW.condP rfl (fun h6 => ?_) (fun h6 => ?_)
  · refine CW.skip ?_
    refine CW.seq ?_
    refine CW.block ?_
    refine CW.seq ?_
    refine CW.region ?_
    refine RL.val rfl (run_assign (v := I 0) rfl) ?_
    refine RL.nil ?_
    refine CW.block ?_
    refine CW.loop (G := (Int)) (fun (y : Int) s' w' => (Fr [8, 10, 17, 18, 19, 20, 21, 22, 23, 24, 25, 26, 27, 28, 29, 30, 31, 32, 33, 34, 35, 36, 37, 38, 39] _ s') ∧ (Hp w w' _) ∧ (s' 10 = I y) ∧ (0 ≤ y) ∧ (y ≤ r.n) ∧ (∀ z : Int, 0 ≤ z → z < y → ¬ (outG r s p z = true ∧ hasR r o p = true ∧ hasR r x z = true))) (fun (y : Int) => (r.n - y).toNat) (0) ⟨Fr.refl _ _, hH4, rfl, (by omega), (by omega), fun z a b => absurd b (by omega)⟩ ?_
    rintro y sg7 w7 ⟨fr7, hH7, e10_7, y0, y1, hg⟩
    have e1_7 := (fr7 1 rfl).trans e1_4
    have e2_7 := (fr7 2 rfl).trans e2_4
    have e3_7 := (fr7 3 rfl).trans e3_4
    have e4_7 := (fr7 4 rfl).trans e4_4
    have e9_7 := (fr7 9 rfl).trans e9_4
    have e11_7 : sg7 11 = I _ := (fr7 11 rfl).trans rfl
    have e12_7 : sg7 12 = .pointer (some ⟨_, _, none⟩) := (fr7 12 rfl).trans rfl
    have e13_7 : sg7 13 = I _ := (fr7 13 rfl).trans rfl
    have e14_7 : sg7 14 = B _ := (fr7 14 rfl).trans rfl
    refine CW.seq ?_
    refine CW.seq ?_
    refine CW.region ?_
    refine RL.val rfl (run_move e10_7) ?_
    refine RL.val rfl (run_fieldAddr Tryd.underlying25 rfl (off := 0) rfl Tryd.sizeOf3 (by decide) e4_7) ?_
    refine RL.val rfl (run_ld Tryd.underlying3 rfl rfl (hH7.cell (i := 0) rfl (relC_N _))) ?_
    refine RL.val rfl (run_lss rfl rfl) ?_
    refine RL.nil ?_
    refine CW.condP rfl (fun h9 => ?_) (fun h9 => ?_)
    · refine CW.skip ?_
      refine CW.seq ?_
      refine CW.block ?_
      refine CW.seq ?_
      refine CW.region ?_
      refine RL.val rfl (run_ldRel Tryd.underlying25 rfl rfl e4_7 (hH7.blk (i := 0) rfl)) ?_
      refine RL.val rfl (run_move e1_7) ?_
      refine RL.val rfl (run_move e9_7) ?_
      refine RL.val rfl (run_move e10_7) ?_
      refine RL.callP rfl hH7 (c_clearanceref05_Out _ _ _ _ (by first | assumption | omega) _) (run_call4 Tryd.call110 rfl rfl rfl rfl) ?_
      intro w10 hH11
      refine RL.val rfl (run_move (v := B _) rfl) ?_
      refine RL.split (dj := 28) rfl (fun h13 => ?_) (fun h13 => ?_)
      · refine RL.gT rfl (bR (c := true) h13) ?_
        refine RL.val rfl (run_ldRel Tryd.underlying25 rfl rfl e4_7 (hH11.blk (i := 0) rfl)) ?_
        refine RL.gT rfl (bR (c := true) h13) ?_
        refine RL.val rfl (run_move e2_7) ?_
        refine RL.gT rfl (bR (c := true) h13) ?_
        refine RL.val rfl (run_move e9_7) ?_
        refine RL.gT rfl (bR (c := true) h13) ?_
        refine RL.callP rfl hH11 (c_clearanceref03_Has _ _ _  _) (run_call3 Tryd.call26 rfl rfl rfl) ?_
        intro w14 hH15
        refine RL.val rfl (run_pickT (bR (c := true) h13) (v := B _) rfl) ?_
        refine RL.val rfl (run_move (v := B _) rfl) ?_
        refine RL.split (dj := 34) rfl (fun h17 => ?_) (fun h17 => ?_)
        · refine RL.gT rfl (bR (c := true) h17) ?_
          refine RL.val rfl (run_ldRel Tryd.underlying25 rfl rfl e4_7 (hH15.blk (i := 0) rfl)) ?_
          refine RL.gT rfl (bR (c := true) h17) ?_
          refine RL.val rfl (run_move e3_7) ?_
          refine RL.gT rfl (bR (c := true) h17) ?_
          refine RL.val rfl (run_move e10_7) ?_
          refine RL.gT rfl (bR (c := true) h17) ?_
          refine RL.callP rfl hH15 (c_clearanceref03_Has _ _ _  _) (run_call3 Tryd.call26 rfl rfl rfl) ?_
          intro w18 hH19
          refine RL.val rfl (run_pickT (bR (c := true) h17) (v := B _) rfl) ?_
          refine RL.nil ?_
          refine CW.cond rfl (fun h21 => ?_) (fun h21 => ?_)
          · refine CW.seq ?_
            refine CW.region ?_
            refine RL.val rfl (run_assign (v := B true) rfl) ?_
            refine RL.nil ?_
            refine CW.ret ?_
            refine outP1 Tryd.results105 (congrArg B ?_) hH19.below
            first | exact (fol_iff.2 ⟨p, y, ‹_›, ‹_›, ‹_›⟩).symm | exact (fol_none ‹_› hf).symm
          · refine CW.skip ?_
            refine CW.region ?_
            refine RL.val rfl (run_move e10_7) ?_
            refine RL.val rfl (run_add rfl rfl (by omega)) ?_
            refine RL.val rfl (run_assign (v := I _) rfl) ?_
            refine RL.nil ?_
            refine ⟨y + 1, ?_, (((((((((((((((((((((((fr7.u rfl).u rfl).u rfl).u rfl).u rfl).u rfl).u rfl).u rfl).u rfl).u rfl).u rfl).u rfl).u rfl).u rfl).u rfl).u rfl).u rfl).u rfl).u rfl).u rfl).u rfl).u rfl).u rfl).u rfl, hH19, (congrArg I (by first | rfl | omega)), ?_, ?_, ?_⟩
            · ((try dsimp only); omega)
            · omega
            · omega
            · exact fun z a b h => if e : z = y then (by subst e; simp_all) else hg z a (by omega) h
        · refine RL.gF rfl rfl (bR (c := false) h17) rfl ?_
          refine RL.gF rfl rfl (bR (c := false) h17) rfl ?_
          refine RL.gF rfl rfl (bR (c := false) h17) rfl ?_
          refine RL.gF rfl rfl (bR (c := false) h17) rfl ?_
          refine RL.val rfl (run_pickF (bR (c := false) h17) (v := B false) rfl) ?_
          refine RL.nil ?_
          refine CW.condF rfl ?_
          refine CW.skip ?_
          refine CW.region ?_
          refine RL.val rfl (run_move e10_7) ?_
          refine RL.val rfl (run_add rfl rfl (by omega)) ?_
          refine RL.val rfl (run_assign (v := I _) rfl) ?_
          refine RL.nil ?_
          refine ⟨y + 1, ?_, (((((((((((((((((((((((fr7.u rfl).u rfl).u rfl).u rfl).u rfl).u rfl).u rfl).u rfl).u rfl).u rfl).u rfl).u rfl).u rfl).u rfl).u rfl).u rfl).u rfl).u rfl).u rfl).u rfl).u rfl).u rfl).u rfl).u rfl, hH15, (congrArg I (by first | rfl | omega)), ?_, ?_, ?_⟩
          · ((try dsimp only); omega)
          · omega
          · omega
          · exact fun z a b h => if e : z = y then (by subst e; simp_all) else hg z a (by omega) h
      · refine RL.gF rfl rfl (bR (c := false) h13) rfl ?_
        refine RL.gF rfl rfl (bR (c := false) h13) rfl ?_
        refine RL.gF rfl rfl (bR (c := false) h13) rfl ?_
        refine RL.gF rfl rfl (bR (c := false) h13) rfl ?_
        refine RL.val rfl (run_pickF (bR (c := false) h13) (v := B false) rfl) ?_
        refine RL.val rfl (run_move (v := B _) rfl) ?_
        refine RL.gF rfl rfl rfl rfl ?_
        refine RL.gF rfl rfl rfl rfl ?_
        refine RL.gF rfl rfl rfl rfl ?_
        refine RL.gF rfl rfl rfl rfl ?_
        refine RL.val rfl (run_pickF rfl (v := B false) rfl) ?_
        refine RL.nil ?_
        refine CW.condF rfl ?_
        refine CW.skip ?_
        refine CW.region ?_
        refine RL.val rfl (run_move e10_7) ?_
        refine RL.val rfl (run_add rfl rfl (by omega)) ?_
        refine RL.val rfl (run_assign (v := I _) rfl) ?_
        refine RL.nil ?_
        refine ⟨y + 1, ?_, (((((((((((((((((((((((fr7.u rfl).u rfl).u rfl).u rfl).u rfl).u rfl).u rfl).u rfl).u rfl).u rfl).u rfl).u rfl).u rfl).u rfl).u rfl).u rfl).u rfl).u rfl).u rfl).u rfl).u rfl).u rfl).u rfl).u rfl, hH11, (congrArg I (by first | rfl | omega)), ?_, ?_, ?_⟩
        · ((try dsimp only); omega)
        · omega
        · omega
        · exact fun z a b h => if e : z = y then (by subst e; simp_all) else hg z a (by omega) h
    · refine CW.exit (id := 2) rfl ?_
      refine CW.region ?_
      refine RL.val rfl (run_move e9_7) ?_
      refine RL.val rfl (run_add rfl rfl (by omega)) ?_
      refine RL.val rfl (run_assign (v := I _) rfl) ?_
      refine RL.nil ?_
      refine ⟨p + 1, ?_, (((((((((((((fr4.u rfl).u rfl).u rfl).u rfl).u rfl).t fr7 rfl)).u rfl).u rfl).u rfl).u rfl).u rfl).u rfl).u rfl, hH7, (congrArg I (by first | rfl | omega)), ?_, ?_, ?_⟩
      · ((try dsimp only); omega)
      · omega
      · omega
      · exact fun q y a b h => if e : q = p then hg y (out_iff.1 h.1).1.2.1 (by have := (out_iff.1 h.1).1; omega) (e ▸ h) else hf q y a (by omega) h
  · refine CW.exit (id := 0) rfl ?_
    refine CW.seq ?_
    refine CW.region ?_
    refine RL.val rfl (run_assign (v := B false) rfl) ?_
    refine RL.nil ?_
    refine CW.ret ?_
    refine outP1 Tryd.results105 (congrArg B ?_) hH4.below
    first | exact (fol_iff.2 ⟨p, y, ‹_›, ‹_›, ‹_›⟩).symm | exact (fol_none ‹_› hf).symm

end Go.Proofs.YtgpneklbdmgjgaaDoor.W
