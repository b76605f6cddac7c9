/-
  The walks of the functions that the laws of this seat reach, part 2: each returns what its plain counterpart tells, and turns nothing that was there.
-/
import Derived.Test.YtkdbiooamgnfmaaGreatDoorProg
import Derived.Test.YtkdbiooamgnfmaaGreatDoorEnv
import Derived.Test.YtkdbiooamgnfmaaGreatDoorPlain
import Derived.Test.YtkdbiooamgnfmaaGreatDoorBase
import Derived.Test.YtkdbiooamgnfmaaGreatDoorOrd
import Derived.Test.YtkdbiooamgnfmaaGreatDoorRel
import Derived.Test.YtkdbiooamgnfmaaGreatDoorClo
import Derived.Test.YtkdbiooamgnfmaaGreatDoorCov
import Derived.Test.YtkdbiooamgnfmaaGreatDoorArr
import Derived.Test.YtkdbiooamgnfmaaGreatDoorHas
import Derived.Test.YtkdbiooamgnfmaaGreatDoorGrd
import Derived.Test.YtkdbiooamgnfmaaGreatDoorStr
import Derived.Test.YtkdbiooamgnfmaaGreatDoorVu
import Derived.Test.YtkdbiooamgnfmaaGreatDoorShp
import Derived.Test.YtkdbiooamgnfmaaGreatDoorShl
import Derived.Test.YtkdbiooamgnfmaaGreatDoorShq
import Derived.Test.YtkdbiooamgnfmaaGreatDoorCut
import Derived.Test.YtkdbiooamgnfmaaGreatDoorRec
import Derived.Test.YtkdbiooamgnfmaaGreatDoorScp
import Derived.Test.YtkdbiooamgnfmaaGreatDoorNod
import Derived.Test.YtkdbiooamgnfmaaGreatDoorSpn
import Derived.Test.YtkdbiooamgnfmaaGreatDoorSpy
import Derived.Test.YtkdbiooamgnfmaaGreatDoorMk
import Derived.Test.YtkdbiooamgnfmaaGreatDoorAsn
import Derived.Test.YtkdbiooamgnfmaaGreatDoorAsr
import Derived.Test.YtkdbiooamgnfmaaGreatDoorAst
import Derived.Test.YtkdbiooamgnfmaaGreatDoorAsw
import Derived.Test.YtkdbiooamgnfmaaGreatDoorRgs
import Derived.Test.YtkdbiooamgnfmaaGreatDoorIns
import Derived.Test.YtkdbiooamgnfmaaGreatDoorCod
import Derived.Test.YtkdbiooamgnfmaaGreatDoorFit
import Derived.Test.YtkdbiooamgnfmaaGreatDoorRow
import Derived.Test.YtkdbiooamgnfmaaGreatDoorHol
import Derived.Test.YtkdbiooamgnfmaaGreatDoorGap
import Derived.Test.YtkdbiooamgnfmaaGreatDoorMap
import Derived.Test.YtkdbiooamgnfmaaGreatDoorExn
import Derived.Test.YtkdbiooamgnfmaaGreatDoorMin
import Derived.Test.YtkdbiooamgnfmaaGreatDoorHoldsTellsPacesA
namespace Go.Proofs.YtkdbiooamgnfmaaGreatDoor.W
open Go Go.RowKit Go.Proofs.YtkdbiooamgnfmaaGreatDoor.E Go.Proofs.YtkdbiooamgnfmaaGreatDoor.M
set_option linter.unusedVariables false
set_option linter.unusedSimpArgs false
set_option maxRecDepth 100000
open Tryz
theorem c_shape_Right (s : Shp) (w : World) (hs : ShpV (Kw w) s) (hT : Tab w) : Calls Tryz.prog 55 #[.agg (shpC s)] w (Pure (B (shR s.sh)) w) := by
 have hsl := sh_len s
 have hm := hs.facs.sl.small
 unfold maxLen at hm
 refine enter Tryz.func55 rfl Tryz.ntmps55 rfl <| have hH := Hp.start w; SR <| RL.new rfl hH (f := fun b => (.pointer (some ⟨b, 0, none⟩))) (run_box (v := .agg _) rfl) <| fun b3 w1 hH2 => va (v := B false) rfl <| RL.nil <| SR <| V (fA underlying65 1 rfl sizeOf63 rfl) <| V (run_ld underlying63 rfl rfl (hH2.cell (i := 0) rfl rfl)) <| V (run_lenSl (hs.facs.sl.hp hH2) rfl underlying63 rfl) <| aI rfl <| RL.nil <| CW.seq <| SR <| mI rfl <| V (run_lss rfl rfl) <| mB rfl <| RL.splitP (dj := 11) rfl (fun h5 => ?_) (fun h5 => ?_)
 ·refine gF rfl (bT h5) <| gF rfl (bT h5) <| V (run_pickT (bT h5) (v := B true) rfl) <| mB rfl <| gF rfl rfl <| gF rfl rfl <| gF rfl rfl <| gF rfl rfl <| RL.gU rfl rfl rfl <| RL.gU rfl rfl rfl <| gF rfl rfl <| V (run_pickT rfl (v := B true) rfl) <| RL.nil <| CW.condT rfl <| SR <| va (v := B false) rfl <| RL.nil <| CW.ret <| outP1 Tryz.results55 (congrArg B ?_) hH2.below
  exact (shR_no1 (by omega)).symm
 ·refine gT rfl (bF h5) <| mI rfl <| gT rfl (bF h5) <| V (run_gtr rfl rfl) <| V (run_pickF (bF h5) (v := B _) rfl) <| mB rfl <| RL.splitP (dj := 15) rfl (fun h7 => ?_) (fun h7 => ?_)
  ·refine gF rfl (bT h7) <| gF rfl (bT h7) <| gF rfl (bT h7) <| gF rfl (bT h7) <| RL.gU rfl rfl rfl <| RL.gU rfl rfl rfl <| gF rfl (bT h7) <| V (run_pickT (bT h7) (v := B true) rfl) <| RL.nil <| CW.condT rfl <| SR <| va (v := B false) rfl <| RL.nil <| CW.ret <| outP1 Tryz.results55 (congrArg B ?_) hH2.below
   exact (shR_no1 (by omega)).symm
  ·refine gT rfl (bF h7) <| V (fA underlying65 0 rfl sizeOf4 rfl) <| gT rfl (bF h7) <| V (run_ld underlying4 rfl rfl (hH2.cell (i := 0) rfl (v := B _) rfl)) <| gT rfl (bF h7) <| V (run_not rfl) <| gT rfl (bF h7) <| mB rfl <| RL.split (dj := 19) rfl (fun h10 => ?_) (fun h10 => ?_)
   ·refine gT rfl (bR (c := true) h10) <| mI rfl <| gT rfl (bR (c := true) h10) <| V (run_neq rfl rfl) <| gT rfl (bF h7) <| V (run_pickT (bR (c := true) h10) (v := B _) rfl) <| V (run_pickF (bF h7) (v := B _) rfl) <| RL.nil <| CW.condP rfl (fun h12 => ?_) (fun h12 => ?_)
    ·refine SR <| va (v := B false) rfl <| RL.nil <| CW.ret <| outP1 Tryz.results55 (congrArg B ?_) hH2.below
     exact (shR_no2 (by exact nt ‹_›) (by omega)).symm
    ·refine CW.skip <| CW.seq <| SR <| V (fA underlying65 1 rfl sizeOf63 rfl) <| V (run_ld underlying63 rfl rfl (hH2.cell (i := 0) rfl rfl)) <| V (run_lenSl (hs.facs.sl.hp hH2) rfl underlying63 rfl) <| vm (v := I 0) rfl <| RL.nil <| CW.block <| have hc2 : s.sh.tuple = true ∨ s.sh.facs.length = 1 := (by exact .inr (by omega)); have hc1 : 1 ≤ s.facs.length ∧ s.facs.length ≤ 8 := (by omega); CW.loop (G := Int) (fun k s' w' => (Fr (2 :: (5 :: (rg 27 8 []))) _ s') ∧ (Hp w w' _) ∧ (s' 27 = I k) ∧ (0 ≤ k) ∧ (k ≤ s.facs.length) ∧ (∀ j : Int, 0 ≤ j → j < k → factorR (s.facs.getD j.toNat fac0).fc = true)) (fun k => (s.facs.length - k).toNat) (0) ⟨Fr.refl _ _, hH2, rfl, (by omega), (by omega), fun j a b => absurd b (by omega)⟩ <| ?_
     rintro k sg13 w13 ⟨fr13, hH13, e27_13, h0, hk, hg⟩
     have e25_13 := (fr13 25 rfl).trans (by conv => lhs; whnf)
     have e26_13 := fr13.ii 26 rfl rfl
     refine SR <| V (run_lss e27_13 e26_13) <| RL.nil <| CW.seq <| CW.condP rfl (fun h15 => ?_) (fun h15 => ?_)
     ·refine CW.skip <| CW.seq <| CW.block <| SR <| V (run_indexAddrS (hs.facs.sl.hp hH13) underlying63 sizeOf62 e25_13 e27_13 (by omega)) <| V (run_ldE (dv := fac0) facL_len (hs.facs.sl.hp hH13) underlying62 rfl rfl rfl (by omega)) <| RL.new rfl hH13 (f := fun b => (.pointer (some ⟨b, 0, none⟩))) (run_alloc zero_fac) <| fun b18 w16 hH17 => RL.set hH17 (i := 0) rfl (run_stFac (hs.at (by omega) (by omega)) rfl rfl rfl (hH17.blk (i := 0) rfl)) <| fun w19 hH20 => ?_
      simp only [z2] at hH20
      refine RL.nil <| SR <| V (run_ldFac underlying62 rfl rfl rfl (hH20.blk (i := 0) rfl)) <| RL.callP rfl hH20 (c_shape_factor _  _ ((hs.at (by omega) (by omega)).mono hH20.kw) (hT.hp hH20)) (run_call1 call80 rfl) <| fun w21 hH22 => V (run_not rfl) <| RL.nil <| CW.cond rfl (fun h25 => ?_) (fun h25 => ?_)
      ·refine SR <| va (v := B false) rfl <| RL.nil <| CW.ret <| outP1 Tryz.results55 (congrArg B ?_) hH22.below
       exact (shR_no3 (k := k) h0 (by omega) (by rw [sh_get]; exact nt ‹_›)).symm
      ·refine CW.skip <| CW.region <| V (run_add e27_13 rfl (by omega)) <| mI rfl <| RL.nil <| ?_
       refine ⟨k + 1, ?_, fr13.u4.u4.u1, (hH22.sub (sQ sR)), (congrArg I (by rfl)), ?_, ?_, ?_⟩
       ·((try dsimp only); omega)
       ·omega
       ·omega
       ·exact fun j a b => if e : j = k then e ▸ nf ‹_› else hg j a (by omega)
     ·refine CW.exit (id := 0) rfl <| SR <| va (v := B true) rfl <| RL.nil <| CW.ret <| outP1 Tryz.results55 (congrArg B ?_) hH13.below
      exact (shR_yes (k := k) (by omega) hc2 (by omega) fun j a b => by rw [sh_get]; exact hg j a b).symm
   ·refine gF rfl (bR (c := false) h10) <| gF rfl (bR (c := false) h10) <| gT rfl (bF h7) <| V (run_pickF (bR (c := false) h10) (v := B false) rfl) <| V (run_pickF (bF h7) (v := B _) rfl) <| RL.nil <| CW.condF rfl <| CW.skip <| CW.seq <| SR <| V (fA underlying65 1 rfl sizeOf63 rfl) <| V (run_ld underlying63 rfl rfl (hH2.cell (i := 0) rfl rfl)) <| V (run_lenSl (hs.facs.sl.hp hH2) rfl underlying63 rfl) <| vm (v := I 0) rfl <| RL.nil <| CW.block <| have hc2 : s.sh.tuple = true ∨ s.sh.facs.length = 1 := (by exact .inl (nf ‹(!s.tuple) = false›)); have hc1 : 1 ≤ s.facs.length ∧ s.facs.length ≤ 8 := (by omega); CW.loop (G := Int) (fun k s' w' => (Fr (2 :: (5 :: (rg 27 8 []))) _ s') ∧ (Hp w w' _) ∧ (s' 27 = I k) ∧ (0 ≤ k) ∧ (k ≤ s.facs.length) ∧ (∀ j : Int, 0 ≤ j → j < k → factorR (s.facs.getD j.toNat fac0).fc = true)) (fun k => (s.facs.length - k).toNat) (0) ⟨Fr.refl _ _, hH2, rfl, (by omega), (by omega), fun j a b => absurd b (by omega)⟩ <| ?_
    rintro k sg26 w26 ⟨fr26, hH26, e27_26, h0, hk, hg⟩
    have e25_26 := (fr26 25 rfl).trans (by conv => lhs; whnf)
    have e26_26 := fr26.ii 26 rfl rfl
    refine SR <| V (run_lss e27_26 e26_26) <| RL.nil <| CW.seq <| CW.condP rfl (fun h28 => ?_) (fun h28 => ?_)
    ·refine CW.skip <| CW.seq <| CW.block <| SR <| V (run_indexAddrS (hs.facs.sl.hp hH26) underlying63 sizeOf62 e25_26 e27_26 (by omega)) <| V (run_ldE (dv := fac0) facL_len (hs.facs.sl.hp hH26) underlying62 rfl rfl rfl (by omega)) <| RL.new rfl hH26 (f := fun b => (.pointer (some ⟨b, 0, none⟩))) (run_alloc zero_fac) <| fun b31 w29 hH30 => RL.set hH30 (i := 0) rfl (run_stFac (hs.at (by omega) (by omega)) rfl rfl rfl (hH30.blk (i := 0) rfl)) <| fun w32 hH33 => ?_
     simp only [z2] at hH33
     refine RL.nil <| SR <| V (run_ldFac underlying62 rfl rfl rfl (hH33.blk (i := 0) rfl)) <| RL.callP rfl hH33 (c_shape_factor _  _ ((hs.at (by omega) (by omega)).mono hH33.kw) (hT.hp hH33)) (run_call1 call80 rfl) <| fun w34 hH35 => V (run_not rfl) <| RL.nil <| CW.cond rfl (fun h38 => ?_) (fun h38 => ?_)
     ·refine SR <| va (v := B false) rfl <| RL.nil <| CW.ret <| outP1 Tryz.results55 (congrArg B ?_) hH35.below
      exact (shR_no3 (k := k) h0 (by omega) (by rw [sh_get]; exact nt ‹_›)).symm
     ·refine CW.skip <| CW.region <| V (run_add e27_26 rfl (by omega)) <| mI rfl <| RL.nil <| ?_
      refine ⟨k + 1, ?_, fr26.u4.u4.u1, (hH35.sub (sQ sR)), (congrArg I (by rfl)), ?_, ?_, ?_⟩
      ·((try dsimp only); omega)
      ·omega
      ·omega
      ·exact fun j a b => if e : j = k then e ▸ nf ‹_› else hg j a (by omega)
    ·refine CW.exit (id := 0) rfl <| SR <| va (v := B true) rfl <| RL.nil <| CW.ret <| outP1 Tryz.results55 (congrArg B ?_) hH26.below
     exact (shR_yes (k := k) (by omega) hc2 (by omega) fun j a b => by rw [sh_get]; exact hg j a b).symm
theorem c_shape_word (f : Fac) (s : BitVec 64) (w : World) (hf : FacV (Kw w) f) (hT : Tab w) : Calls Tryz.prog 67 #[.agg (facC f), U s] w (Pure (B (wordF f.fc s)) w) := by
 have hm := hf.names.sl.small
 unfold maxLen at hm
 refine enter Tryz.func67 rfl Tryz.ntmps67 rfl <| have hH := Hp.start w; SR <| RL.new rfl hH (f := fun b => (.pointer (some ⟨b, 0, none⟩))) (run_box (v := .agg _) rfl) <| fun b3 w1 hH2 => va (v := B false) rfl <| RL.nil <| CW.seq <| SR <| V (fA underlying62 0 rfl sizeOf3 rfl) <| V (run_ld underlying3 rfl rfl (hH2.cell (i := 0) rfl (v := I _) rfl)) <| RL.nil <| CW.block <| SR <| V (run_eql rfl rfl) <| aB rfl <| RL.nil <| CW.condP rfl (fun h5 => ?_) (fun h5 => ?_)
 ·refine SR <| V (fA underlying62 1 rfl sizeOf57 rfl) <| V (run_ld underlying57 rfl rfl (hH2.cell (i := 0) rfl rfl)) <| V (run_lenSl (hf.names.sl.hp hH2) rfl underlying57 rfl) <| mU rfl <| RL.callP rfl hH2 (c_rung_Right _ _  _) (run_call2 call87 rfl rfl) <| fun w6 hH7 => aB rfl <| RL.nil <| CW.ret <| outP1 Tryz.results67 (congrArg B ?_) hH7.below
  exact (word1 (f := f.fc) ‹_› s).symm
 ·refine SR <| V (run_eql rfl rfl) <| aB rfl <| RL.nil <| CW.condP rfl (fun h10 => ?_) (fun h10 => ?_)
  ·refine SR <| mU rfl <| V (fA underlying62 1 rfl sizeOf57 rfl) <| V (run_ld underlying57 rfl rfl (hH2.cell (i := 0) rfl rfl)) <| V (run_lenSl (hf.names.sl.hp hH2) rfl underlying57 rfl) <| RL.callP rfl hH2 (c_mask_Below _  _) (run_call1 call88 rfl) <| fun w11 hH12 => RL.callP rfl hH12 (c_mask_Sub _ _  _) (run_call2 call46 rfl rfl) <| fun w13 hH14 => aB rfl <| RL.nil <| CW.ret <| outP1 Tryz.results67 (congrArg B ?_) hH14.below
   exact (word2 (f := f.fc) ‹_› s).symm
  ·refine SR <| V (run_eql rfl rfl) <| aB rfl <| RL.nil <| CW.condP rfl (fun h17 => ?_) (fun h17 => ?_)
   ·refine SR <| V (fA underlying62 2 rfl sizeOf60 rfl) <| V (run_ldBR underlying60 rfl rfl rfl (hH2.blk (i := 0) rfl)) <| mU rfl <| RL.callP rfl hH2 (c_grid_Closed _ _  _ (hT.hp hH2)) (run_call2 call89 rfl rfl) <| fun w18 hH19 => aB rfl <| RL.nil <| CW.ret <| outP1 Tryz.results67 (congrArg B ?_) hH19.below
    exact (word3 (f := f.fc) ‹_› s).symm
   ·refine CW.skip <| SR <| V (fA underlying62 2 rfl sizeOf60 rfl) <| V (run_ldBR underlying60 rfl rfl rfl (hH2.blk (i := 0) rfl)) <| mU rfl <| RL.callP rfl hH2 (c_hasse_Point _ _  _ (hT.hp hH2)) (run_call2 call90 rfl rfl) <| fun w21 hH22 => ?_
    refine V (run_move (by conv => lhs; whnf)) ?_
    refine V (run_extract rfl (v := I _) rfl) <| V (run_extract rfl (v := B _) rfl) <| aI rfl <| aB rfl <| RL.nil <| SR <| mB rfl <| aB rfl <| RL.nil <| CW.ret <| outP1 Tryz.results67 (congrArg B ?_) hH22.below
    exact (wordx (f := f.fc) ‹_› ‹_› ‹_› s).symm
theorem c_shape_Fits (s : Shp) (e : El) (w : World) (hs : ShpV (Kw w) s) (hT : Tab w) : Calls Tryz.prog 38 #[.agg (shpC s), .agg (elC e)] w (Pure (B (fitsS s.sh e)) w) := by
 have hsl := sh_len s
 have hm := hs.facs.sl.small
 unfold maxLen at hm
 refine enter Tryz.func38 rfl Tryz.ntmps38 rfl <| have hH := Hp.start w; SR <| RL.new rfl hH (f := fun b => (.pointer (some ⟨b, 0, none⟩))) (run_box (v := .agg _) rfl) <| fun b3 w1 hH2 => RL.new rfl hH2 (f := fun b => (.pointer (some ⟨b, 0, none⟩))) (run_box (v := .agg _) rfl) <| fun b6 w4 hH5 => va (v := B false) rfl <| RL.nil <| CW.seq <| SR <| V (run_ldA (cs := [B _, _]) underlying65 rfl rfl rfl (rangeAt_cells (hH5.blk (i := 1) rfl))) <| RL.callP rfl hH5 (c_shape_Right _  _ (hs.mono hH5.kw) (hT.hp hH5)) (run_call1 call55 rfl) <| fun w7 hH8 => V (run_not rfl) <| RL.nil <| CW.cond rfl (fun h11 => ?_) (fun h11 => ?_)
 ·refine SR <| va (v := B false) rfl <| RL.nil <| CW.ret <| outP1 Tryz.results38 (congrArg B ?_) hH8.below
  exact (fits_no1 (nt ‹_›)).symm
 ·refine CW.skip <| CW.seq <| SR <| V (run_ldEl underlying39 rfl rfl rfl (hH8.blk (i := 0) rfl)) <| vm (v := I 0) rfl <| RL.nil <| CW.block <| have hr : shR s.sh = true := nf ‹_›; CW.loop (G := Int) (fun k s' w' => (Fr (rg 4 3 (rg 11 20 [])) _ s') ∧ (Hp w w' _) ∧ (s' 11 = I k) ∧ (0 ≤ k) ∧ (k ≤ 8) ∧ (FitTo s.sh e k)) (fun k => (8 - k).toNat) (0) ⟨Fr.refl _ _, hH8, rfl, (by omega), (by omega), FitTo.none _ _⟩ <| ?_
  rintro k sg12 w12 ⟨fr12, hH12, e11_12, h0, hk, hf⟩
  have e2_12 := fr12.pp 2 rfl rfl
  have e10_12 := fr12.aa 10 rfl rfl
  refine SR <| V (run_lss e11_12 rfl) <| RL.nil <| CW.seq <| CW.condP rfl (fun h14 => ?_) (fun h14 => ?_)
  ·refine CW.skip <| CW.seq <| CW.block <| SR <| vm e11_12 <| V (run_indexA underlying39 isAgg37 sizeOf37 e10_12 e11_12 (by omega) (elC_ix _ (by omega))) <| aI rfl <| aU rfl <| RL.nil <| CW.seq <| SR <| mI rfl <| V (fA underlying65 1 rfl sizeOf63 e2_12) <| V (run_ld underlying63 rfl rfl (hH12.cell (i := 1) rfl rfl)) <| V (run_lenSl (hs.facs.sl.hp hH12) rfl underlying63 rfl) <| V (run_geq rfl rfl) <| RL.nil <| CW.condP rfl (fun h16 => ?_) (fun h16 => ?_)
   ·refine CW.seq <| SR <| mU rfl <| V (run_neqU rfl (b := 0#64) rfl) <| RL.nil <| CW.condP rfl (fun h18 => ?_) (fun h18 => ?_)
    ·refine SR <| va (v := B false) rfl <| RL.nil <| CW.ret <| outP1 Tryz.results38 (congrArg B ?_) hH12.below
     exact (fits_no3 h0 ‹_› (by omega) ‹_›).symm
    ·refine CW.skip <| CW.exit (id := 1) rfl <| CW.region <| V (run_add e11_12 rfl (by omega)) <| mI rfl <| RL.nil <| ?_
     refine ⟨k + 1, ?_, fr12.u4.u4.u4.u1.u1, hH12, (congrArg I (by rfl)), ?_, ?_, ?_⟩
     ·((try dsimp only); omega)
     ·omega
     ·omega
     ·exact hf.next (fun h => by exfalso; omega) (fun h => by exact Decidable.of_not_not ‹_›)
   ·refine CW.skip <| SR <| V (fA underlying65 1 rfl sizeOf63 e2_12) <| V (run_ld underlying63 rfl rfl (hH12.cell (i := 1) rfl rfl)) <| mI rfl <| V (run_indexAddrS (hs.facs.sl.hp hH12) underlying63 sizeOf62 rfl rfl (by omega)) <| V (run_ldE (dv := fac0) facL_len (hs.facs.sl.hp hH12) underlying62 rfl rfl rfl (by omega)) <| mU rfl <| RL.callP rfl hH12 (c_shape_word _ _  _ ((hs.at (by omega) (by omega)).mono hH12.kw) (hT.hp hH12)) (run_call2 call67 rfl rfl) <| fun w19 hH20 => V (run_not rfl) <| RL.nil <| CW.cond rfl (fun h23 => ?_) (fun h23 => ?_)
    ·refine SR <| va (v := B false) rfl <| RL.nil <| CW.ret <| outP1 Tryz.results38 (congrArg B ?_) hH20.below
     exact (fits_no2 h0 ‹_› (by omega) (by rw [sh_get]; exact nt ‹_›)).symm
    ·refine CW.skip <| CW.region <| V (run_add e11_12 rfl (by omega)) <| mI rfl <| RL.nil <| ?_
     refine ⟨k + 1, ?_, fr12.u4.u4.u4.u4.u4, hH20, (congrArg I (by rfl)), ?_, ?_, ?_⟩
     ·((try dsimp only); omega)
     ·omega
     ·omega
     ·exact hf.next (fun h => by rw [sh_get]; exact nf ‹_›) (fun h => by exfalso; omega)
  ·refine CW.exit (id := 0) rfl <| SR <| va (v := B true) rfl <| RL.nil <| CW.ret <| outP1 Tryz.results38 (congrArg B ?_) hH12.below
   exact (fits_yes hr ‹_› hf).symm
theorem c_shape_Leq (a b : El) (w : World) : Calls Tryz.prog 24 #[.agg (elC a), .agg (elC b)] w (Pure (B (leqE a b)) w) := by
 refine enter Tryz.func24 rfl Tryz.ntmps24 rfl <| have hH := Hp.start w; SR <| RL.new rfl hH (f := fun b => (.pointer (some ⟨b, 0, none⟩))) (run_box (v := .agg _) rfl) <| fun b3 w1 hH2 => RL.new rfl hH2 (f := fun b => (.pointer (some ⟨b, 0, none⟩))) (run_box (v := .agg _) rfl) <| fun b6 w4 hH5 => va (v := B false) rfl <| RL.nil <| CW.seq <| SR <| vm (v := I 0) rfl <| RL.nil <| CW.block <| CW.loop (G := Int) (fun k s' w' => (Fr (rg 4 14 []) _ s') ∧ (Hp w w' _) ∧ (s' 6 = I k) ∧ (0 ≤ k) ∧ (k ≤ 8) ∧ (∀ j : Int, 0 ≤ j → j < k → subB (a j.toNat) (b j.toNat) = true)) (fun k => (8 - k).toNat) (0) ⟨Fr.refl _ _, hH5, rfl, (by omega), (by omega), fun j u v => absurd v (by omega)⟩ <| ?_
 rintro k sg7 w7 ⟨fr7, hH7, e6_7, h0, hk, hf⟩
 have e2_7 := fr7.pp 2 rfl rfl
 have e3_7 := fr7.pp 3 rfl rfl
 refine SR <| V (run_lss e6_7 rfl) <| RL.nil <| CW.seq <| CW.condP rfl (fun h9 => ?_) (fun h9 => ?_)
 ·refine CW.skip <| CW.seq <| CW.block <| SR <| vm e6_7 <| aI rfl <| RL.nil <| CW.seq <| CW.regionD (by kernel_rfl) hH7 <| fun w10 hH11 => have zh11 := hH11.sub sR; AQ 0 rfl zh11 (mV (I _) rfl) <| AQ 1 rfl zh11 (run_indexAddrA underlying39 sizeOf37 e2_7 rfl (by omega)) <| AT 2 rfl zh11 (fun w hS => run_ld underlying37 rfl rfl (hS.cell (i := 1) rfl (elC_at _ (by omega)))) <| AQ 3 rfl zh11 (mV (I _) rfl) <| AQ 4 rfl zh11 (run_indexAddrA underlying39 sizeOf37 e3_7 rfl (by omega)) <| AT 5 rfl zh11 (fun w hS => run_ld underlying37 rfl rfl (hS.cell (i := 0) rfl (elC_at _ (by omega)))) <| A1 6 <| AO.callP rfl gnone rfl hH11 sR (c_mask_Sub _ _  _) (run_call2 call46 rfl rfl) <| fun w12 hH13 => AQ 7 rfl (hH13.sub sR) (run_not rfl) <| AD <| CW.cond rfl (fun h16 => ?_) (fun h16 => ?_)
  ·refine SR <| va (v := B false) rfl <| RL.nil <| CW.ret <| outP1 Tryz.results24 (congrArg B ?_) hH13.below
   exact (leq_no h0 ‹_› (nt ‹_›)).symm
  ·refine CW.skip <| CW.region <| V (run_add e6_7 rfl (by omega)) <| mI rfl <| RL.nil <| ?_
   refine ⟨k + 1, ?_, fr7.u4.u4.u4.u1, hH13, (congrArg I (by rfl)), ?_, ?_, ?_⟩
   ·((try dsimp only); omega)
   ·omega
   ·omega
   ·exact fun j u v => if e : j = k then e ▸ nf ‹_› else hf j u (by omega)
 ·refine CW.exit (id := 0) rfl <| SR <| va (v := B true) rfl <| RL.nil <| CW.ret <| outP1 Tryz.results24 (congrArg B ?_) hH7.below
  exact (leq_yes ‹_› hf).symm
theorem c_shape_Join (s : Shp) (a b : El) (w : World) (hs : ShpV (Kw w) s) (hT : Tab w) : Calls Tryz.prog 71 #[.agg (shpC s), .agg (elC a), .agg (elC b)] w (Pure (.agg (elC (joinS s.sh a b))) w) := by
 have hsl := sh_len s
 have hm := hs.facs.sl.small
 unfold maxLen at hm
 refine enter Tryz.func71 rfl Tryz.ntmps71 rfl <| have hH := Hp.start w; SR <| RL.new rfl hH (f := fun b => (.pointer (some ⟨b, 0, none⟩))) (run_box (v := .agg _) rfl) <| fun b3 w1 hH2 => RL.new rfl hH2 (f := fun b => (.pointer (some ⟨b, 0, none⟩))) (run_box (v := .agg _) rfl) <| fun b6 w4 hH5 => RL.new rfl hH5 (f := fun b => (.pointer (some ⟨b, 0, none⟩))) (run_box (v := .agg _) rfl) <| fun b9 w7 hH8 => RL.new rfl hH8 (f := fun b => (.pointer (some ⟨b, 0, none⟩))) (run_alloc zero_el) <| fun b12 w10 hH11 => RL.nil <| CW.seq <| SR <| vm (v := I 0) rfl <| RL.nil <| CW.block <| CW.loop (G := Int × El) (fun ⟨k, e1⟩ s' w' => (Fr (rg 7 42 []) _ s') ∧ (Hp w w' (_ :: _ :: .blk b6 (.cells (elC e1) 39 (0, 0)) :: _)) ∧ (s' 8 = I k) ∧ (0 ≤ k) ∧ (k ≤ 8) ∧ (e1 = mixE (joinS s.sh a b) a k)) (fun ⟨k, e1⟩ => (8 - k).toNat) ((0, a)) ⟨Fr.refl _ _, hH11, rfl, (by omega), (by omega), (mix_zero _ _).symm⟩ <| ?_
 rintro ⟨k, e1⟩ sg13 w13 ⟨fr13, hH13, e8_13, h0, hk, hr⟩
 have e3_13 := fr13.pp 3 rfl rfl
 have e4_13 := fr13.pp 4 rfl rfl
 have e5_13 := fr13.pp 5 rfl rfl
 have e6_13 := fr13.pp 6 rfl rfl
 refine SR <| V (run_lss e8_13 rfl) <| RL.nil <| CW.seq <| CW.condP rfl (fun h15 => ?_) (fun h15 => ?_)
 ·refine CW.skip <| CW.seq <| CW.block <| SR <| vm e8_13 <| aI rfl <| RL.nil <| CW.seq <| SR <| mI rfl <| V (fA underlying65 1 rfl sizeOf63 e3_13) <| V (run_ld underlying63 rfl rfl (hH13.cell (i := 3) rfl rfl)) <| V (run_lenSl (hs.facs.sl.hp hH13) rfl underlying63 rfl) <| V (run_lss rfl rfl) <| mB rfl <| RL.splitP (dj := 16) rfl (fun h17 => ?_) (fun h17 => ?_)
  ·refine gT rfl (bT h17) <| V (fA underlying65 1 rfl sizeOf63 e3_13) <| gT rfl (bT h17) <| V (run_ld underlying63 rfl rfl (hH13.cell (i := 3) rfl rfl)) <| gT rfl (bT h17) <| mI rfl <| gT rfl (bT h17) <| V (run_indexAddrS (hs.facs.sl.hp hH13) underlying63 sizeOf62 rfl rfl (by omega)) <| gT rfl (bT h17) <| V (fA underlying62 0 rfl sizeOf3 rfl) <| gT rfl (bT h17) <| V (run_ldE1 (dv := fac0) facL_len (hs.facs.sl.hp hH13) underlying3 rfl rfl (by omega) rfl) <| gT rfl (bT h17) <| V (run_eql rfl rfl) <| V (run_pickT (bT h17) (v := B _) rfl) <| RL.nil <| CW.condP rfl (fun h19 => ?_) (fun h19 => ?_)
   ·refine CW.seq <| CW.regionS (by kernel_rfl) hH13 (sP (sP (sQ sR))) <| fun w20 hH21 => have zh21 := hH21.sub (sP (sP (sQ sR))); AQ 0 rfl zh21 (mV (I _) rfl) <| AQ 1 rfl zh21 (fA underlying65 1 rfl sizeOf63 e3_13) <| AT 2 rfl zh21 (fun w hS => run_ld underlying63 rfl rfl (hS.cell (i := 2) rfl rfl)) <| AQ 3 rfl zh21 (mV (I _) rfl) <| AT 4 rfl zh21 (fun w hS => run_indexAddrS (hs.facs.sl.hp hS) underlying63 sizeOf62 rfl rfl (by omega)) <| AQ 5 rfl zh21 (fA underlying62 2 rfl sizeOf60 rfl) <| AT 6 rfl zh21 (fun w hS => run_ldFR (hs.facs.sl.hp hS) underlying60 rfl rfl rfl (by omega)) <| AQ 7 rfl zh21 (mV (I _) rfl) <| AQ 8 rfl zh21 (run_indexAddrA underlying39 sizeOf37 e4_13 rfl (by omega)) <| AQ 10 rfl zh21 (mV (I _) rfl) <| AQ 11 rfl zh21 (run_indexAddrA underlying39 sizeOf37 e5_13 rfl (by omega)) <| AT 12 rfl zh21 (fun w hS => run_ld underlying37 rfl rfl (hS.cell (i := 1) rfl (elC_at _ (by omega)))) <| A1 9 <| AO.read rfl gnone rfl hH21 (sP (sP (sQ sR))) (run_ld underlying37 rfl rfl (hH21.cell (i := 2) rfl (elC_at _ (by omega)))) <| A1 13 <| AO.callP rfl gnone rfl hH21 (sP (sP (sQ sR))) (c_hasse_Raise _ _ _  _ (hT.hp hH21)) (run_call3 call93 rfl rfl rfl) <| fun w24 hH25 => AQ 14 rfl (hH25.sub (sP (sP (sQ sR)))) (run_indexAddrA underlying39 sizeOf37 e4_13 rfl (by omega)) <| A1 15 <| AO.set rfl gnone hH25 (j := 2) rfl (sP (sP (sQ sR))) (run_st rfl rfl (v := U _) rfl rfl rfl (hH25.blk (i := 2) rfl) (by rw [elC_size]; omega)) <| fun w28 hH29 => ?_
    simp only [z2] at hH29
    rw [elC_put] at hH29
    refine AD <| CW.exit (id := 1) rfl <| CW.region <| V (run_add e8_13 rfl (by omega)) <| mI rfl <| RL.nil <| ?_
    refine ⟨(k + 1, _), ?_, fr13.u4.u4.u4.u4.u4.u4.u4.u4.u1.u1, hH29, (congrArg I (by rfl)), ?_, ?_, ?_⟩
    ·((try dsimp only); omega)
    ·omega
    ·omega
    ·exact join_put4 hr h0 ‹_› ‹_›
   ·refine CW.skip <| CW.regionS (by kernel_rfl) hH13 (sP (sP (sQ sR))) <| fun w30 hH31 => have zh31 := hH31.sub (sP (sP (sQ sR))); AQ 0 rfl zh31 (mV (I _) rfl) <| AQ 1 rfl zh31 (run_indexAddrA underlying39 sizeOf37 e4_13 rfl (by omega)) <| AQ 3 rfl zh31 (mV (I _) rfl) <| AQ 4 rfl zh31 (run_indexAddrA underlying39 sizeOf37 e5_13 rfl (by omega)) <| AT 5 rfl zh31 (fun w hS => run_ld underlying37 rfl rfl (hS.cell (i := 1) rfl (elC_at _ (by omega)))) <| A1 2 <| AO.read rfl gnone rfl hH31 (sP (sP (sQ sR))) (run_ld underlying37 rfl rfl (hH31.cell (i := 2) rfl (elC_at _ (by omega)))) <| AQ 6 rfl zh31 (run_orU rfl rfl) <| AQ 7 rfl zh31 (run_indexAddrA underlying39 sizeOf37 e4_13 rfl (by omega)) <| A1 8 <| AO.set rfl gnone hH31 (j := 2) rfl (sP (sP (sQ sR))) (run_st rfl rfl (v := U _) rfl rfl rfl (hH31.blk (i := 2) rfl) (by rw [elC_size]; omega)) <| fun w36 hH37 => ?_
    simp only [z2] at hH37
    rw [elC_put] at hH37
    refine AD <| CW.region <| V (run_add e8_13 rfl (by omega)) <| mI rfl <| RL.nil <| ?_
    refine ⟨(k + 1, _), ?_, fr13.u4.u4.u4.u4.u4.u4.u1.u1.u1, hH37, (congrArg I (by rfl)), ?_, ?_, ?_⟩
    ·((try dsimp only); omega)
    ·omega
    ·omega
    ·exact join_putO hr h0 (fun hc => absurd hc.1 (by omega))
  ·refine gF rfl (bF h17) <| gF rfl (bF h17) <| gF rfl (bF h17) <| gF rfl (bF h17) <| gF rfl (bF h17) <| gF rfl (bF h17) <| gF rfl (bF h17) <| V (run_pickF (bF h17) (v := B false) rfl) <| RL.nil <| CW.condF rfl <| CW.skip <| CW.regionS (by kernel_rfl) hH13 (sP (sP (sQ sR))) <| fun w38 hH39 => have zh39 := hH39.sub (sP (sP (sQ sR))); AQ 0 rfl zh39 (mV (I _) rfl) <| AQ 1 rfl zh39 (run_indexAddrA underlying39 sizeOf37 e4_13 rfl (by omega)) <| AQ 3 rfl zh39 (mV (I _) rfl) <| AQ 4 rfl zh39 (run_indexAddrA underlying39 sizeOf37 e5_13 rfl (by omega)) <| AT 5 rfl zh39 (fun w hS => run_ld underlying37 rfl rfl (hS.cell (i := 1) rfl (elC_at _ (by omega)))) <| A1 2 <| AO.read rfl gnone rfl hH39 (sP (sP (sQ sR))) (run_ld underlying37 rfl rfl (hH39.cell (i := 2) rfl (elC_at _ (by omega)))) <| AQ 6 rfl zh39 (run_orU rfl rfl) <| AQ 7 rfl zh39 (run_indexAddrA underlying39 sizeOf37 e4_13 rfl (by omega)) <| A1 8 <| AO.set rfl gnone hH39 (j := 2) rfl (sP (sP (sQ sR))) (run_st rfl rfl (v := U _) rfl rfl rfl (hH39.blk (i := 2) rfl) (by rw [elC_size]; omega)) <| fun w44 hH45 => ?_
   simp only [z2] at hH45
   rw [elC_put] at hH45
   refine AD <| CW.region <| V (run_add e8_13 rfl (by omega)) <| mI rfl <| RL.nil <| ?_
   refine ⟨(k + 1, _), ?_, fr13.u4.u4.u4.u4.u4.u4.u1.u1.u1, hH45, (congrArg I (by rfl)), ?_, ?_, ?_⟩
   ·((try dsimp only); omega)
   ·omega
   ·omega
   ·exact join_putO hr h0 (fun hc => absurd hc.1 (by omega))
 ·refine CW.exit (id := 0) rfl <| SR <| V (run_ldEl underlying39 rfl rfl e4_13 (hH13.blk (i := 2) rfl)) <| RL.set hH13 (i := 0) rfl (run_stEl rfl e6_13 rfl (hH13.blk (i := 0) rfl)) <| fun w46 hH47 => ?_
  simp only [z2] at hH47
  refine RL.nil <| CW.ret <| outCg Tryz.results71 e6_13 hH47 (i := 0) rfl underlying39 rfl (by rw [elC_size]; rfl) ⟨?_, hH47.below⟩
  (exact congrArg Value.agg (elC_congr (by rw [hr]; exact mix_all ‹_›)))
theorem c_shape_Meet (a b : El) (w : World) : Calls Tryz.prog 72 #[.agg (elC a), .agg (elC b)] w (Pure (.agg (elC (meetE a b))) w) := by
 refine enter Tryz.func72 rfl Tryz.ntmps72 rfl <| have hH := Hp.start w; SR <| RL.new rfl hH (f := fun b => (.pointer (some ⟨b, 0, none⟩))) (run_box (v := .agg _) rfl) <| fun b3 w1 hH2 => RL.new rfl hH2 (f := fun b => (.pointer (some ⟨b, 0, none⟩))) (run_box (v := .agg _) rfl) <| fun b6 w4 hH5 => RL.new rfl hH5 (f := fun b => (.pointer (some ⟨b, 0, none⟩))) (run_alloc zero_el) <| fun b9 w7 hH8 => RL.nil <| CW.seq <| SR <| vm (v := I 0) rfl <| RL.nil <| CW.block <| CW.loop (G := Int × El) (fun ⟨k, e1⟩ s' w' => (Fr (rg 5 13 []) _ s') ∧ (Hp w w' (_ :: _ :: .blk b3 (.cells (elC e1) 39 (0, 0)) :: _)) ∧ (s' 6 = I k) ∧ (0 ≤ k) ∧ (k ≤ 8) ∧ (e1 = mixE (meetE a b) a k)) (fun ⟨k, e1⟩ => (8 - k).toNat) ((0, a)) ⟨Fr.refl _ _, hH8, rfl, (by omega), (by omega), (mix_zero _ _).symm⟩ <| ?_
 rintro ⟨k, e1⟩ sg10 w10 ⟨fr10, hH10, e6_10, h0, hk, hr⟩
 have e2_10 := fr10.pp 2 rfl rfl
 have e3_10 := fr10.pp 3 rfl rfl
 have e4_10 := fr10.pp 4 rfl rfl
 refine SR <| V (run_lss e6_10 rfl) <| RL.nil <| CW.seq <| CW.condP rfl (fun h12 => ?_) (fun h12 => ?_)
 ·refine CW.skip <| CW.seq <| CW.block <| SR <| vm e6_10 <| aI rfl <| RL.nil <| CW.regionS (by kernel_rfl) hH10 (sP (sP (sQ sR))) <| fun w13 hH14 => have zh14 := hH14.sub (sP (sP (sQ sR))); AQ 0 rfl zh14 (mV (I _) rfl) <| AQ 1 rfl zh14 (run_indexAddrA underlying39 sizeOf37 e2_10 rfl (by omega)) <| AQ 3 rfl zh14 (mV (I _) rfl) <| AQ 4 rfl zh14 (run_indexAddrA underlying39 sizeOf37 e3_10 rfl (by omega)) <| AT 5 rfl zh14 (fun w hS => run_ld underlying37 rfl rfl (hS.cell (i := 1) rfl (elC_at _ (by omega)))) <| A1 2 <| AO.read rfl gnone rfl hH14 (sP (sP (sQ sR))) (run_ld underlying37 rfl rfl (hH14.cell (i := 2) rfl (elC_at _ (by omega)))) <| AQ 6 rfl zh14 (run_andU rfl rfl) <| AQ 7 rfl zh14 (run_indexAddrA underlying39 sizeOf37 e2_10 rfl (by omega)) <| A1 8 <| AO.set rfl gnone hH14 (j := 2) rfl (sP (sP (sQ sR))) (run_st rfl rfl (v := U _) rfl rfl rfl (hH14.blk (i := 2) rfl) (by rw [elC_size]; omega)) <| fun w19 hH20 => ?_
  simp only [z2] at hH20
  rw [elC_put] at hH20
  refine AD <| CW.region <| V (run_add e6_10 rfl (by omega)) <| mI rfl <| RL.nil <| ?_
  refine ⟨(k + 1, _), ?_, fr10.u4.u4.u4.u1, hH20, (congrArg I (by rfl)), ?_, ?_, ?_⟩
  ·((try dsimp only); omega)
  ·omega
  ·omega
  ·exact meet_put hr h0
 ·refine CW.exit (id := 0) rfl <| SR <| V (run_ldEl underlying39 rfl rfl e2_10 (hH10.blk (i := 2) rfl)) <| RL.set hH10 (i := 0) rfl (run_stEl rfl e4_10 rfl (hH10.blk (i := 0) rfl)) <| fun w21 hH22 => ?_
  simp only [z2] at hH22
  refine RL.nil <| CW.ret <| outCg Tryz.results72 e4_10 hH22 (i := 0) rfl underlying39 rfl (by rw [elC_size]; rfl) ⟨?_, hH22.below⟩
  (exact congrArg Value.agg (elC_congr (by rw [hr]; exact mix_all ‹_›)))
theorem c_clearanceref07_factor (f : Fac) (w : World) (hf : FacV (Kw w) f) : Calls Tryz.prog 64 #[.agg (facC f)] w (Pure (B (factorR f.fc)) w) := by
 have hm := hf.names.sl.small
 unfold maxLen at hm
 refine enter Tryz.func64 rfl Tryz.ntmps64 rfl <| have hH := Hp.start w; SR <| RL.new rfl hH (f := fun b => (.pointer (some ⟨b, 0, none⟩))) (run_box (v := .agg _) rfl) <| fun b3 w1 hH2 => va (v := B false) rfl <| RL.nil <| SR <| V (fA underlying62 1 rfl sizeOf57 rfl) <| V (run_ld underlying57 rfl rfl (hH2.cell (i := 0) rfl rfl)) <| V (run_lenSl (hf.names.sl.hp hH2) rfl underlying57 rfl) <| aI rfl <| RL.nil <| CW.seq <| SR <| mI rfl <| V (run_lss rfl rfl) <| mB rfl <| RL.splitP (dj := 10) rfl (fun h5 => ?_) (fun h5 => ?_)
 ·refine gF rfl (bT h5) <| gF rfl (bT h5) <| V (run_pickT (bT h5) (v := B true) rfl) <| mB rfl <| gF rfl rfl <| gF rfl rfl <| gF rfl rfl <| gF rfl rfl <| V (run_pickT rfl (v := B true) rfl) <| RL.nil <| CW.condT rfl <| SR <| va (v := B false) rfl <| RL.nil <| CW.ret <| outP1 Tryz.results64 (congrArg B ?_) hH2.below
  exact (fac_no (f := f.fc) (named_no1 (by show ¬ (1 ≤ f.names.length ∧ f.names.length ≤ 64); omega))).symm
 ·refine gT rfl (bF h5) <| mI rfl <| gT rfl (bF h5) <| V (run_gtr rfl rfl) <| V (run_pickF (bF h5) (v := B _) rfl) <| mB rfl <| RL.splitP (dj := 14) rfl (fun h7 => ?_) (fun h7 => ?_)
  ·refine gF rfl (bT h7) <| gF rfl (bT h7) <| gF rfl (bT h7) <| gF rfl (bT h7) <| V (run_pickT (bT h7) (v := B true) rfl) <| RL.nil <| CW.condT rfl <| SR <| va (v := B false) rfl <| RL.nil <| CW.ret <| outP1 Tryz.results64 (congrArg B ?_) hH2.below
   exact (fac_no (f := f.fc) (named_no1 (by show ¬ (1 ≤ f.names.length ∧ f.names.length ≤ 64); omega))).symm
  ·refine gT rfl (bF h7) <| V (fA underlying62 1 rfl sizeOf57 rfl) <| gT rfl (bF h7) <| V (run_ld underlying57 rfl rfl (hH2.cell (i := 0) rfl rfl)) <| gT rfl (bF h7) <| RL.callP rfl hH2 (c_clearanceref02_Twice _ _  _ (hf.names.sl.hp hH2)) (run_call1 call37 rfl) <| fun w8 hH9 => gT rfl (bF h7) <| V (run_geq rfl rfl) <| V (run_pickF (bF h7) (v := B _) rfl) <| RL.nil <| CW.condP rfl (fun h11 => ?_) (fun h11 => ?_)
   ·refine SR <| va (v := B false) rfl <| RL.nil <| CW.ret <| outP1 Tryz.results64 (congrArg B ?_) hH9.below
    exact (fac_no (f := f.fc) (named_no2 (by show ¬ twice f.names < 0; omega))).symm
   ·refine CW.skip <| CW.seq <| SR <| va (v := I 0) rfl <| RL.nil <| CW.block <| have hn1 : 1 ≤ f.names.length ∧ f.names.length ≤ 64 := (by omega); have hn2 : twice f.names < 0 := (by omega); CW.loop (G := Int) (fun k s' w' => (Fr (2 :: (4 :: (rg 20 12 []))) _ s') ∧ (Hp w w' _) ∧ (s' 4 = I k) ∧ (0 ≤ k) ∧ (k ≤ f.names.length) ∧ (∀ j : Int, 0 ≤ j → j < k → nameR (f.names.getD j.toNat tx0) = true)) (fun k => (f.names.length - k).toNat) (0) ⟨Fr.refl _ _, hH9, rfl, (by omega), (by omega), fun j a b => absurd b (by omega)⟩ <| ?_
    rintro k sg12 w12 ⟨fr12, hH12, e4_12, h0, hk, hg⟩
    have e1_12 := fr12.pp 1 rfl rfl
    have e3_12 := fr12.ii 3 rfl rfl
    refine CW.seq <| SR <| vm e4_12 <| vm e3_12 <| V (run_lss rfl rfl) <| RL.nil <| CW.condP rfl (fun h14 => ?_) (fun h14 => ?_)
    ·refine CW.skip <| CW.seq <| CW.block <| SR <| V (fA underlying62 1 rfl sizeOf57 e1_12) <| V (run_ld underlying57 rfl rfl (hH12.cell (i := 0) rfl rfl)) <| vm e4_12 <| V (run_indexAddrS (hf.names.sl.hp hH12) underlying57 sizeOf9 rfl rfl (by omega)) <| V (run_ld underlying9 rfl rfl ((hf.names.sl.hp hH12).cell _ _ (txL_at (by omega)))) <| RL.callP rfl hH12 (c_clearanceref02_Right _  _) (run_call1 call36 rfl) <| fun w15 hH16 => V (run_not rfl) <| RL.nil <| CW.cond rfl (fun h19 => ?_) (fun h19 => ?_)
     ·refine SR <| va (v := B false) rfl <| RL.nil <| CW.ret <| outP1 Tryz.results64 (congrArg B ?_) hH16.below
      exact (fac_no (f := f.fc) (named_no3 h0 ‹_› (nt ‹_›))).symm
     ·refine CW.skip <| CW.region <| vm e4_12 <| V (run_add rfl rfl (by omega)) <| aI rfl <| RL.nil <| ?_
      refine ⟨k + 1, ?_, fr12.u4.u4.u4.u1, hH16, (congrArg I (by rfl)), ?_, ?_, ?_⟩
      ·((try dsimp only); omega)
      ·omega
      ·omega
      ·exact fun j a b => if e : j = k then e ▸ nf ‹_› else hg j a (by omega)
    ·refine CW.exit (id := 0) rfl <| CW.seq <| SR <| V (fA underlying62 0 rfl sizeOf3 e1_12) <| V (run_ld underlying3 rfl rfl (hH12.cell (i := 0) rfl (v := I _) rfl)) <| V (run_eql rfl rfl) <| mB rfl <| RL.splitP (dj := 35) rfl (fun h21 => ?_) (fun h21 => ?_)
     ·refine gF rfl (bT h21) <| gF rfl (bT h21) <| gF rfl (bT h21) <| V (run_pickT (bT h21) (v := B true) rfl) <| RL.nil <| CW.condT rfl <| SR <| V (fA underlying62 2 rfl sizeOf60 e1_12) <| V (run_ldBR underlying60 rfl rfl rfl (hH12.blk (i := 0) rfl)) <| RL.callP rfl hH12 (c_clearanceref03_Points _  _) (run_call1 call84 rfl) <| fun w22 hH23 => V (run_eql rfl rfl) <| aB rfl <| RL.nil <| CW.ret <| outP1 Tryz.results64 (congrArg B ?_) hH23.below
      (have hny : namedF f.names = true := named_yes hn1 hn2 ‹¬ k < _› hg; exact (fac_12 (f := f.fc) hny (.inl ‹_›)).symm)
     ·refine gT rfl (bF h21) <| V (fA underlying62 0 rfl sizeOf3 e1_12) <| gT rfl (bF h21) <| V (run_ld underlying3 rfl rfl (hH12.cell (i := 0) rfl (v := I _) rfl)) <| gT rfl (bF h21) <| V (run_eql rfl rfl) <| V (run_pickF (bF h21) (v := B _) rfl) <| RL.nil <| CW.condP rfl (fun h26 => ?_) (fun h26 => ?_)
      ·refine SR <| V (fA underlying62 2 rfl sizeOf60 e1_12) <| V (run_ldBR underlying60 rfl rfl rfl (hH12.blk (i := 0) rfl)) <| RL.callP rfl hH12 (c_clearanceref03_Points _  _) (run_call1 call84 rfl) <| fun w27 hH28 => V (run_eql rfl rfl) <| aB rfl <| RL.nil <| CW.ret <| outP1 Tryz.results64 (congrArg B ?_) hH28.below
       (have hny : namedF f.names = true := named_yes hn1 hn2 ‹¬ k < _› hg; exact (fac_12 (f := f.fc) hny (.inr ‹_›)).symm)
      ·refine CW.skip <| CW.seq <| SR <| V (fA underlying62 0 rfl sizeOf3 e1_12) <| V (run_ld underlying3 rfl rfl (hH12.cell (i := 0) rfl (v := I _) rfl)) <| V (run_eql rfl rfl) <| RL.nil <| CW.condP rfl (fun h31 => ?_) (fun h31 => ?_)
       ·refine SR <| V (fA underlying62 2 rfl sizeOf60 e1_12) <| V (fA underlying60 0 rfl sizeOf3 rfl) <| V (run_ld underlying3 rfl rfl (hH12.cell (i := 0) rfl (v := I _) rfl)) <| vm e3_12 <| V (run_eql rfl rfl) <| mB rfl <| RL.splitP (dj := 52) rfl (fun h33 => ?_) (fun h33 => ?_)
        ·refine gT rfl (bT h33) <| V (fA underlying62 2 rfl sizeOf60 e1_12) <| gT rfl (bT h33) <| V (run_ldBR underlying60 rfl rfl rfl (hH12.blk (i := 0) rfl)) <| gT rfl (bT h33) <| RL.callP rfl hH12 (c_clearanceref05_Right _  _) (run_call1 call85 rfl) <| fun w34 hH35 => V (run_pickT (bT h33) (v := B _) rfl) <| aB rfl <| RL.nil <| CW.ret <| outP1 Tryz.results64 (congrArg B ?_) hH35.below
         (have hny : namedF f.names = true := named_yes hn1 hn2 ‹¬ k < _› hg; exact (fac_3y (f := f.fc) hny ‹_› ‹_›).symm)
        ·refine gF rfl (bF h33) <| gF rfl (bF h33) <| gF rfl (bF h33) <| V (run_pickF (bF h33) (v := B false) rfl) <| aB rfl <| RL.nil <| CW.ret <| outP1 Tryz.results64 (congrArg B ?_) hH12.below
         (have hny : namedF f.names = true := named_yes hn1 hn2 ‹¬ k < _› hg; exact (fac_3n (f := f.fc) ‹_› ‹_›).symm)
       ·refine CW.skip <| SR <| V (fA underlying62 0 rfl sizeOf3 e1_12) <| V (run_ld underlying3 rfl rfl (hH12.cell (i := 0) rfl (v := I _) rfl)) <| V (run_eql rfl rfl) <| mB rfl <| RL.splitP (dj := 60) rfl (fun h38 => ?_) (fun h38 => ?_)
        ·refine gT rfl (bT h38) <| V (fA underlying62 2 rfl sizeOf60 e1_12) <| gT rfl (bT h38) <| V (fA underlying60 0 rfl sizeOf3 rfl) <| gT rfl (bT h38) <| V (run_ld underlying3 rfl rfl (hH12.cell (i := 0) rfl (v := I _) rfl)) <| gT rfl (bT h38) <| vm e3_12 <| gT rfl (bT h38) <| V (run_eql rfl rfl) <| V (run_pickT (bT h38) (v := B _) rfl) <| mB rfl <| RL.splitP (dj := 67) rfl (fun h40 => ?_) (fun h40 => ?_)
         ·refine gT rfl (bT h40) <| V (fA underlying62 2 rfl sizeOf60 e1_12) <| gT rfl (bT h40) <| V (run_ldBR underlying60 rfl rfl rfl (hH12.blk (i := 0) rfl)) <| gT rfl (bT h40) <| RL.callP rfl hH12 (c_clearanceref06_Lattice _  _) (run_call1 call86 rfl) <| fun w41 hH42 => V (run_pickT (bT h40) (v := B _) rfl) <| aB rfl <| RL.nil <| CW.ret <| outP1 Tryz.results64 (congrArg B ?_) hH42.below
          (have hny : namedF f.names = true := named_yes hn1 hn2 ‹¬ k < _› hg; exact (fac_4y (f := f.fc) hny ‹_› ‹_›).symm)
         ·refine gF rfl (bF h40) <| gF rfl (bF h40) <| gF rfl (bF h40) <| V (run_pickF (bF h40) (v := B false) rfl) <| aB rfl <| RL.nil <| CW.ret <| outP1 Tryz.results64 (congrArg B ?_) hH12.below
          (have hny : namedF f.names = true := named_yes hn1 hn2 ‹¬ k < _› hg; exact (fac_4n (f := f.fc) ‹_› ‹_›).symm)
        ·refine gF rfl (bF h38) <| gF rfl (bF h38) <| gF rfl (bF h38) <| gF rfl (bF h38) <| gF rfl (bF h38) <| V (run_pickF (bF h38) (v := B false) rfl) <| mB rfl <| gF rfl rfl <| gF rfl rfl <| gF rfl rfl <| V (run_pickF rfl (v := B false) rfl) <| aB rfl <| RL.nil <| CW.ret <| outP1 Tryz.results64 (congrArg B ?_) hH12.below
         (have hny : namedF f.names = true := named_yes hn1 hn2 ‹¬ k < _› hg; exact (fac_x (f := f.fc) ‹_› ‹_› ‹_› ‹_›).symm)
theorem c_clearanceref07_Right (s : Shp) (w : World) (hs : ShpV (Kw w) s) : Calls Tryz.prog 35 #[.agg (shpC s)] w (Pure (B (shR s.sh)) w) := by
 have hsl := sh_len s
 have hm := hs.facs.sl.small
 unfold maxLen at hm
 refine enter Tryz.func35 rfl Tryz.ntmps35 rfl <| have hH := Hp.start w; SR <| RL.new rfl hH (f := fun b => (.pointer (some ⟨b, 0, none⟩))) (run_box (v := .agg _) rfl) <| fun b3 w1 hH2 => va (v := B false) rfl <| RL.nil <| CW.seq <| SR <| V (fA underlying65 1 rfl sizeOf63 rfl) <| V (run_ld underlying63 rfl rfl (hH2.cell (i := 0) rfl rfl)) <| V (run_lenSl (hs.facs.sl.hp hH2) rfl underlying63 rfl) <| V (run_lss rfl rfl) <| mB rfl <| RL.splitP (dj := 8) rfl (fun h5 => ?_) (fun h5 => ?_)
 ·refine gF rfl (bT h5) <| gF rfl (bT h5) <| gF rfl (bT h5) <| gF rfl (bT h5) <| V (run_pickT (bT h5) (v := B true) rfl) <| mB rfl <| gF rfl rfl <| gF rfl rfl <| gF rfl rfl <| gF rfl rfl <| RL.gU rfl rfl rfl <| RL.gU rfl rfl rfl <| RL.gU rfl rfl rfl <| RL.gU rfl rfl rfl <| gF rfl rfl <| V (run_pickT rfl (v := B true) rfl) <| RL.nil <| CW.condT rfl <| SR <| va (v := B false) rfl <| RL.nil <| CW.ret <| outP1 Tryz.results35 (congrArg B ?_) hH2.below
  exact (shR_no1 (by omega)).symm
 ·refine gT rfl (bF h5) <| V (fA underlying65 1 rfl sizeOf63 rfl) <| gT rfl (bF h5) <| V (run_ld underlying63 rfl rfl (hH2.cell (i := 0) rfl rfl)) <| gT rfl (bF h5) <| V (run_lenSl (hs.facs.sl.hp hH2) rfl underlying63 rfl) <| gT rfl (bF h5) <| V (run_gtr rfl rfl) <| V (run_pickF (bF h5) (v := B _) rfl) <| mB rfl <| RL.splitP (dj := 14) rfl (fun h7 => ?_) (fun h7 => ?_)
  ·refine gF rfl (bT h7) <| gF rfl (bT h7) <| gF rfl (bT h7) <| gF rfl (bT h7) <| RL.gU rfl rfl rfl <| RL.gU rfl rfl rfl <| RL.gU rfl rfl rfl <| RL.gU rfl rfl rfl <| gF rfl (bT h7) <| V (run_pickT (bT h7) (v := B true) rfl) <| RL.nil <| CW.condT rfl <| SR <| va (v := B false) rfl <| RL.nil <| CW.ret <| outP1 Tryz.results35 (congrArg B ?_) hH2.below
   exact (shR_no1 (by omega)).symm
  ·refine gT rfl (bF h7) <| V (fA underlying65 0 rfl sizeOf4 rfl) <| gT rfl (bF h7) <| V (run_ld underlying4 rfl rfl (hH2.cell (i := 0) rfl (v := B _) rfl)) <| gT rfl (bF h7) <| V (run_not rfl) <| gT rfl (bF h7) <| mB rfl <| RL.split (dj := 18) rfl (fun h10 => ?_) (fun h10 => ?_)
   ·refine gT rfl (bR (c := true) h10) <| V (fA underlying65 1 rfl sizeOf63 rfl) <| gT rfl (bR (c := true) h10) <| V (run_ld underlying63 rfl rfl (hH2.cell (i := 0) rfl rfl)) <| gT rfl (bR (c := true) h10) <| V (run_lenSl (hs.facs.sl.hp hH2) rfl underlying63 rfl) <| gT rfl (bR (c := true) h10) <| V (run_neq rfl rfl) <| gT rfl (bF h7) <| V (run_pickT (bR (c := true) h10) (v := B _) rfl) <| V (run_pickF (bF h7) (v := B _) rfl) <| RL.nil <| CW.condP rfl (fun h12 => ?_) (fun h12 => ?_)
    ·refine SR <| va (v := B false) rfl <| RL.nil <| CW.ret <| outP1 Tryz.results35 (congrArg B ?_) hH2.below
     exact (shR_no2 (by exact nt ‹_›) (by omega)).symm
    ·refine CW.skip <| CW.seq <| SR <| va (v := I 0) rfl <| RL.nil <| CW.block <| have hc2 : s.sh.tuple = true ∨ s.sh.facs.length = 1 := (by exact .inr (by omega)); have hc1 : 1 ≤ s.facs.length ∧ s.facs.length ≤ 8 := (by omega); CW.loop (G := Int) (fun k s' w' => (Fr (2 :: 3 :: (rg 25 14 [])) _ s') ∧ (Hp w w' _) ∧ (s' 3 = I k) ∧ (0 ≤ k) ∧ (k ≤ s.facs.length) ∧ (∀ j : Int, 0 ≤ j → j < k → factorR (s.facs.getD j.toNat fac0).fc = true)) (fun k => (s.facs.length - k).toNat) (0) ⟨Fr.refl _ _, hH2, rfl, (by omega), (by omega), fun j a b => absurd b (by omega)⟩ <| ?_
     rintro k sg13 w13 ⟨fr13, hH13, e3_13, h0, hk, hg⟩
     have e1_13 := fr13.pp 1 rfl rfl
     refine CW.seq <| SR <| vm e3_13 <| V (fA underlying65 1 rfl sizeOf63 e1_13) <| V (run_ld underlying63 rfl rfl (hH13.cell (i := 0) rfl rfl)) <| V (run_lenSl (hs.facs.sl.hp hH13) rfl underlying63 rfl) <| V (run_lss rfl rfl) <| RL.nil <| CW.condP rfl (fun h15 => ?_) (fun h15 => ?_)
     ·refine CW.skip <| CW.seq <| CW.block <| SR <| V (fA underlying65 1 rfl sizeOf63 e1_13) <| V (run_ld underlying63 rfl rfl (hH13.cell (i := 0) rfl rfl)) <| vm e3_13 <| V (run_indexAddrS (hs.facs.sl.hp hH13) underlying63 sizeOf62 rfl rfl (by omega)) <| V (run_ldE (dv := fac0) facL_len (hs.facs.sl.hp hH13) underlying62 rfl rfl rfl (by omega)) <| RL.callP rfl hH13 (c_clearanceref07_factor _  _ ((hs.at (by omega) (by omega)).mono hH13.kw)) (run_call1 call64 rfl) <| fun w16 hH17 => V (run_not rfl) <| RL.nil <| CW.cond rfl (fun h20 => ?_) (fun h20 => ?_)
      ·refine SR <| va (v := B false) rfl <| RL.nil <| CW.ret <| outP1 Tryz.results35 (congrArg B ?_) hH17.below
       exact (shR_no3 (k := k) h0 (by omega) (by rw [sh_get]; exact nt ‹_›)).symm
      ·refine CW.skip <| CW.region <| vm e3_13 <| V (run_add rfl rfl (by omega)) <| aI rfl <| RL.nil <| ?_
       refine ⟨k + 1, ?_, fr13.u4.u4.u4.u1.u1.u1, hH17, (congrArg I (by rfl)), ?_, ?_, ?_⟩
       ·((try dsimp only); omega)
       ·omega
       ·omega
       ·exact fun j a b => if e : j = k then e ▸ nf ‹_› else hg j a (by omega)
     ·refine CW.exit (id := 0) rfl <| SR <| va (v := B true) rfl <| RL.nil <| CW.ret <| outP1 Tryz.results35 (congrArg B ?_) hH13.below
      exact (shR_yes (k := k) (by omega) hc2 (by omega) fun j a b => by rw [sh_get]; exact hg j a b).symm
   ·refine gF rfl (bR (c := false) h10) <| gF rfl (bR (c := false) h10) <| gF rfl (bR (c := false) h10) <| gF rfl (bR (c := false) h10) <| gT rfl (bF h7) <| V (run_pickF (bR (c := false) h10) (v := B false) rfl) <| V (run_pickF (bF h7) (v := B _) rfl) <| RL.nil <| CW.condF rfl <| CW.skip <| CW.seq <| SR <| va (v := I 0) rfl <| RL.nil <| CW.block <| have hc2 : s.sh.tuple = true ∨ s.sh.facs.length = 1 := (by exact .inl (nf ‹(!s.tuple) = false›)); have hc1 : 1 ≤ s.facs.length ∧ s.facs.length ≤ 8 := (by omega); CW.loop (G := Int) (fun k s' w' => (Fr (2 :: 3 :: (rg 25 14 [])) _ s') ∧ (Hp w w' _) ∧ (s' 3 = I k) ∧ (0 ≤ k) ∧ (k ≤ s.facs.length) ∧ (∀ j : Int, 0 ≤ j → j < k → factorR (s.facs.getD j.toNat fac0).fc = true)) (fun k => (s.facs.length - k).toNat) (0) ⟨Fr.refl _ _, hH2, rfl, (by omega), (by omega), fun j a b => absurd b (by omega)⟩ <| ?_
    rintro k sg21 w21 ⟨fr21, hH21, e3_21, h0, hk, hg⟩
    have e1_21 := fr21.pp 1 rfl rfl
    refine CW.seq <| SR <| vm e3_21 <| V (fA underlying65 1 rfl sizeOf63 e1_21) <| V (run_ld underlying63 rfl rfl (hH21.cell (i := 0) rfl rfl)) <| V (run_lenSl (hs.facs.sl.hp hH21) rfl underlying63 rfl) <| V (run_lss rfl rfl) <| RL.nil <| CW.condP rfl (fun h23 => ?_) (fun h23 => ?_)
    ·refine CW.skip <| CW.seq <| CW.block <| SR <| V (fA underlying65 1 rfl sizeOf63 e1_21) <| V (run_ld underlying63 rfl rfl (hH21.cell (i := 0) rfl rfl)) <| vm e3_21 <| V (run_indexAddrS (hs.facs.sl.hp hH21) underlying63 sizeOf62 rfl rfl (by omega)) <| V (run_ldE (dv := fac0) facL_len (hs.facs.sl.hp hH21) underlying62 rfl rfl rfl (by omega)) <| RL.callP rfl hH21 (c_clearanceref07_factor _  _ ((hs.at (by omega) (by omega)).mono hH21.kw)) (run_call1 call64 rfl) <| fun w24 hH25 => V (run_not rfl) <| RL.nil <| CW.cond rfl (fun h28 => ?_) (fun h28 => ?_)
     ·refine SR <| va (v := B false) rfl <| RL.nil <| CW.ret <| outP1 Tryz.results35 (congrArg B ?_) hH25.below
      exact (shR_no3 (k := k) h0 (by omega) (by rw [sh_get]; exact nt ‹_›)).symm
     ·refine CW.skip <| CW.region <| vm e3_21 <| V (run_add rfl rfl (by omega)) <| aI rfl <| RL.nil <| ?_
      refine ⟨k + 1, ?_, fr21.u4.u4.u4.u1.u1.u1, hH25, (congrArg I (by rfl)), ?_, ?_, ?_⟩
      ·((try dsimp only); omega)
      ·omega
      ·omega
      ·exact fun j a b => if e : j = k then e ▸ nf ‹_› else hg j a (by omega)
    ·refine CW.exit (id := 0) rfl <| SR <| va (v := B true) rfl <| RL.nil <| CW.ret <| outP1 Tryz.results35 (congrArg B ?_) hH21.below
     exact (shR_yes (k := k) (by omega) hc2 (by omega) fun j a b => by rw [sh_get]; exact hg j a b).symm
theorem c_clearanceref07_word (f : Fac) (s : BitVec 64) (hfr : factorR f.fc = true) (w : World) (hf : FacV (Kw w) f) : Calls Tryz.prog 77 #[.agg (facC f), U s] w (Pure (B (wordF f.fc s)) w) := by
 have hm := hf.names.sl.small
 unfold maxLen at hm
 refine enter Tryz.func77 rfl Tryz.ntmps77 rfl <| have hH := Hp.start w; SR <| RL.new rfl hH (f := fun b => (.pointer (some ⟨b, 0, none⟩))) (run_box (v := .agg _) rfl) <| fun b3 w1 hH2 => va (v := B false) rfl <| RL.nil <| CW.seq <| SR <| V (fA underlying62 0 rfl sizeOf3 rfl) <| V (run_ld underlying3 rfl rfl (hH2.cell (i := 0) rfl (v := I _) rfl)) <| V (run_eql rfl rfl) <| RL.nil <| CW.condP rfl (fun h5 => ?_) (fun h5 => ?_)
 ·refine SR <| V (fA underlying62 1 rfl sizeOf57 rfl) <| V (run_ld underlying57 rfl rfl (hH2.cell (i := 0) rfl rfl)) <| V (run_lenSl (hf.names.sl.hp hH2) rfl underlying57 rfl) <| mU rfl <| RL.callP rfl hH2 (c_clearanceref04_Level _ _  _) (run_call2 call97 rfl rfl) <| fun w6 hH7 => ?_
  refine V (run_move (by conv => lhs; whnf)) ?_
  refine V (run_extract rfl (v := I _) rfl) <| V (run_extract rfl (v := B _) rfl) <| aI rfl <| aB rfl <| RL.nil <| SR <| mB rfl <| aB rfl <| RL.nil <| CW.ret <| outP1 Tryz.results77 (congrArg B ?_) hH7.below
  exact (word1 (f := f.fc) ‹_› s).symm
 ·refine CW.skip <| CW.seq <| SR <| V (fA underlying62 0 rfl sizeOf3 rfl) <| V (run_ld underlying3 rfl rfl (hH2.cell (i := 0) rfl (v := I _) rfl)) <| V (run_eql rfl rfl) <| RL.nil <| CW.condP rfl (fun h10 => ?_) (fun h10 => ?_)
  ·refine SR <| mU rfl <| V (fA underlying62 1 rfl sizeOf57 rfl) <| V (run_ld underlying57 rfl rfl (hH2.cell (i := 0) rfl rfl)) <| V (run_lenSl (hf.names.sl.hp hH2) rfl underlying57 rfl) <| RL.callP rfl hH2 (c_clearanceref01_Below _  _) (run_call1 call98 rfl) <| fun w11 hH12 => RL.callP rfl hH12 (c_clearanceref01_Sub _ _  _) (run_call2 call51 rfl rfl) <| fun w13 hH14 => aB rfl <| RL.nil <| CW.ret <| outP1 Tryz.results77 (congrArg B ?_) hH14.below
   exact (word2 (f := f.fc) ‹_› s).symm
  ·refine CW.skip <| CW.seq <| SR <| V (fA underlying62 0 rfl sizeOf3 rfl) <| V (run_ld underlying3 rfl rfl (hH2.cell (i := 0) rfl (v := I _) rfl)) <| V (run_eql rfl rfl) <| RL.nil <| CW.condP rfl (fun h17 => ?_) (fun h17 => ?_)
   ·refine SR <| V (fA underlying62 2 rfl sizeOf60 rfl) <| V (run_ldBR underlying60 rfl rfl rfl (hH2.blk (i := 0) rfl)) <| mU rfl <| RL.callP rfl hH2 (c_clearanceref05_Close _ _  _) (run_call2 call99 rfl rfl) <| fun w18 hH19 => mU rfl <| V (run_eqlU rfl rfl) <| aB rfl <| RL.nil <| CW.ret <| outP1 Tryz.results77 (congrArg B ?_) hH19.below
    exact (word3r (f := f.fc) hfr ‹_› s).symm
   ·refine CW.skip <| SR <| V (fA underlying62 2 rfl sizeOf60 rfl) <| V (run_ldBR underlying60 rfl rfl rfl (hH2.blk (i := 0) rfl)) <| mU rfl <| RL.callP rfl hH2 (c_clearanceref06_Point _ _  _) (run_call2 call94 rfl rfl) <| fun w21 hH22 => ?_
    refine V (run_move (by conv => lhs; whnf)) ?_
    refine V (run_extract rfl (v := I _) rfl) <| V (run_extract rfl (v := B _) rfl) <| aI rfl <| aB rfl <| RL.nil <| SR <| mB rfl <| aB rfl <| RL.nil <| CW.ret <| outP1 Tryz.results77 (congrArg B ?_) hH22.below
    exact (wordx (f := f.fc) ‹_› ‹_› ‹_› s).symm
theorem c_clearanceref07_Fits (s : Shp) (e : El) (w : World) (hs : ShpV (Kw w) s) : Calls Tryz.prog 52 #[.agg (shpC s), .agg (elC e)] w (Pure (B (fitsS s.sh e)) w) := by
 have hsl := sh_len s
 have hm := hs.facs.sl.small
 unfold maxLen at hm
 refine enter Tryz.func52 rfl Tryz.ntmps52 rfl <| have hH := Hp.start w; SR <| RL.new rfl hH (f := fun b => (.pointer (some ⟨b, 0, none⟩))) (run_box (v := .agg _) rfl) <| fun b3 w1 hH2 => RL.new rfl hH2 (f := fun b => (.pointer (some ⟨b, 0, none⟩))) (run_box (v := .agg _) rfl) <| fun b6 w4 hH5 => va (v := B false) rfl <| RL.nil <| CW.seq <| SR <| V (run_ldA (cs := [B _, _]) underlying65 rfl rfl rfl (rangeAt_cells (hH5.blk (i := 1) rfl))) <| RL.callP rfl hH5 (c_clearanceref07_Right _  _ (hs.mono hH5.kw)) (run_call1 call35 rfl) <| fun w7 hH8 => V (run_not rfl) <| RL.nil <| CW.cond rfl (fun h11 => ?_) (fun h11 => ?_)
 ·refine SR <| va (v := B false) rfl <| RL.nil <| CW.ret <| outP1 Tryz.results52 (congrArg B ?_) hH8.below
  exact (fits_no1 (nt ‹_›)).symm
 ·refine CW.skip <| CW.seq <| SR <| va (v := I 0) rfl <| RL.nil <| CW.block <| have hr : shR s.sh = true := nf ‹_›; CW.loop (G := Int) (fun k s' w' => (Fr (4 :: 5 :: (rg 9 34 [])) _ s') ∧ (Hp w w' _) ∧ (s' 5 = I k) ∧ (0 ≤ k) ∧ (k ≤ 8) ∧ (FitTo s.sh e k)) (fun k => (8 - k).toNat) (0) ⟨Fr.refl _ _, hH8, rfl, (by omega), (by omega), FitTo.none _ _⟩ <| ?_
  rintro k sg12 w12 ⟨fr12, hH12, e5_12, h0, hk, hf⟩
  have e2_12 := fr12.pp 2 rfl rfl
  have e3_12 := fr12.pp 3 rfl rfl
  refine CW.seq <| SR <| vm e5_12 <| V (run_lss rfl rfl) <| RL.nil <| CW.condP rfl (fun h14 => ?_) (fun h14 => ?_)
  ·refine CW.skip <| CW.seq <| CW.block <| CW.seq <| CW.regionD (by kernel_rfl) hH12 <| fun w15 hH16 => have zh16 := hH16.sub sR; AQ 0 rfl zh16 (run_move e5_12) <| AQ 1 rfl zh16 (fA underlying65 1 rfl sizeOf63 e2_12) <| AT 2 rfl zh16 (fun w hS => run_ld underlying63 rfl rfl (hS.cell (i := 1) rfl rfl)) <| AT 3 rfl zh16 (fun w hS => run_lenSl (hs.facs.sl.hp hS) rfl underlying63 rfl) <| AQ 4 rfl zh16 (run_lss rfl rfl) <| AQ 5 rfl zh16 (mV (B _) rfl) <| AN.splitP (dj := 18) rfl (fun h18 => ?_) (fun h18 => ?_)
   ·refine AG 6 rfl rfl (bT h18) (hH16.sub sR) (fun w hS => fA underlying65 1 rfl sizeOf63 e2_12) <| AG 7 rfl rfl (bT h18) (hH16.sub sR) (fun w hS => run_ld underlying63 rfl rfl (hS.cell (i := 1) rfl rfl)) <| AG 8 rfl rfl (bT h18) (hH16.sub sR) (fun w hS => run_move e5_12) <| AG 9 rfl rfl (bT h18) (hH16.sub sR) (fun w hS => run_indexAddrS (hs.facs.sl.hp hS) underlying63 sizeOf62 rfl rfl (by omega)) <| AG 10 rfl rfl (bT h18) (hH16.sub sR) (fun w hS => run_ldE (dv := fac0) facL_len (hs.facs.sl.hp hS) underlying62 rfl rfl rfl (by omega)) <| AG 11 rfl rfl (bT h18) (hH16.sub sR) (fun w hS => run_move e5_12) <| AG 12 rfl rfl (bT h18) (hH16.sub sR) (fun w hS => run_indexAddrA underlying39 sizeOf37 e3_12 rfl (by omega)) <| AG 13 rfl rfl (bT h18) (hH16.sub sR) (fun w hS => run_ld underlying37 rfl rfl (hS.cell (i := 0) rfl (elC_at _ (by omega)))) <| A1 14 <| AO.callP rfl (gsome rfl (bT h18)) rfl hH16 sR (c_clearanceref07_word _ _ (by have hat := sh_at hr (k := k) h0 (by omega); rw [sh_get] at hat; exact hat) _ ((hs.at (by omega) (by omega)).mono hH16.kw)) (run_call2 call77 rfl rfl) <| fun w19 hH20 => AG 15 rfl rfl (bT h18) (hH20.sub sR) (fun w hS => run_not rfl) <| have zh20 := hH20.sub sR; AQ 16 rfl zh20 (run_pickT (bT h18) (v := B _) rfl) <| AQ 17 rfl zh20 (mV (B _) rfl) <| AN.split (dj := 30) rfl (fun h23 => ?_) (fun h23 => ?_)
    ·refine AK 18 rfl rfl (bR (c := true) h23) (hH20.sub sR) <| AK 19 rfl rfl (bR (c := true) h23) (hH20.sub sR) <| AK 20 rfl rfl (bR (c := true) h23) (hH20.sub sR) <| AK 21 rfl rfl (bR (c := true) h23) (hH20.sub sR) <| AK 22 rfl rfl (bR (c := true) h23) (hH20.sub sR) <| AK 23 rfl rfl (bR (c := true) h23) (hH20.sub sR) <| AU 24 rfl rfl rfl (hH20.sub sR) <| AU 25 rfl rfl rfl (hH20.sub sR) <| AU 26 rfl rfl rfl (hH20.sub sR) <| AU 27 rfl rfl rfl (hH20.sub sR) <| AK 28 rfl rfl (bR (c := true) h23) (hH20.sub sR) <| AQ 29 rfl zh20 (run_pickT (bR (c := true) h23) (v := B true) rfl) <| AD <| CW.condT rfl <| SR <| va (v := B false) rfl <| RL.nil <| CW.ret <| outP1 Tryz.results52 (congrArg B ?_) hH20.below
     exact (fits_no2 h0 ‹_› (by omega) (by rw [sh_get]; exact nt ‹_›)).symm
    ·refine AG 18 rfl rfl (bR (c := false) h23) (hH20.sub sR) (fun w hS => run_move e5_12) <| AG 19 rfl rfl (bR (c := false) h23) (hH20.sub sR) (fun w hS => fA underlying65 1 rfl sizeOf63 e2_12) <| AG 20 rfl rfl (bR (c := false) h23) (hH20.sub sR) (fun w hS => run_ld underlying63 rfl rfl (hS.cell (i := 1) rfl rfl)) <| AG 21 rfl rfl (bR (c := false) h23) (hH20.sub sR) (fun w hS => run_lenSl (hs.facs.sl.hp hS) rfl underlying63 rfl) <| AG 22 rfl rfl (bR (c := false) h23) (hH20.sub sR) (fun w hS => run_geq rfl rfl) <| AG 23 rfl rfl (bR (c := false) h23) (hH20.sub sR) (fun w hS => mV (B _) rfl) <| AN.splitP (dj := 36) rfl (fun h25 => ?_) (fun h25 => ?_)
     ·refine AG 24 rfl rfl (bT h25) (hH20.sub sR) (fun w hS => run_move e5_12) <| AG 25 rfl rfl (bT h25) (hH20.sub sR) (fun w hS => run_indexAddrA underlying39 sizeOf37 e3_12 rfl (by omega)) <| AG 26 rfl rfl (bT h25) (hH20.sub sR) (fun w hS => run_ld underlying37 rfl rfl (hS.cell (i := 0) rfl (elC_at _ (by omega)))) <| AG 27 rfl rfl (bT h25) (hH20.sub sR) (fun w hS => run_neqU rfl (b := 0#64) rfl) <| AG 28 rfl rfl (bR (c := false) h23) (hH20.sub sR) (fun w hS => run_pickT (bT h25) (v := B _) rfl) <| AQ 29 rfl zh20 (run_pickF (bR (c := false) h23) (v := B _) rfl) <| AD <| CW.condP rfl (fun h27 => ?_) (fun h27 => ?_)
      ·refine SR <| va (v := B false) rfl <| RL.nil <| CW.ret <| outP1 Tryz.results52 (congrArg B ?_) hH20.below
       exact (fits_no3 h0 ‹_› (by omega) ‹_›).symm
      ·refine CW.skip <| CW.region <| vm e5_12 <| V (run_add rfl rfl (by omega)) <| aI rfl <| RL.nil <| ?_
       refine ⟨k + 1, ?_, fr12.u4.u4.u4.u4.u4.u4.u4.u4.u1.u1.u1, hH20, (congrArg I (by rfl)), ?_, ?_, ?_⟩
       ·((try dsimp only); omega)
       ·omega
       ·omega
       ·exact hf.next (fun h => by exfalso; omega) (fun h => by exact Decidable.of_not_not ‹_›)
     ·refine AK 24 rfl rfl (bF h25) (hH20.sub sR) <| AK 25 rfl rfl (bF h25) (hH20.sub sR) <| AK 26 rfl rfl (bF h25) (hH20.sub sR) <| AK 27 rfl rfl (bF h25) (hH20.sub sR) <| AG 28 rfl rfl (bR (c := false) h23) (hH20.sub sR) (fun w hS => run_pickF (bF h25) (v := B false) rfl) <| AQ 29 rfl zh20 (run_pickF (bR (c := false) h23) (v := B _) rfl) <| AD <| CW.condF rfl <| CW.skip <| CW.region <| vm e5_12 <| V (run_add rfl rfl (by omega)) <| aI rfl <| RL.nil <| ?_
      refine ⟨k + 1, ?_, fr12.u4.u4.u4.u4.u4.u4.u4.u4.u1.u1.u1, hH20, (congrArg I (by rfl)), ?_, ?_, ?_⟩
      ·((try dsimp only); omega)
      ·omega
      ·omega
      ·exact hf.next (fun h => by rw [sh_get]; exact nf ‹_›) (fun h => by exfalso; omega)
   ·refine AK 6 rfl rfl (bF h18) (hH16.sub sR) <| AK 7 rfl rfl (bF h18) (hH16.sub sR) <| AK 8 rfl rfl (bF h18) (hH16.sub sR) <| AK 9 rfl rfl (bF h18) (hH16.sub sR) <| AK 10 rfl rfl (bF h18) (hH16.sub sR) <| AK 11 rfl rfl (bF h18) (hH16.sub sR) <| AK 12 rfl rfl (bF h18) (hH16.sub sR) <| AK 13 rfl rfl (bF h18) (hH16.sub sR) <| AK 14 rfl rfl (bF h18) (hH16.sub sR) <| AK 15 rfl rfl (bF h18) (hH16.sub sR) <| AQ 16 rfl zh16 (run_pickF (bF h18) (v := B false) rfl) <| AQ 17 rfl zh16 (mV (B _) rfl) <| AG 18 rfl rfl rfl (hH16.sub sR) (fun w hS => run_move e5_12) <| AG 19 rfl rfl rfl (hH16.sub sR) (fun w hS => fA underlying65 1 rfl sizeOf63 e2_12) <| AG 20 rfl rfl rfl (hH16.sub sR) (fun w hS => run_ld underlying63 rfl rfl (hS.cell (i := 1) rfl rfl)) <| AG 21 rfl rfl rfl (hH16.sub sR) (fun w hS => run_lenSl (hs.facs.sl.hp hS) rfl underlying63 rfl) <| AG 22 rfl rfl rfl (hH16.sub sR) (fun w hS => run_geq rfl rfl) <| AG 23 rfl rfl rfl (hH16.sub sR) (fun w hS => mV (B _) rfl) <| AN.splitP (dj := 36) rfl (fun h29 => ?_) (fun h29 => ?_)
    ·refine AG 24 rfl rfl (bT h29) (hH16.sub sR) (fun w hS => run_move e5_12) <| AG 25 rfl rfl (bT h29) (hH16.sub sR) (fun w hS => run_indexAddrA underlying39 sizeOf37 e3_12 rfl (by omega)) <| AG 26 rfl rfl (bT h29) (hH16.sub sR) (fun w hS => run_ld underlying37 rfl rfl (hS.cell (i := 0) rfl (elC_at _ (by omega)))) <| AG 27 rfl rfl (bT h29) (hH16.sub sR) (fun w hS => run_neqU rfl (b := 0#64) rfl) <| AG 28 rfl rfl rfl (hH16.sub sR) (fun w hS => run_pickT (bT h29) (v := B _) rfl) <| AQ 29 rfl zh16 (run_pickF rfl (v := B _) rfl) <| AD <| CW.condP rfl (fun h31 => ?_) (fun h31 => ?_)
     ·refine SR <| va (v := B false) rfl <| RL.nil <| CW.ret <| outP1 Tryz.results52 (congrArg B ?_) hH16.below
      exact (fits_no3 h0 ‹_› (by omega) ‹_›).symm
     ·refine CW.skip <| CW.region <| vm e5_12 <| V (run_add rfl rfl (by omega)) <| aI rfl <| RL.nil <| ?_
      refine ⟨k + 1, ?_, fr12.u4.u4.u4.u4.u4.u4.u4.u4.u1.u1.u1, hH16, (congrArg I (by rfl)), ?_, ?_, ?_⟩
      ·((try dsimp only); omega)
      ·omega
      ·omega
      ·exact hf.next (fun h => by exfalso; omega) (fun h => by exact Decidable.of_not_not ‹_›)
    ·refine AK 24 rfl rfl (bF h29) (hH16.sub sR) <| AK 25 rfl rfl (bF h29) (hH16.sub sR) <| AK 26 rfl rfl (bF h29) (hH16.sub sR) <| AK 27 rfl rfl (bF h29) (hH16.sub sR) <| AG 28 rfl rfl rfl (hH16.sub sR) (fun w hS => run_pickF (bF h29) (v := B false) rfl) <| AQ 29 rfl zh16 (run_pickF rfl (v := B _) rfl) <| AD <| CW.condF rfl <| CW.skip <| CW.region <| vm e5_12 <| V (run_add rfl rfl (by omega)) <| aI rfl <| RL.nil <| ?_
     refine ⟨k + 1, ?_, fr12.u4.u4.u4.u4.u4.u4.u4.u4.u1.u1.u1, hH16, (congrArg I (by rfl)), ?_, ?_, ?_⟩
     ·((try dsimp only); omega)
     ·omega
     ·omega
     ·exact hf.next (fun h => by exfalso; omega) (fun h => by exfalso; omega)
  ·refine CW.exit (id := 0) rfl <| SR <| va (v := B true) rfl <| RL.nil <| CW.ret <| outP1 Tryz.results52 (congrArg B ?_) hH12.below
   exact (fits_yes hr ‹_› hf).symm
theorem c_clearanceref07_Leq (a b : El) (w : World) : Calls Tryz.prog 30 #[.agg (elC a), .agg (elC b)] w (Pure (B (leqE a b)) w) := by
 refine enter Tryz.func30 rfl Tryz.ntmps30 rfl <| have hH := Hp.start w; SR <| RL.new rfl hH (f := fun b => (.pointer (some ⟨b, 0, none⟩))) (run_box (v := .agg _) rfl) <| fun b3 w1 hH2 => RL.new rfl hH2 (f := fun b => (.pointer (some ⟨b, 0, none⟩))) (run_box (v := .agg _) rfl) <| fun b6 w4 hH5 => va (v := B false) rfl <| RL.nil <| CW.seq <| SR <| va (v := I 0) rfl <| RL.nil <| CW.block <| CW.loop (G := Int) (fun k s' w' => (Fr (rg 4 14 []) _ s') ∧ (Hp w w' _) ∧ (s' 5 = I k) ∧ (0 ≤ k) ∧ (k ≤ 8) ∧ (∀ j : Int, 0 ≤ j → j < k → subB (a j.toNat) (b j.toNat) = true)) (fun k => (8 - k).toNat) (0) ⟨Fr.refl _ _, hH5, rfl, (by omega), (by omega), fun j u v => absurd v (by omega)⟩ <| ?_
 rintro k sg7 w7 ⟨fr7, hH7, e5_7, h0, hk, hf⟩
 have e2_7 := fr7.pp 2 rfl rfl
 have e3_7 := fr7.pp 3 rfl rfl
 refine CW.seq <| SR <| vm e5_7 <| V (run_lss rfl rfl) <| RL.nil <| CW.condP rfl (fun h9 => ?_) (fun h9 => ?_)
 ·refine CW.skip <| CW.seq <| CW.block <| CW.seq <| CW.regionD (by kernel_rfl) hH7 <| fun w10 hH11 => have zh11 := hH11.sub sR; AQ 0 rfl zh11 (run_move e5_7) <| AQ 1 rfl zh11 (run_indexAddrA underlying39 sizeOf37 e2_7 rfl (by omega)) <| AT 2 rfl zh11 (fun w hS => run_ld underlying37 rfl rfl (hS.cell (i := 1) rfl (elC_at _ (by omega)))) <| AQ 3 rfl zh11 (run_move e5_7) <| AQ 4 rfl zh11 (run_indexAddrA underlying39 sizeOf37 e3_7 rfl (by omega)) <| AT 5 rfl zh11 (fun w hS => run_ld underlying37 rfl rfl (hS.cell (i := 0) rfl (elC_at _ (by omega)))) <| A1 6 <| AO.callP rfl gnone rfl hH11 sR (c_clearanceref01_Sub _ _  _) (run_call2 call51 rfl rfl) <| fun w12 hH13 => AQ 7 rfl (hH13.sub sR) (run_not rfl) <| AD <| CW.cond rfl (fun h16 => ?_) (fun h16 => ?_)
  ·refine SR <| va (v := B false) rfl <| RL.nil <| CW.ret <| outP1 Tryz.results30 (congrArg B ?_) hH13.below
   exact (leq_no h0 ‹_› (nt ‹_›)).symm
  ·refine CW.skip <| CW.region <| vm e5_7 <| V (run_add rfl rfl (by omega)) <| aI rfl <| RL.nil <| ?_
   refine ⟨k + 1, ?_, fr7.u4.u4.u4.u1, hH13, (congrArg I (by rfl)), ?_, ?_, ?_⟩
   ·((try dsimp only); omega)
   ·omega
   ·omega
   ·exact fun j u v => if e : j = k then e ▸ nf ‹_› else hf j u (by omega)
 ·refine CW.exit (id := 0) rfl <| SR <| va (v := B true) rfl <| RL.nil <| CW.ret <| outP1 Tryz.results30 (congrArg B ?_) hH7.below
  exact (leq_yes ‹_› hf).symm
theorem c_clearanceref07_Join (s : Shp) (a b : El) (w : World) (hs : ShpV (Kw w) s) : Calls Tryz.prog 49 #[.agg (shpC s), .agg (elC a), .agg (elC b)] w (Pure (.agg (elC (joinS s.sh a b))) w) := by
 have hsl := sh_len s
 have hm := hs.facs.sl.small
 unfold maxLen at hm
 refine enter Tryz.func49 rfl Tryz.ntmps49 rfl <| have hH := Hp.start w; SR <| RL.new rfl hH (f := fun b => (.pointer (some ⟨b, 0, none⟩))) (run_box (v := .agg _) rfl) <| fun b3 w1 hH2 => RL.new rfl hH2 (f := fun b => (.pointer (some ⟨b, 0, none⟩))) (run_box (v := .agg _) rfl) <| fun b6 w4 hH5 => RL.new rfl hH5 (f := fun b => (.pointer (some ⟨b, 0, none⟩))) (run_box (v := .agg _) rfl) <| fun b9 w7 hH8 => RL.new rfl hH8 (f := fun b => (.pointer (some ⟨b, 0, none⟩))) (run_alloc zero_el) <| fun b12 w10 hH11 => RL.nil <| SR <| RL.new rfl hH11 (f := fun b => (.pointer (some ⟨b, 0, none⟩))) (run_alloc zero_el) <| fun b15 w13 hH14 => RL.nil <| CW.seq <| SR <| va (v := I 0) rfl <| RL.nil <| CW.block <| CW.loop (G := Int × El) (fun ⟨k, e1⟩ s' w' => (Fr (rg 8 43 []) _ s') ∧ (Hp w w' (.blk b15 (.cells (elC e1) 39 (0, 0)) :: _)) ∧ (s' 8 = I k) ∧ (0 ≤ k) ∧ (k ≤ 8) ∧ (e1 = mixE (joinS s.sh a b) el0 k)) (fun ⟨k, e1⟩ => (8 - k).toNat) ((0, el0)) ⟨Fr.refl _ _, hH14, rfl, (by omega), (by omega), (mix_zero _ _).symm⟩ <| ?_
 rintro ⟨k, e1⟩ sg16 w16 ⟨fr16, hH16, e8_16, h0, hk, hr⟩
 have e3_16 := fr16.pp 3 rfl rfl
 have e4_16 := fr16.pp 4 rfl rfl
 have e5_16 := fr16.pp 5 rfl rfl
 have e6_16 := fr16.pp 6 rfl rfl
 have e7_16 := fr16.pp 7 rfl rfl
 refine CW.seq <| SR <| vm e8_16 <| V (run_lss rfl rfl) <| RL.nil <| CW.condP rfl (fun h18 => ?_) (fun h18 => ?_)
 ·refine CW.skip <| CW.seq <| CW.block <| CW.seq <| CW.regionS (by kernel_rfl) hH16 (sQ sR) <| fun w19 hH20 => have zh20 := hH20.sub (sQ sR); AQ 0 rfl zh20 (run_move e8_16) <| AQ 1 rfl zh20 (run_move e8_16) <| AQ 2 rfl zh20 (run_indexAddrA underlying39 sizeOf37 e4_16 rfl (by omega)) <| AT 3 rfl zh20 (fun w hS => run_ld underlying37 rfl rfl (hS.cell (i := 2) rfl (elC_at _ (by omega)))) <| AQ 4 rfl zh20 (run_move e8_16) <| AQ 5 rfl zh20 (run_indexAddrA underlying39 sizeOf37 e5_16 rfl (by omega)) <| AT 6 rfl zh20 (fun w hS => run_ld underlying37 rfl rfl (hS.cell (i := 1) rfl (elC_at _ (by omega)))) <| AQ 7 rfl zh20 (run_orU rfl rfl) <| AQ 8 rfl zh20 (run_indexAddrA underlying39 sizeOf37 e7_16 rfl (by omega)) <| A1 9 <| AO.set rfl gnone hH20 (j := 0) rfl (sQ sR) (run_st rfl rfl (v := U _) rfl rfl rfl (hH20.blk (i := 0) rfl) (by rw [elC_size]; omega)) <| fun w23 hH24 => ?_
  simp only [z2] at hH24
  rw [elC_put] at hH24
  refine AD <| SR <| vm e8_16 <| V (fA underlying65 1 rfl sizeOf63 e3_16) <| V (run_ld underlying63 rfl rfl (hH24.cell (i := 4) rfl rfl)) <| V (run_lenSl (hs.facs.sl.hp hH24) rfl underlying63 rfl) <| V (run_lss rfl rfl) <| mB rfl <| RL.splitP (dj := 27) rfl (fun h26 => ?_) (fun h26 => ?_)
  ·refine gT rfl (bT h26) <| V (fA underlying65 1 rfl sizeOf63 e3_16) <| gT rfl (bT h26) <| V (run_ld underlying63 rfl rfl (hH24.cell (i := 4) rfl rfl)) <| gT rfl (bT h26) <| vm e8_16 <| gT rfl (bT h26) <| V (run_indexAddrS (hs.facs.sl.hp hH24) underlying63 sizeOf62 rfl rfl (by omega)) <| gT rfl (bT h26) <| V (fA underlying62 0 rfl sizeOf3 rfl) <| gT rfl (bT h26) <| V (run_ldE1 (dv := fac0) facL_len (hs.facs.sl.hp hH24) underlying3 rfl rfl (by omega) rfl) <| gT rfl (bT h26) <| V (run_eql rfl rfl) <| V (run_pickT (bT h26) (v := B _) rfl) <| RL.nil <| CW.condP rfl (fun h28 => ?_) (fun h28 => ?_)
   ·refine CW.regionS (by kernel_rfl) hH24 (sQ sR) <| fun w29 hH30 => have zh30 := hH30.sub (sQ sR); AQ 0 rfl zh30 (run_move e8_16) <| AQ 1 rfl zh30 (fA underlying65 1 rfl sizeOf63 e3_16) <| AT 2 rfl zh30 (fun w hS => run_ld underlying63 rfl rfl (hS.cell (i := 3) rfl rfl)) <| AQ 3 rfl zh30 (run_move e8_16) <| AT 4 rfl zh30 (fun w hS => run_indexAddrS (hs.facs.sl.hp hS) underlying63 sizeOf62 rfl rfl (by omega)) <| AQ 5 rfl zh30 (fA underlying62 2 rfl sizeOf60 rfl) <| AT 6 rfl zh30 (fun w hS => run_ldFR (hs.facs.sl.hp hS) underlying60 rfl rfl rfl (by omega)) <| AQ 7 rfl zh30 (run_move e8_16) <| AQ 8 rfl zh30 (run_indexAddrA underlying39 sizeOf37 e4_16 rfl (by omega)) <| AT 9 rfl zh30 (fun w hS => run_ld underlying37 rfl rfl (hS.cell (i := 2) rfl (elC_at _ (by omega)))) <| AQ 10 rfl zh30 (run_move e8_16) <| AQ 11 rfl zh30 (run_indexAddrA underlying39 sizeOf37 e5_16 rfl (by omega)) <| AT 12 rfl zh30 (fun w hS => run_ld underlying37 rfl rfl (hS.cell (i := 1) rfl (elC_at _ (by omega)))) <| A1 13 <| AO.callP rfl gnone rfl hH30 (sQ sR) (c_clearanceref06_Raise _ _ _  _) (run_call3 call74 rfl rfl rfl) <| fun w31 hH32 => AQ 14 rfl (hH32.sub (sQ sR)) (run_indexAddrA underlying39 sizeOf37 e7_16 rfl (by omega)) <| A1 15 <| AO.set rfl gnone hH32 (j := 0) rfl (sQ sR) (run_st rfl rfl (v := U _) rfl rfl rfl (hH32.blk (i := 0) rfl) (by rw [elC_size]; omega)) <| fun w35 hH36 => ?_
    simp only [z2] at hH36
    rw [elC_put] at hH36
    refine AD <| CW.region <| vm e8_16 <| V (run_add rfl rfl (by omega)) <| aI rfl <| RL.nil <| ?_
    refine ⟨(k + 1, _), ?_, fr16.u4.u4.u4.u4.u4.u4.u4.u4.u4.u4.u1.u1.u1, hH36, (congrArg I (by rfl)), ?_, ?_, ?_⟩
    ·((try dsimp only); omega)
    ·omega
    ·omega
    ·exact join_putR4 hr h0 ‹_› ‹_›
   ·refine CW.skip <| CW.region <| vm e8_16 <| V (run_add rfl rfl (by omega)) <| aI rfl <| RL.nil <| ?_
    refine ⟨(k + 1, _), ?_, fr16.u4.u4.u4.u4.u4.u4.u4, hH24, (congrArg I (by rfl)), ?_, ?_, ?_⟩
    ·((try dsimp only); omega)
    ·omega
    ·omega
    ·exact join_putRO hr h0 (fun hc => absurd hc.1 (by omega))
  ·refine gF rfl (bF h26) <| gF rfl (bF h26) <| gF rfl (bF h26) <| gF rfl (bF h26) <| gF rfl (bF h26) <| gF rfl (bF h26) <| gF rfl (bF h26) <| V (run_pickF (bF h26) (v := B false) rfl) <| RL.nil <| CW.condF rfl <| CW.skip <| CW.region <| vm e8_16 <| V (run_add rfl rfl (by omega)) <| aI rfl <| RL.nil <| ?_
   refine ⟨(k + 1, _), ?_, fr16.u4.u4.u4.u4.u4.u4.u4, hH24, (congrArg I (by rfl)), ?_, ?_, ?_⟩
   ·((try dsimp only); omega)
   ·omega
   ·omega
   ·exact join_putRO hr h0 (fun hc => absurd hc.1 (by omega))
 ·refine CW.exit (id := 0) rfl <| SR <| V (run_ldEl underlying39 rfl rfl e7_16 (hH16.blk (i := 0) rfl)) <| RL.set hH16 (i := 1) rfl (run_stEl rfl e6_16 rfl (hH16.blk (i := 1) rfl)) <| fun w37 hH38 => ?_
  simp only [z2] at hH38
  refine RL.nil <| CW.ret <| outCg Tryz.results49 e6_16 hH38 (i := 1) rfl underlying39 rfl (by rw [elC_size]; rfl) ⟨?_, hH38.below⟩
  (exact congrArg Value.agg (elC_congr (by rw [hr]; exact mix_all ‹_›)))
theorem c_clearanceref07_Meet (a b : El) (w : World) : Calls Tryz.prog 50 #[.agg (elC a), .agg (elC b)] w (Pure (.agg (elC (meetE a b))) w) := by
 refine enter Tryz.func50 rfl Tryz.ntmps50 rfl <| have hH := Hp.start w; SR <| RL.new rfl hH (f := fun b => (.pointer (some ⟨b, 0, none⟩))) (run_box (v := .agg _) rfl) <| fun b3 w1 hH2 => RL.new rfl hH2 (f := fun b => (.pointer (some ⟨b, 0, none⟩))) (run_box (v := .agg _) rfl) <| fun b6 w4 hH5 => RL.new rfl hH5 (f := fun b => (.pointer (some ⟨b, 0, none⟩))) (run_alloc zero_el) <| fun b9 w7 hH8 => RL.nil <| SR <| RL.new rfl hH8 (f := fun b => (.pointer (some ⟨b, 0, none⟩))) (run_alloc zero_el) <| fun b12 w10 hH11 => RL.nil <| CW.seq <| SR <| va (v := I 0) rfl <| RL.nil <| CW.block <| CW.loop (G := Int × El) (fun ⟨k, e1⟩ s' w' => (Fr (rg 6 14 []) _ s') ∧ (Hp w w' (.blk b12 (.cells (elC e1) 39 (0, 0)) :: _)) ∧ (s' 6 = I k) ∧ (0 ≤ k) ∧ (k ≤ 8) ∧ (e1 = mixE (meetE a b) el0 k)) (fun ⟨k, e1⟩ => (8 - k).toNat) ((0, el0)) ⟨Fr.refl _ _, hH11, rfl, (by omega), (by omega), (mix_zero _ _).symm⟩ <| ?_
 rintro ⟨k, e1⟩ sg13 w13 ⟨fr13, hH13, e6_13, h0, hk, hr⟩
 have e2_13 := fr13.pp 2 rfl rfl
 have e3_13 := fr13.pp 3 rfl rfl
 have e4_13 := fr13.pp 4 rfl rfl
 have e5_13 := fr13.pp 5 rfl rfl
 refine CW.seq <| SR <| vm e6_13 <| V (run_lss rfl rfl) <| RL.nil <| CW.condP rfl (fun h15 => ?_) (fun h15 => ?_)
 ·refine CW.skip <| CW.seq <| CW.block <| CW.regionS (by kernel_rfl) hH13 (sQ sR) <| fun w16 hH17 => have zh17 := hH17.sub (sQ sR); AQ 0 rfl zh17 (run_move e6_13) <| AQ 1 rfl zh17 (run_move e6_13) <| AQ 2 rfl zh17 (run_indexAddrA underlying39 sizeOf37 e2_13 rfl (by omega)) <| AT 3 rfl zh17 (fun w hS => run_ld underlying37 rfl rfl (hS.cell (i := 2) rfl (elC_at _ (by omega)))) <| AQ 4 rfl zh17 (run_move e6_13) <| AQ 5 rfl zh17 (run_indexAddrA underlying39 sizeOf37 e3_13 rfl (by omega)) <| AT 6 rfl zh17 (fun w hS => run_ld underlying37 rfl rfl (hS.cell (i := 1) rfl (elC_at _ (by omega)))) <| AQ 7 rfl zh17 (run_andU rfl rfl) <| AQ 8 rfl zh17 (run_indexAddrA underlying39 sizeOf37 e5_13 rfl (by omega)) <| A1 9 <| AO.set rfl gnone hH17 (j := 0) rfl (sQ sR) (run_st rfl rfl (v := U _) rfl rfl rfl (hH17.blk (i := 0) rfl) (by rw [elC_size]; omega)) <| fun w20 hH21 => ?_
  simp only [z2] at hH21
  rw [elC_put] at hH21
  refine AD <| CW.region <| vm e6_13 <| V (run_add rfl rfl (by omega)) <| aI rfl <| RL.nil <| ?_
  refine ⟨(k + 1, _), ?_, fr13.u4.u4.u4.u1.u1, hH21, (congrArg I (by rfl)), ?_, ?_, ?_⟩
  ·((try dsimp only); omega)
  ·omega
  ·omega
  ·exact meet_putR hr h0
 ·refine CW.exit (id := 0) rfl <| SR <| V (run_ldEl underlying39 rfl rfl e5_13 (hH13.blk (i := 0) rfl)) <| RL.set hH13 (i := 1) rfl (run_stEl rfl e4_13 rfl (hH13.blk (i := 1) rfl)) <| fun w22 hH23 => ?_
  simp only [z2] at hH23
  refine RL.nil <| CW.ret <| outCg Tryz.results50 e4_13 hH23 (i := 1) rfl underlying39 rfl (by rw [elC_size]; rfl) ⟨?_, hH23.below⟩
  (exact congrArg Value.agg (elC_congr (by rw [hr]; exact mix_all ‹_›)))
theorem c_clearancelaw07_Big (s : Shp) (w : World) (hs : ShpV (Kw w) s) : Calls Tryz.prog 41 #[.agg (shpC s)] w (Pure (B (bigS s.sh)) w) := by
 have hsl := sh_len s
 have hm := hs.facs.sl.small
 unfold maxLen at hm
 refine enter Tryz.func41 rfl Tryz.ntmps41 rfl <| have hH := Hp.start w; SR <| RL.new rfl hH (f := fun b => (.pointer (some ⟨b, 0, none⟩))) (run_box (v := .agg _) rfl) <| fun b3 w1 hH2 => va (v := B false) rfl <| RL.nil <| CW.seq <| SR <| V (fA underlying65 1 rfl sizeOf63 rfl) <| V (run_ld underlying63 rfl rfl (hH2.cell (i := 0) rfl rfl)) <| V (run_lenSl (hs.facs.sl.hp hH2) rfl underlying63 rfl) <| V (run_gtr rfl rfl) <| RL.nil <| CW.condP rfl (fun h5 => ?_) (fun h5 => ?_)
 ·refine SR <| va (v := B true) rfl <| RL.nil <| CW.ret <| outP1 Tryz.results41 (congrArg B ?_) hH2.below
  exact (big_1 (s := s.sh) (by omega)).symm
 ·refine CW.skip <| CW.seq <| SR <| va (v := I 0) rfl <| RL.nil <| CW.block <| CW.loop (G := Int) (fun k s' w' => (Fr (rg 2 4 (rg 10 30 [])) _ s') ∧ (Hp w w' _) ∧ (s' 3 = I k) ∧ (0 ≤ k) ∧ (k ≤ s.facs.length) ∧ (∀ j : Int, 0 ≤ j → j < k → bigN (s.facs.getD j.toNat fac0).names = false)) (fun k => (s.facs.length - k).toNat) (0) ⟨Fr.refl _ _, hH2, rfl, (by omega), (by omega), fun j a b => absurd b (by omega)⟩ <| ?_
  rintro k sg6 w6 ⟨fr6, hH6, e3_6, h0, hk, hg⟩
  have e1_6 := fr6.pp 1 rfl rfl
  refine CW.seq <| SR <| vm e3_6 <| V (fA underlying65 1 rfl sizeOf63 e1_6) <| V (run_ld underlying63 rfl rfl (hH6.cell (i := 0) rfl rfl)) <| V (run_lenSl (hs.facs.sl.hp hH6) rfl underlying63 rfl) <| V (run_lss rfl rfl) <| RL.nil <| CW.condP rfl (fun h8 => ?_) (fun h8 => ?_)
  ·refine CW.skip <| CW.seq <| CW.block <| SR <| V (fA underlying65 1 rfl sizeOf63 e1_6) <| V (run_ld underlying63 rfl rfl (hH6.cell (i := 0) rfl rfl)) <| vm e3_6 <| V (run_indexAddrS (hs.facs.sl.hp hH6) underlying63 sizeOf62 rfl rfl (by omega)) <| V (run_ldE (dv := fac0) facL_len (hs.facs.sl.hp hH6) underlying62 rfl rfl rfl (by omega)) <| RL.new rfl hH6 (f := fun b => (.pointer (some ⟨b, 0, none⟩))) (run_alloc zero_fac) <| fun b11 w9 hH10 => RL.set hH10 (i := 0) rfl (run_stFac (hs.at (by omega) (by omega)) rfl rfl rfl (hH10.blk (i := 0) rfl)) <| fun w12 hH13 => ?_
   simp only [z2] at hH13
   refine RL.nil <| CW.seq <| SR <| V (fA underlying62 1 rfl sizeOf57 rfl) <| V (run_ld underlying57 rfl rfl (hH13.cell (i := 0) rfl rfl)) <| V (run_lenSl ((hs.at (by omega) (by omega)).names.sl.hp hH13) rfl underlying57 rfl) <| V (run_gtr rfl rfl) <| RL.nil <| CW.condP rfl (fun h15 => ?_) (fun h15 => ?_)
   ·refine SR <| va (v := B true) rfl <| RL.nil <| CW.ret <| outP1 Tryz.results41 (congrArg B ?_) hH13.below
    exact (big_2 (s := s.sh) (k := k) h0 (by omega) (by rw [sh_get]; (exact bigN_1 (by show 70 < (s.facs.getD k.toNat fac0).names.length; omega)))).symm
   ·refine CW.skip <| SR <| va (v := I 0) rfl <| RL.nil <| CW.block <| have hnb : (s.facs.getD k.toNat fac0).names.length ≤ 70 := (by omega); CW.loop (G := Int) (fun i s' w' => (Fr (2 :: (5 :: (rg 26 14 []))) _ s') ∧ (Hp w w' _) ∧ (s' 5 = I i) ∧ (0 ≤ i) ∧ (i ≤ (s.facs.getD k.toNat fac0).names.length) ∧ (∀ j : Int, 0 ≤ j → j < i → ¬ 40 < ((s.facs.getD k.toNat fac0).names.getD j.toNat tx0).size)) (fun i => ((s.facs.getD k.toNat fac0).names.length - i).toNat) (0) ⟨Fr.refl _ _, hH13, rfl, (by omega), (by omega), fun j a b => absurd b (by omega)⟩ <| ?_
    rintro i sg16 w16 ⟨fr16, hH16, e5_16, i0, i1, hn⟩
    have e3_16 := (fr16 3 rfl).trans e3_6
    have e4_16 := fr16.pp 4 rfl rfl
    refine CW.seq <| SR <| vm e5_16 <| V (fA underlying62 1 rfl sizeOf57 e4_16) <| V (run_ld underlying57 rfl rfl (hH16.cell (i := 0) rfl rfl)) <| V (run_lenSl ((hs.at (by omega) (by omega)).names.sl.hp hH16) rfl underlying57 rfl) <| V (run_lss rfl rfl) <| RL.nil <| CW.condP rfl (fun h18 => ?_) (fun h18 => ?_)
    ·refine CW.skip <| CW.seq <| CW.block <| SR <| V (fA underlying62 1 rfl sizeOf57 e4_16) <| V (run_ld underlying57 rfl rfl (hH16.cell (i := 0) rfl rfl)) <| vm e5_16 <| V (run_indexAddrS ((hs.at (by omega) (by omega)).names.sl.hp hH16) underlying57 sizeOf9 rfl rfl (by omega)) <| V (run_ld underlying9 rfl rfl (((hs.at (by omega) (by omega)).names.sl.hp hH16).cell _ _ (txL_at (by omega)))) <| V (run_lenStr rfl underlying9 rfl) <| V (run_gtr rfl rfl) <| RL.nil <| CW.condP rfl (fun h20 => ?_) (fun h20 => ?_)
     ·refine SR <| va (v := B true) rfl <| RL.nil <| CW.ret <| outP1 Tryz.results41 (congrArg B ?_) hH16.below
      exact (big_2 (s := s.sh) (k := k) h0 (by omega) (by rw [sh_get]; (exact bigN_2 i0 ‹_› (by show 40 < ((s.facs.getD k.toNat fac0).names.getD i.toNat tx0).size; omega)))).symm
     ·refine CW.skip <| CW.region <| vm e5_16 <| V (run_add rfl rfl (by omega)) <| aI rfl <| RL.nil <| ?_
      refine ⟨i + 1, ?_, fr16.u4.u4.u4.u1.u1.u1, hH16, (congrArg I (by rfl)), ?_, ?_, ?_⟩
      ·((try dsimp only); omega)
      ·omega
      ·omega
      ·exact fun j a b => if e : j = i then e ▸ (by omega) else hn j a (by omega)
    ·refine CW.exit (id := 2) rfl <| CW.region <| vm e3_16 <| V (run_add rfl rfl (by omega)) <| aI rfl <| RL.nil <| ?_
     refine ⟨k + 1, ?_, (((fr6.u4.u4.u4.u4).t fr16 rfl)).u4.u4, (hH16.sub (sQ sR)), (congrArg I (by rfl)), ?_, ?_, ?_⟩
     ·((try dsimp only); omega)
     ·omega
     ·omega
     ·exact fun j a b => if e : j = k then e ▸ bigN_no (by omega) ‹¬ i < _› hn else hg j a (by omega)
  ·refine CW.exit (id := 0) rfl <| SR <| va (v := B false) rfl <| RL.nil <| CW.ret <| outP1 Tryz.results41 (congrArg B ?_) hH6.below
   exact (big_no (s := s.sh) (k := k) (by omega) (by omega) fun j a b => by rw [sh_get]; exact hg j a b).symm
theorem c_assign_place (v : Value) (l : List ValR) (f : Tx) (w : World) (hs : Sl w v 9 l.length (l.flatMap valL)) : Calls Tryz.prog 42 #[v, S f] w (Pure (I (vfind l f)) w) := by
 have hm := hs.small
 unfold maxLen at hm
 refine enter Tryz.func42 rfl Tryz.ntmps42 rfl <| have hH := Hp.start w; SR <| va (v := I 0) rfl <| RL.nil <| CW.seq <| SR <| ?_
 refine V (run_move (by conv => lhs; whnf)) ?_
 refine V (run_lenSl (hs.hp hH) rfl underlying54 rfl) <| vm (v := I 0) rfl <| RL.nil <| CW.block <| CW.loop (G := Int) (fun k s' w' => (Fr (4 :: 5 :: (rg 8 12 [])) _ s') ∧ (Hp w w' _) ∧ (s' 8 = I k) ∧ (0 ≤ k) ∧ (k ≤ l.length) ∧ (∀ j : Int, 0 ≤ j → j < k → decide ((l.getD j.toNat val0).name = f) = false)) (fun k => (l.length - k).toNat) (0) ⟨Fr.refl _ _, hH, rfl, (by omega), (by omega), fun j a b => absurd b (by omega)⟩ <| ?_
 rintro k sg1 w1 ⟨fr1, hH1, e8_1, h0, hk, hg⟩
 have e0_1 := (fr1 0 rfl).trans (by conv => lhs; whnf)
 have e1_1 := fr1.ss 1 rfl rfl
 have e7_1 := fr1.ii 7 rfl rfl
 refine SR <| V (run_lss e8_1 e7_1) <| RL.nil <| CW.seq <| CW.condP rfl (fun h3 => ?_) (fun h3 => ?_)
 ·refine CW.skip <| CW.seq <| CW.block <| SR <| vm e8_1 <| aI rfl <| RL.nil <| SR <| vm e0_1 <| mI rfl <| V (run_indexAddrS (hs.hp hH1) underlying54 sizeOf56 rfl rfl (by omega)) <| V (fA underlying56 0 rfl sizeOf9 rfl) <| V (run_ldE1 (dv := val0) (off := 0) valL_len (hs.hp hH1) underlying9 rfl rfl (by omega) rfl) <| vm e1_1 <| V (run_eqlS rfl rfl) <| RL.nil <| CW.condP rfl (fun h5 => ?_) (fun h5 => ?_)
  ·refine SR <| mI rfl <| aI rfl <| RL.nil <| CW.ret <| outP1 Tryz.results42 (congrArg I ?_) hH1.below
   exact (find_yes h0 ‹_› (decide_eq_true ‹_›) hg).symm
  ·refine CW.skip <| CW.region <| V (run_add e8_1 rfl (by omega)) <| mI rfl <| RL.nil <| ?_
   refine ⟨k + 1, ?_, fr1.u4.u4.u4, hH1, (congrArg I (by rfl)), ?_, ?_, ?_⟩
   ·((try dsimp only); omega)
   ·omega
   ·omega
   ·exact fun j a b => if e : j = k then e ▸ decide_eq_false ‹_› else hg j a (by omega)
 ·refine CW.exit (id := 0) rfl <| SR <| va (v := I (-1)) rfl <| RL.nil <| CW.ret <| outP1 Tryz.results42 (congrArg I ?_) hH1.below
  exact (find_no fun j a b => hg j a (by omega)).symm
theorem c_assign_Get (v : Value) (l : List ValR) (f : Tx) (w : World) (hs : Sl w v 9 l.length (l.flatMap valL)) : Calls Tryz.prog 20 #[v, S f] w (Pure (.tuple #[.agg (elC (getF l f).1), B (getF l f).2]) w) := by
 have hm := hs.small
 unfold maxLen at hm
 have hvi := @vfind_in l f
 refine enter Tryz.func20 rfl Tryz.ntmps20 rfl <| have hH := Hp.start w; SR <| RL.new rfl hH (f := fun b => (.pointer (some ⟨b, 0, none⟩))) (run_alloc zero_el) <| fun b3 w1 hH2 => va (v := B false) rfl <| RL.nil <| SR <| ?_
 refine V (run_move (by conv => lhs; whnf)) ?_
 refine vm (v := .string _) rfl <| RL.callP rfl hH2 (c_assign_place _ _ _  _ (hs.hp hH2)) (run_call2 call42 rfl rfl) <| fun w4 hH5 => aI rfl <| RL.nil <| CW.seq <| SR <| mI rfl <| V (run_lss rfl rfl) <| RL.nil <| CW.condP rfl (fun h7 => ?_) (fun h7 => ?_)
 ·refine SR <| V (run_bld (vs := []) rfl (built_el0)) <| RL.set hH5 (i := 0) rfl (run_stEl rfl rfl rfl (hH5.blk (i := 0) rfl)) <| fun w8 hH9 => ?_
  simp only [z2] at hH9
  refine va (v := B false) rfl <| RL.nil <| CW.ret <| outCT Tryz.results20 rfl rfl hH9 (i := 0) rfl underlying39 rfl (by rw [elC_size]; rfl) ⟨?_, hH9.below⟩
  exact get_tn ‹_›
 ·refine CW.skip <| SR <| ?_
  refine V (run_move (by conv => lhs; whnf)) ?_
  refine mI rfl <| V (run_indexAddrS (hs.hp hH5) underlying54 sizeOf56 rfl rfl (by (have := hvi ‹_›; omega))) <| V (fA underlying56 1 rfl sizeOf39 rfl) <| V (run_ldVE (hs.hp hH5) underlying39 rfl rfl rfl (by (have := hvi ‹_›; omega))) <| RL.set hH5 (i := 0) rfl (run_stEl rfl rfl rfl (hH5.blk (i := 0) rfl)) <| fun w10 hH11 => ?_
  simp only [z2] at hH11
  refine va (v := B true) rfl <| RL.nil <| CW.ret <| outCT Tryz.results20 rfl rfl hH11 (i := 0) rfl underlying39 rfl (by rw [elC_size]; rfl) ⟨?_, hH11.below⟩
  exact get_ty ‹_›
theorem c_clearanceref18_Get (v : Value) (l : List ValR) (f : Tx) (w : World) (hs : Sl w v 9 l.length (l.flatMap valL)) : Calls Tryz.prog 25 #[v, S f] w (Pure (.tuple #[.agg (elC (getF l f).1), B (getF l f).2]) w) := by
 have hm := hs.small
 unfold maxLen at hm
 refine enter Tryz.func25 rfl Tryz.ntmps25 rfl <| have hH := Hp.start w; SR <| RL.new rfl hH (f := fun b => (.pointer (some ⟨b, 0, none⟩))) (run_alloc zero_el) <| fun b3 w1 hH2 => va (v := B false) rfl <| RL.nil <| CW.seq <| SR <| va (v := I 0) rfl <| RL.nil <| CW.block <| CW.loop (G := Int) (fun k s' w' => (Fr (rg 5 20 []) _ s') ∧ (Hp w w' _) ∧ (s' 6 = I k) ∧ (0 ≤ k) ∧ (k ≤ l.length) ∧ (∀ j : Int, 0 ≤ j → j < k → decide ((l.getD j.toNat val0).name = f) = false)) (fun k => (l.length - k).toNat) (0) ⟨Fr.refl _ _, hH2, rfl, (by omega), (by omega), fun j a b => absurd b (by omega)⟩ <| ?_
 rintro k sg4 w4 ⟨fr4, hH4, e6_4, h0, hk, hg⟩
 have e0_4 := (fr4 0 rfl).trans (by conv => lhs; whnf)
 have e1_4 := fr4.ss 1 rfl rfl
 have e4_4 := fr4.pp 4 rfl rfl
 refine CW.seq <| SR <| vm e6_4 <| vm e0_4 <| V (run_lenSl (hs.hp hH4) rfl underlying54 rfl) <| V (run_lss rfl rfl) <| RL.nil <| CW.condP rfl (fun h6 => ?_) (fun h6 => ?_)
 ·refine CW.skip <| CW.seq <| CW.block <| SR <| vm e0_4 <| vm e6_4 <| V (run_indexAddrS (hs.hp hH4) underlying54 sizeOf56 rfl rfl (by omega)) <| V (fA underlying56 0 rfl sizeOf9 rfl) <| V (run_ldE1 (dv := val0) (off := 0) valL_len (hs.hp hH4) underlying9 rfl rfl (by omega) rfl) <| vm e1_4 <| V (run_eqlS rfl rfl) <| RL.nil <| CW.condP rfl (fun h8 => ?_) (fun h8 => ?_)
  ·refine SR <| vm e0_4 <| vm e6_4 <| V (run_indexAddrS (hs.hp hH4) underlying54 sizeOf56 rfl rfl (by omega)) <| V (fA underlying56 1 rfl sizeOf39 rfl) <| V (run_ldVE (hs.hp hH4) underlying39 rfl rfl rfl (by omega)) <| RL.set hH4 (i := 0) rfl (run_stEl rfl e4_4 rfl (hH4.blk (i := 0) rfl)) <| fun w9 hH10 => ?_
   simp only [z2] at hH10
   refine va (v := B true) rfl <| RL.nil <| CW.ret <| outCT Tryz.results25 e4_4 rfl hH10 (i := 0) rfl underlying39 rfl (by rw [elC_size]; rfl) ⟨?_, hH10.below⟩
   exact get_tk h0 (find_yes h0 ‹k < _› (decide_eq_true ‹_›) hg)
  ·refine CW.skip <| CW.region <| vm e6_4 <| V (run_add rfl rfl (by omega)) <| aI rfl <| RL.nil <| ?_
   refine ⟨k + 1, ?_, fr4.u4.u4.u4.u1.u1, hH4, (congrArg I (by rfl)), ?_, ?_, ?_⟩
   ·((try dsimp only); omega)
   ·omega
   ·omega
   ·exact fun j a b => if e : j = k then e ▸ decide_eq_false ‹_› else hg j a (by omega)
 ·refine CW.exit (id := 0) rfl <| SR <| V (run_bld (vs := []) rfl (built_el0)) <| RL.set hH4 (i := 0) rfl (run_stEl rfl e4_4 rfl (hH4.blk (i := 0) rfl)) <| fun w11 hH12 => ?_
  simp only [z2] at hH12
  refine va (v := B false) rfl <| RL.nil <| CW.ret <| outCT Tryz.results25 e4_4 rfl hH12 (i := 0) rfl underlying39 rfl (by rw [elC_size]; rfl) ⟨?_, hH12.below⟩
  exact get_tn (by rw [vfind, find_no fun j a b => hg j a (by omega)]; decide)
theorem c_name_Less (a b : Tx) (w : World) : Calls Tryz.prog 68 #[S a, S b] w (Pure (B (lessT a b)) w) := by
 refine enter Tryz.func68 rfl Tryz.ntmps68 rfl <| have hH := Hp.start w; SR <| va (v := B false) rfl <| RL.nil <| SR <| vm (v := .string _) rfl <| vm (v := .string _) rfl <| V (run_lssS rfl rfl) <| aB rfl <| RL.nil <| CW.ret <| outP1 Tryz.results68 (congrArg B ?_) hH.below
 rfl
theorem c_clearanceref02_Less (a b : Tx) (hsz : a.size ≤ 1000 ∨ b.size ≤ 1000) (w : World) : Calls Tryz.prog 73 #[S a, S b] w (Pure (B (lessT a b)) w) := by
 refine enter Tryz.func73 rfl Tryz.ntmps73 rfl <| have hH := Hp.start w; SR <| va (v := B false) rfl <| RL.nil <| CW.seq <| SR <| va (v := I 0) rfl <| RL.nil <| CW.block <| CW.loop (G := Int) (fun k s' w' => (Fr (rg 4 28 []) _ s') ∧ (Hp w w' _) ∧ (s' 5 = I k) ∧ (0 ≤ k) ∧ (k ≤ a.size) ∧ (k ≤ b.size) ∧ (∀ j : Int, 0 ≤ j → j < k → byteAt a j = byteAt b j)) (fun k => (a.size - k).toNat) (0) ⟨Fr.refl _ _, hH, rfl, (by omega), (by omega), (by omega), fun j a b => absurd b (by omega)⟩ <| ?_
 rintro k sg1 w1 ⟨fr1, hH1, e5_1, h0, hk1, hk2, hg⟩
 have e0_1 := fr1.ss 0 rfl rfl
 have e1_1 := fr1.ss 1 rfl rfl
 refine CW.seq <| SR <| vm e5_1 <| vm e0_1 <| V (run_lenStr rfl underlying9 rfl) <| V (run_lss rfl rfl) <| mB rfl <| RL.splitP (dj := 10) rfl (fun h3 => ?_) (fun h3 => ?_)
 ·refine gT rfl (bT h3) <| vm e5_1 <| gT rfl (bT h3) <| vm e1_1 <| gT rfl (bT h3) <| V (run_lenStr rfl underlying9 rfl) <| gT rfl (bT h3) <| V (run_lss rfl rfl) <| V (run_pickT (bT h3) (v := B _) rfl) <| RL.nil <| CW.condP rfl (fun h5 => ?_) (fun h5 => ?_)
  ·refine CW.skip <| CW.seq <| CW.block <| CW.seq <| CW.regionD (by kernel_rfl) hH1 <| fun w6 hH7 => have zh7 := hH7.sub sR; AQ 0 rfl zh7 (run_move e0_1) <| AQ 1 rfl zh7 (run_move e5_1) <| AQ 2 rfl zh7 (run_idxS underlying9 rfl rfl (by omega)) <| AQ 3 rfl zh7 (run_move e1_1) <| AQ 4 rfl zh7 (run_move e5_1) <| AQ 5 rfl zh7 (run_idxS underlying9 rfl rfl (by omega)) <| AQ 6 rfl zh7 (run_neq rfl rfl) <| AD <| CW.condP rfl (fun h9 => ?_) (fun h9 => ?_)
   ·refine CW.seq <| CW.regionD (by kernel_rfl) hH7 <| fun w10 hH11 => have zh11 := hH11.sub sR; AQ 0 rfl zh11 (run_move e0_1) <| AQ 1 rfl zh11 (run_move e5_1) <| AQ 2 rfl zh11 (run_idxS underlying9 rfl rfl (by omega)) <| AQ 3 rfl zh11 (run_move e1_1) <| AQ 4 rfl zh11 (run_move e5_1) <| AQ 5 rfl zh11 (run_idxS underlying9 rfl rfl (by omega)) <| AQ 6 rfl zh11 (run_lss rfl rfl) <| AQ 7 rfl zh11 (aV (B _) rfl) <| AD <| CW.ret <| outP1 Tryz.results73 (congrArg B ?_) hH11.below
    exact less_at h0 (by omega) (by omega) hg ‹_›
   ·refine CW.skip <| CW.region <| vm e5_1 <| V (run_add rfl rfl (by omega)) <| aI rfl <| RL.nil <| ?_
    refine ⟨k + 1, ?_, fr1.u4.u4.u4.u4.u4, hH7, (congrArg I (by rfl)), ?_, ?_, ?_, ?_⟩
    ·((try dsimp only); omega)
    ·omega
    ·omega
    ·omega
    ·exact fun j u v => if e : j = k then e ▸ (by omega) else hg j u (by omega)
  ·refine CW.exit (id := 0) rfl <| SR <| vm e0_1 <| V (run_lenStr rfl underlying9 rfl) <| vm e1_1 <| V (run_lenStr rfl underlying9 rfl) <| V (run_lss rfl rfl) <| aB rfl <| RL.nil <| CW.ret <| outP1 Tryz.results73 (congrArg B ?_) hH1.below
   exact less_end h0 hk1 hk2 hg (by omega)
 ·refine gF rfl (bF h3) <| gF rfl (bF h3) <| gF rfl (bF h3) <| gF rfl (bF h3) <| V (run_pickF (bF h3) (v := B false) rfl) <| RL.nil <| CW.condF rfl <| CW.exit (id := 0) rfl <| SR <| vm e0_1 <| V (run_lenStr rfl underlying9 rfl) <| vm e1_1 <| V (run_lenStr rfl underlying9 rfl) <| V (run_lss rfl rfl) <| aB rfl <| RL.nil <| CW.ret <| outP1 Tryz.results73 (congrArg B ?_) hH1.below
  exact less_end h0 hk1 hk2 hg (by omega)
theorem c_assign_ordered (v : Value) (l : List ValR) (w : World) (hs : Sl w v 9 l.length (l.flatMap valL)) : Calls Tryz.prog 39 #[v] w (Pure (B (orderedF l)) w) := by
 have hm := hs.small
 unfold maxLen at hm
 refine enter Tryz.func39 rfl Tryz.ntmps39 rfl <| have hH := Hp.start w; SR <| va (v := B false) rfl <| RL.nil <| CW.seq <| SR <| ?_
 refine V (run_move (by conv => lhs; whnf)) ?_
 refine V (run_lenSl (hs.hp hH) rfl underlying54 rfl) <| vm (v := I 0) rfl <| RL.nil <| CW.block <| CW.loop (G := Int) (fun k s' w' => (Fr (rg 2 3 (rg 7 26 [])) _ s') ∧ (Hp w w' _) ∧ (s' 7 = I k) ∧ (0 ≤ k) ∧ (k ≤ l.length) ∧ (∀ j : Int, 0 ≤ j → j < k → (nameR (l.getD j.toNat val0).name && (decide (j ≤ 0) || lessT (l.getD (j - 1).toNat val0).name (l.getD j.toNat val0).name)) = true)) (fun k => (l.length - k).toNat) (0) ⟨Fr.refl _ _, hH, rfl, (by omega), (by omega), fun j a b => absurd b (by omega)⟩ <| ?_
 rintro k sg1 w1 ⟨fr1, hH1, e7_1, h0, hk, hg⟩
 have e0_1 := (fr1 0 rfl).trans (by conv => lhs; whnf)
 have e5_1 := (fr1 5 rfl).trans (by conv => lhs; whnf)
 have e6_1 := fr1.ii 6 rfl rfl
 refine SR <| V (run_lss e7_1 e6_1) <| RL.nil <| CW.seq <| CW.condP rfl (fun h3 => ?_) (fun h3 => ?_)
 ·refine CW.skip <| CW.seq <| CW.block <| SR <| vm e7_1 <| V (run_indexAddrS (hs.hp hH1) underlying54 sizeOf56 e5_1 e7_1 (by omega)) <| V (run_ldE (dv := val0) valL_len (hs.hp hH1) underlying56 rfl rfl rfl (by omega)) <| RL.new rfl hH1 (f := fun b => (.pointer (some ⟨b, 0, none⟩))) (run_alloc zero_val) <| fun b6 w4 hH5 => aI rfl <| RL.set hH5 (i := 0) rfl (run_stW (c' := (valL _).toArray) rfl rfl rfl (valL_one _) (hH5.blk (i := 0) rfl) rfl) <| fun w7 hH8 => ?_
  simp only [z2] at hH8
  refine RL.nil <| CW.seq <| CW.regionD (by kernel_rfl) hH8 <| fun w9 hH10 => AQ 0 rfl (hH10.sub sR) (fA underlying56 0 rfl sizeOf9 rfl) <| AT 1 rfl (hH10.sub sR) (fun w hS => run_ld underlying9 rfl rfl (hS.cell (i := 0) rfl (v := .string _) rfl)) <| A1 2 <| AO.callP rfl gnone rfl hH10 sR (c_name_Right _  _) (run_call1 call54 rfl) <| fun w11 hH12 => have zh12 := hH12.sub sR; AQ 3 rfl zh12 (run_not rfl) <| AQ 4 rfl zh12 (mV (B _) rfl) <| AN.split (dj := 16) rfl (fun h15 => ?_) (fun h15 => ?_)
  ·refine AK 5 rfl rfl (bR (c := true) h15) (hH12.sub sR) <| AK 6 rfl rfl (bR (c := true) h15) (hH12.sub sR) <| AK 7 rfl rfl (bR (c := true) h15) (hH12.sub sR) <| AU 8 rfl rfl rfl (hH12.sub sR) <| AU 9 rfl rfl rfl (hH12.sub sR) <| AU 10 rfl rfl rfl (hH12.sub sR) <| AU 11 rfl rfl rfl (hH12.sub sR) <| AU 12 rfl rfl rfl (hH12.sub sR) <| AU 13 rfl rfl rfl (hH12.sub sR) <| AU 14 rfl rfl rfl (hH12.sub sR) <| AU 15 rfl rfl rfl (hH12.sub sR) <| AU 16 rfl rfl rfl (hH12.sub sR) <| AU 17 rfl rfl rfl (hH12.sub sR) <| AK 18 rfl rfl (bR (c := true) h15) (hH12.sub sR) <| AQ 19 rfl zh12 (run_pickT (bR (c := true) h15) (v := B true) rfl) <| AD <| CW.condT rfl <| SR <| va (v := B false) rfl <| RL.nil <| CW.ret <| outP1 Tryz.results39 (congrArg B ?_) hH12.below
   exact (ordered_no1 h0 ‹k < _› (nt ‹(!nameR _) = true›)).symm
  ·refine AG 5 rfl rfl (bR (c := false) h15) (hH12.sub sR) (fun w hS => mV (I _) rfl) <| AG 6 rfl rfl (bR (c := false) h15) (hH12.sub sR) (fun w hS => run_gtr rfl rfl) <| AG 7 rfl rfl (bR (c := false) h15) (hH12.sub sR) (fun w hS => mV (B _) rfl) <| AN.splitP (dj := 19) rfl (fun h17 => ?_) (fun h17 => ?_)
   ·refine AG 8 rfl rfl (bT h17) (hH12.sub sR) (fun w hS => run_move e0_1) <| AG 9 rfl rfl (bT h17) (hH12.sub sR) (fun w hS => mV (I _) rfl) <| AG 10 rfl rfl (bT h17) (hH12.sub sR) (fun w hS => run_sub rfl rfl (by omega)) <| AG 11 rfl rfl (bT h17) (hH12.sub sR) (fun w hS => run_indexAddrS (hs.hp hS) underlying54 sizeOf56 rfl rfl (by omega)) <| AG 12 rfl rfl (bT h17) (hH12.sub sR) (fun w hS => fA underlying56 0 rfl sizeOf9 rfl) <| AG 13 rfl rfl (bT h17) (hH12.sub sR) (fun w hS => run_ldE1 (dv := val0) (off := 0) valL_len (hs.hp hS) underlying9 rfl rfl (by omega) rfl) <| AG 14 rfl rfl (bT h17) (hH12.sub sR) (fun w hS => fA underlying56 0 rfl sizeOf9 rfl) <| AG 15 rfl rfl (bT h17) (hH12.sub sR) (fun w hS => run_ld underlying9 rfl rfl (hS.cell (i := 0) rfl (v := .string _) rfl)) <| A1 16 <| AO.callP rfl (gsome rfl (bT h17)) rfl hH12 sR (c_name_Less _ _  _) (run_call2 call68 rfl rfl) <| fun w18 hH19 => AG 17 rfl rfl (bT h17) (hH19.sub sR) (fun w hS => run_not rfl) <| AG 18 rfl rfl (bR (c := false) h15) (hH19.sub sR) (fun w hS => run_pickT (bT h17) (v := B _) rfl) <| have zh19 := hH19.sub sR; AQ 19 rfl zh19 (run_pickF (bR (c := false) h15) (v := B _) rfl) <| AD <| CW.cond rfl (fun h22 => ?_) (fun h22 => ?_)
    ·refine SR <| va (v := B false) rfl <| RL.nil <| CW.ret <| outP1 Tryz.results39 (congrArg B ?_) hH19.below
     exact (ordered_no2 h0 ‹k < _› ‹0 < k› (nt ‹(!lessT _ _) = true›)).symm
    ·refine CW.skip <| CW.region <| V (run_add e7_1 rfl (by omega)) <| mI rfl <| RL.nil <| ?_
     refine ⟨k + 1, ?_, fr1.u4.u4.u4.u4.u4.u4.u4, (hH19.sub (sQ sR)), (congrArg I (by rfl)), ?_, ?_, ?_⟩
     ·((try dsimp only); omega)
     ·omega
     ·omega
     ·exact fun j a b => if e : j = k then e ▸ (by exact ord_y2 (nf ‹(!nameR _) = false›) (nf ‹(!lessT _ _) = false›)) else hg j a (by omega)
   ·refine AK 8 rfl rfl (bF h17) (hH12.sub sR) <| AK 9 rfl rfl (bF h17) (hH12.sub sR) <| AK 10 rfl rfl (bF h17) (hH12.sub sR) <| AK 11 rfl rfl (bF h17) (hH12.sub sR) <| AK 12 rfl rfl (bF h17) (hH12.sub sR) <| AK 13 rfl rfl (bF h17) (hH12.sub sR) <| AK 14 rfl rfl (bF h17) (hH12.sub sR) <| AK 15 rfl rfl (bF h17) (hH12.sub sR) <| AK 16 rfl rfl (bF h17) (hH12.sub sR) <| AK 17 rfl rfl (bF h17) (hH12.sub sR) <| AG 18 rfl rfl (bR (c := false) h15) (hH12.sub sR) (fun w hS => run_pickF (bF h17) (v := B false) rfl) <| AQ 19 rfl zh12 (run_pickF (bR (c := false) h15) (v := B _) rfl) <| AD <| CW.condF rfl <| CW.skip <| CW.region <| V (run_add e7_1 rfl (by omega)) <| mI rfl <| RL.nil <| ?_
    refine ⟨k + 1, ?_, fr1.u4.u4.u4.u4.u4.u4.u4, (hH12.sub (sQ sR)), (congrArg I (by rfl)), ?_, ?_, ?_⟩
    ·((try dsimp only); omega)
    ·omega
    ·omega
    ·exact fun j a b => if e : j = k then e ▸ (by exact ord_y1 (nf ‹_›) ‹¬ 0 < k›) else hg j a (by omega)
 ·refine CW.exit (id := 0) rfl <| SR <| va (v := B true) rfl <| RL.nil <| CW.ret <| outP1 Tryz.results39 (congrArg B ?_) hH1.below
  exact (ordered_yes ‹¬ k < _› hg).symm
theorem c_clearanceref18_ordered (v : Value) (l : List ValR) (w : World) (hs : Sl w v 9 l.length (l.flatMap valL)) : Calls Tryz.prog 53 #[v] w (Pure (B (orderedF l)) w) := by
 have hm := hs.small
 unfold maxLen at hm
 refine enter Tryz.func53 rfl Tryz.ntmps53 rfl <| have hH := Hp.start w; SR <| va (v := B false) rfl <| RL.nil <| CW.seq <| SR <| va (v := I 0) rfl <| RL.nil <| CW.block <| CW.loop (G := Int) (fun k s' w' => (Fr (rg 2 34 []) _ s') ∧ (Hp w w' _) ∧ (s' 3 = I k) ∧ (0 ≤ k) ∧ (k ≤ l.length) ∧ (∀ j : Int, 0 ≤ j → j < k → (nameR (l.getD j.toNat val0).name && (decide (j ≤ 0) || lessT (l.getD (j - 1).toNat val0).name (l.getD j.toNat val0).name)) = true)) (fun k => (l.length - k).toNat) (0) ⟨Fr.refl _ _, hH, rfl, (by omega), (by omega), fun j a b => absurd b (by omega)⟩ <| ?_
 rintro k sg1 w1 ⟨fr1, hH1, e3_1, h0, hk, hg⟩
 have e0_1 := (fr1 0 rfl).trans (by conv => lhs; whnf)
 refine CW.seq <| SR <| vm e3_1 <| vm e0_1 <| V (run_lenSl (hs.hp hH1) rfl underlying54 rfl) <| V (run_lss rfl rfl) <| RL.nil <| CW.condP rfl (fun h3 => ?_) (fun h3 => ?_)
 ·refine CW.skip <| CW.seq <| CW.block <| CW.seq <| CW.regionD (by kernel_rfl) hH1 <| fun w4 hH5 => have zh5 := hH5.sub sR; AQ 0 rfl zh5 (run_move e0_1) <| AQ 1 rfl zh5 (run_move e3_1) <| AT 2 rfl zh5 (fun w hS => run_indexAddrS (hs.hp hS) underlying54 sizeOf56 rfl rfl (by omega)) <| AQ 3 rfl zh5 (fA underlying56 0 rfl sizeOf9 rfl) <| AT 4 rfl zh5 (fun w hS => run_ldE1 (dv := val0) (off := 0) valL_len (hs.hp hS) underlying9 rfl rfl (by omega) rfl) <| A1 5 <| AO.callP rfl gnone rfl hH5 sR (c_clearanceref02_Right _  _) (run_call1 call36 rfl) <| fun w6 hH7 => have zh7 := hH7.sub sR; AQ 6 rfl zh7 (run_not rfl) <| AQ 7 rfl zh7 (mV (B _) rfl) <| AN.split (dj := 17) rfl (fun h10 => ?_) (fun h10 => ?_)
  ·refine AK 8 rfl rfl (bR (c := true) h10) (hH7.sub sR) <| AK 9 rfl rfl (bR (c := true) h10) (hH7.sub sR) <| AK 10 rfl rfl (bR (c := true) h10) (hH7.sub sR) <| AU 11 rfl rfl rfl (hH7.sub sR) <| AU 12 rfl rfl rfl (hH7.sub sR) <| AU 13 rfl rfl rfl (hH7.sub sR) <| AU 14 rfl rfl rfl (hH7.sub sR) <| AU 15 rfl rfl rfl (hH7.sub sR) <| AU 16 rfl rfl rfl (hH7.sub sR) <| AU 17 rfl rfl rfl (hH7.sub sR) <| AU 18 rfl rfl rfl (hH7.sub sR) <| AU 19 rfl rfl rfl (hH7.sub sR) <| AU 20 rfl rfl rfl (hH7.sub sR) <| AU 21 rfl rfl rfl (hH7.sub sR) <| AU 22 rfl rfl rfl (hH7.sub sR) <| AU 23 rfl rfl rfl (hH7.sub sR) <| AK 24 rfl rfl (bR (c := true) h10) (hH7.sub sR) <| AQ 25 rfl zh7 (run_pickT (bR (c := true) h10) (v := B true) rfl) <| AD <| CW.condT rfl <| SR <| va (v := B false) rfl <| RL.nil <| CW.ret <| outP1 Tryz.results53 (congrArg B ?_) hH7.below
   exact (ordered_no1 h0 ‹k < _› (nt ‹(!nameR _) = true›)).symm
  ·refine AG 8 rfl rfl (bR (c := false) h10) (hH7.sub sR) (fun w hS => run_move e3_1) <| AG 9 rfl rfl (bR (c := false) h10) (hH7.sub sR) (fun w hS => run_gtr rfl rfl) <| AG 10 rfl rfl (bR (c := false) h10) (hH7.sub sR) (fun w hS => mV (B _) rfl) <| AN.splitP (dj := 20) rfl (fun h12 => ?_) (fun h12 => ?_)
   ·refine AG 11 rfl rfl (bT h12) (hH7.sub sR) (fun w hS => run_move e0_1) <| AG 12 rfl rfl (bT h12) (hH7.sub sR) (fun w hS => run_move e3_1) <| AG 13 rfl rfl (bT h12) (hH7.sub sR) (fun w hS => run_sub rfl rfl (by omega)) <| AG 14 rfl rfl (bT h12) (hH7.sub sR) (fun w hS => run_indexAddrS (hs.hp hS) underlying54 sizeOf56 rfl rfl (by omega)) <| AG 15 rfl rfl (bT h12) (hH7.sub sR) (fun w hS => fA underlying56 0 rfl sizeOf9 rfl) <| AG 16 rfl rfl (bT h12) (hH7.sub sR) (fun w hS => run_ldE1 (dv := val0) (off := 0) valL_len (hs.hp hS) underlying9 rfl rfl (by omega) rfl) <| AG 17 rfl rfl (bT h12) (hH7.sub sR) (fun w hS => run_move e0_1) <| AG 18 rfl rfl (bT h12) (hH7.sub sR) (fun w hS => run_move e3_1) <| AG 19 rfl rfl (bT h12) (hH7.sub sR) (fun w hS => run_indexAddrS (hs.hp hS) underlying54 sizeOf56 rfl rfl (by omega)) <| AG 20 rfl rfl (bT h12) (hH7.sub sR) (fun w hS => fA underlying56 0 rfl sizeOf9 rfl) <| AG 21 rfl rfl (bT h12) (hH7.sub sR) (fun w hS => run_ldE1 (dv := val0) (off := 0) valL_len (hs.hp hS) underlying9 rfl rfl (by omega) rfl) <| A1 22 <| AO.callP rfl (gsome rfl (bT h12)) rfl hH7 sR (c_clearanceref02_Less _ _ (.inr (by have := name_sz (nf ‹(!nameR (l.getD k.toNat val0).name) = false›); omega)) _) (run_call2 call73 rfl rfl) <| fun w13 hH14 => AG 23 rfl rfl (bT h12) (hH14.sub sR) (fun w hS => run_not rfl) <| AG 24 rfl rfl (bR (c := false) h10) (hH14.sub sR) (fun w hS => run_pickT (bT h12) (v := B _) rfl) <| have zh14 := hH14.sub sR; AQ 25 rfl zh14 (run_pickF (bR (c := false) h10) (v := B _) rfl) <| AD <| CW.cond rfl (fun h17 => ?_) (fun h17 => ?_)
    ·refine SR <| va (v := B false) rfl <| RL.nil <| CW.ret <| outP1 Tryz.results53 (congrArg B ?_) hH14.below
     exact (ordered_no2 h0 ‹k < _› ‹0 < k› (nt ‹(!lessT _ _) = true›)).symm
    ·refine CW.skip <| CW.region <| vm e3_1 <| V (run_add rfl rfl (by omega)) <| aI rfl <| RL.nil <| ?_
     refine ⟨k + 1, ?_, fr1.u4.u4.u4.u4.u4.u4.u4.u4.u1, hH14, (congrArg I (by rfl)), ?_, ?_, ?_⟩
     ·((try dsimp only); omega)
     ·omega
     ·omega
     ·exact fun j a b => if e : j = k then e ▸ (by exact ord_y2 (nf ‹(!nameR _) = false›) (nf ‹(!lessT _ _) = false›)) else hg j a (by omega)
   ·refine AK 11 rfl rfl (bF h12) (hH7.sub sR) <| AK 12 rfl rfl (bF h12) (hH7.sub sR) <| AK 13 rfl rfl (bF h12) (hH7.sub sR) <| AK 14 rfl rfl (bF h12) (hH7.sub sR) <| AK 15 rfl rfl (bF h12) (hH7.sub sR) <| AK 16 rfl rfl (bF h12) (hH7.sub sR) <| AK 17 rfl rfl (bF h12) (hH7.sub sR) <| AK 18 rfl rfl (bF h12) (hH7.sub sR) <| AK 19 rfl rfl (bF h12) (hH7.sub sR) <| AK 20 rfl rfl (bF h12) (hH7.sub sR) <| AK 21 rfl rfl (bF h12) (hH7.sub sR) <| AK 22 rfl rfl (bF h12) (hH7.sub sR) <| AK 23 rfl rfl (bF h12) (hH7.sub sR) <| AG 24 rfl rfl (bR (c := false) h10) (hH7.sub sR) (fun w hS => run_pickF (bF h12) (v := B false) rfl) <| AQ 25 rfl zh7 (run_pickF (bR (c := false) h10) (v := B _) rfl) <| AD <| CW.condF rfl <| CW.skip <| CW.region <| vm e3_1 <| V (run_add rfl rfl (by omega)) <| aI rfl <| RL.nil <| ?_
    refine ⟨k + 1, ?_, fr1.u4.u4.u4.u4.u4.u4.u4.u4.u1, hH7, (congrArg I (by rfl)), ?_, ?_, ?_⟩
    ·((try dsimp only); omega)
    ·omega
    ·omega
    ·exact fun j a b => if e : j = k then e ▸ (by exact ord_y1 (nf ‹_›) ‹¬ 0 < k›) else hg j a (by omega)
 ·refine CW.exit (id := 0) rfl <| SR <| va (v := B true) rfl <| RL.nil <| CW.ret <| outP1 Tryz.results53 (congrArg B ?_) hH1.below
  exact (ordered_yes ‹¬ k < _› hg).symm
theorem c_assign_fits (s : Shp) (v : Value) (l : List ValR) (w : World) (hs : Sl w v 9 l.length (l.flatMap valL)) (hsh : ShpV (Kw w) s) (hT : Tab w) : Calls Tryz.prog 40 #[.agg (shpC s), v] w (Pure (B (fitsF s.sh l)) w) := by
 have hm := hs.small
 unfold maxLen at hm
 refine enter Tryz.func40 rfl Tryz.ntmps40 rfl <| have hH := Hp.start w; SR <| RL.new rfl hH (f := fun b => (.pointer (some ⟨b, 0, none⟩))) (run_box (v := .agg _) rfl) <| fun b3 w1 hH2 => va (v := B false) rfl <| RL.nil <| CW.seq <| SR <| ?_
 refine V (run_move (by conv => lhs; whnf)) ?_
 refine V (run_lenSl (hs.hp hH2) rfl underlying54 rfl) <| vm (v := I 0) rfl <| RL.nil <| CW.block <| CW.loop (G := Int) (fun k s' w' => (Fr (4 :: (6 :: (rg 9 10 []))) _ s') ∧ (Hp w w' _) ∧ (s' 9 = I k) ∧ (0 ≤ k) ∧ (k ≤ l.length) ∧ (∀ j : Int, 0 ≤ j → j < k → fitsS s.sh (l.getD j.toNat val0).el = true)) (fun k => (l.length - k).toNat) (0) ⟨Fr.refl _ _, hH2, rfl, (by omega), (by omega), fun j a b => absurd b (by omega)⟩ <| ?_
 rintro k sg4 w4 ⟨fr4, hH4, e9_4, h0, hk, hg⟩
 have e2_4 := fr4.pp 2 rfl rfl
 have e7_4 := (fr4 7 rfl).trans (by conv => lhs; whnf)
 have e8_4 := fr4.ii 8 rfl rfl
 refine SR <| V (run_lss e9_4 e8_4) <| RL.nil <| CW.seq <| CW.condP rfl (fun h6 => ?_) (fun h6 => ?_)
 ·refine CW.skip <| CW.seq <| CW.block <| SR <| V (run_indexAddrS (hs.hp hH4) underlying54 sizeOf56 e7_4 e9_4 (by omega)) <| V (run_ldE (dv := val0) valL_len (hs.hp hH4) underlying56 rfl rfl rfl (by omega)) <| RL.new rfl hH4 (f := fun b => (.pointer (some ⟨b, 0, none⟩))) (run_alloc zero_val) <| fun b9 w7 hH8 => RL.set hH8 (i := 0) rfl (run_stW (c' := (valL _).toArray) rfl rfl rfl (valL_one _) (hH8.blk (i := 0) rfl) rfl) <| fun w10 hH11 => ?_
  simp only [z2] at hH11
  refine RL.nil <| SR <| V (run_ldA (cs := [B _, _]) underlying65 rfl rfl e2_4 (rangeAt_cells (hH11.blk (i := 1) rfl))) <| V (fA underlying56 1 rfl sizeOf39 rfl) <| V (run_ldVB underlying39 rfl rfl rfl (hH11.blk (i := 0) rfl)) <| RL.callP rfl hH11 (c_shape_Fits _ _  _ (hsh.mono hH11.kw) (hT.hp hH11)) (run_call2 call38 rfl rfl) <| fun w12 hH13 => V (run_not rfl) <| RL.nil <| CW.cond rfl (fun h16 => ?_) (fun h16 => ?_)
  ·refine SR <| va (v := B false) rfl <| RL.nil <| CW.ret <| outP1 Tryz.results40 (congrArg B ?_) hH13.below
   exact (fits_no h0 ‹k < _› (nt ‹_›)).symm
  ·refine CW.skip <| CW.region <| V (run_add e9_4 rfl (by omega)) <| mI rfl <| RL.nil <| ?_
   refine ⟨k + 1, ?_, fr4.u4.u4.u1.u1.u1, (hH13.sub (sQ sR)), (congrArg I (by rfl)), ?_, ?_, ?_⟩
   ·((try dsimp only); omega)
   ·omega
   ·omega
   ·exact fun j a b => if e : j = k then e ▸ nf ‹_› else hg j a (by omega)
 ·refine CW.exit (id := 0) rfl <| SR <| va (v := B true) rfl <| RL.nil <| CW.ret <| outP1 Tryz.results40 (congrArg B ?_) hH4.below
  exact (fits_all ‹¬ k < _› hg).symm
theorem c_clearanceref18_Fields (v u : Value) (l m : List ValR) (w : World) (hs : Sl w v 9 l.length (l.flatMap valL)) (ht : Sl w u 9 m.length (m.flatMap valL)) : Calls Tryz.prog 27 #[v, u] w (Pure (B (sameL l m)) w) := by
 have hm := hs.small
 unfold maxLen at hm
 have hm2 := ht.small
 unfold maxLen at hm2
 refine enter Tryz.func27 rfl Tryz.ntmps27 rfl <| have hH := Hp.start w; SR <| va (v := B false) rfl <| RL.nil <| CW.seq <| SR <| ?_
 refine V (run_move (by conv => lhs; whnf)) ?_
 refine V (run_lenSl (hs.hp hH) rfl underlying54 rfl) ?_
 refine V (run_move (by conv => lhs; whnf)) ?_
 refine V (run_lenSl (ht.hp hH) rfl underlying54 rfl) <| V (run_neq rfl rfl) <| RL.nil <| CW.condP rfl (fun h2 => ?_) (fun h2 => ?_)
 ·refine SR <| va (v := B false) rfl <| RL.nil <| CW.ret <| outP1 Tryz.results27 (congrArg B ?_) hH.below
  exact (sameL_no1 ‹_›).symm
 ·refine CW.skip <| CW.seq <| SR <| va (v := I 0) rfl <| RL.nil <| CW.block <| have hlm : (l.length : Int) = m.length := (by omega); CW.loop (G := Int) (fun k s' w' => (Fr (4 :: 5 :: (rg 11 15 [])) _ s') ∧ (Hp w w' _) ∧ (s' 5 = I k) ∧ (0 ≤ k) ∧ (k ≤ l.length) ∧ (∀ j : Int, 0 ≤ j → j < k → sameV (l.getD j.toNat val0) (m.getD j.toNat val0) = true)) (fun k => (l.length - k).toNat) (0) ⟨Fr.refl _ _, hH, rfl, (by omega), (by omega), fun j a b => absurd b (by omega)⟩ <| ?_
  rintro k sg3 w3 ⟨fr3, hH3, e5_3, h0, hk, hg⟩
  have e0_3 := (fr3 0 rfl).trans (by conv => lhs; whnf)
  have e1_3 := (fr3 1 rfl).trans (by conv => lhs; whnf)
  refine CW.seq <| SR <| vm e5_3 <| vm e0_3 <| V (run_lenSl (hs.hp hH3) rfl underlying54 rfl) <| V (run_lss rfl rfl) <| RL.nil <| CW.condP rfl (fun h5 => ?_) (fun h5 => ?_)
  ·refine CW.skip <| CW.seq <| CW.block <| CW.seq <| CW.regionD (by kernel_rfl) hH3 <| fun w6 hH7 => have zh7 := hH7.sub sR; AQ 0 rfl zh7 (run_move e0_3) <| AQ 1 rfl zh7 (run_move e5_3) <| AT 2 rfl zh7 (fun w hS => run_indexAddrS (hs.hp hS) underlying54 sizeOf56 rfl rfl (by omega)) <| AT 3 rfl zh7 (fun w hS => run_ldE (dv := val0) valL_len (hs.hp hS) underlying56 rfl rfl rfl (by omega)) <| AQ 4 rfl zh7 (run_move e1_3) <| AQ 5 rfl zh7 (run_move e5_3) <| AT 6 rfl zh7 (fun w hS => run_indexAddrS (ht.hp hS) underlying54 sizeOf56 rfl rfl (by omega)) <| AT 7 rfl zh7 (fun w hS => run_ldE (dv := val0) valL_len (ht.hp hS) underlying56 rfl rfl rfl (by omega)) <| AQ 8 rfl zh7 (run_neqT (eq_val _ _) rfl rfl) <| AD <| CW.cond rfl (fun h9 => ?_) (fun h9 => ?_)
   ·refine SR <| va (v := B false) rfl <| RL.nil <| CW.ret <| outP1 Tryz.results27 (congrArg B ?_) hH7.below
    exact (sameL_no2 h0 ‹k < _› (nt ‹(!sameV _ _) = true›)).symm
   ·refine CW.skip <| CW.region <| vm e5_3 <| V (run_add rfl rfl (by omega)) <| aI rfl <| RL.nil <| ?_
    refine ⟨k + 1, ?_, fr3.u4.u4.u4.u4, hH7, (congrArg I (by rfl)), ?_, ?_, ?_⟩
    ·((try dsimp only); omega)
    ·omega
    ·omega
    ·exact fun j a b => if e : j = k then e ▸ nf ‹(!sameV _ _) = false› else hg j a (by omega)
  ·refine CW.exit (id := 0) rfl <| SR <| va (v := B true) rfl <| RL.nil <| CW.ret <| outP1 Tryz.results27 (congrArg B ?_) hH3.below
   exact (sameL_yes hlm ‹¬ k < _› hg).symm
set_option maxHeartbeats 2000000 in
theorem c_assign_Right (s : Scp) (a : Asg) (w : World) (hs : ScpV (Kw w) s) (ha : AsgV (Kw w) a) (hT : Tab w) : Calls Tryz.prog 17 #[.agg (scpC s), .agg (asgL a).toArray] w (Pure (B (rightA s.sc a.as)) w) := by
 have hm1 := hs.lats.sl.small
 have hm2 := hs.vars.sl.small
 unfold maxLen at hm1 hm2
 have hm3 := ha.labels.small
 have hm4 := ha.rows.small
 unfold maxLen at hm3 hm4
 refine enter Tryz.func17 rfl Tryz.ntmps17 rfl <| have hH := Hp.start w; SR <| RL.new rfl hH (f := fun b => (.pointer (some ⟨b, 0, none⟩))) (run_box (v := .agg _) rfl) <| fun b3 w1 hH2 => RL.new rfl hH2 (f := fun b => (.pointer (some ⟨b, 0, none⟩))) (run_box (v := .agg _) rfl) <| fun b6 w4 hH5 => va (v := B false) rfl <| RL.nil <| CW.seq <| SR <| V (fA underlying32 0 rfl sizeOf29 rfl) <| V (run_ldV (ha.labels.sl.hp hH5) underlying29 rfl rfl (hH5.cell (i := 0) rfl rfl)) <| V (run_lenSl (ha.labels.sl.hp hH5) rfl underlying29 rfl) <| V (fA underlying25 1 rfl sizeOf23 rfl) <| V (run_ldV (hs.vars.sl.hp hH5) underlying23 rfl rfl (hH5.cell (i := 1) rfl rfl)) <| V (run_lenSl (hs.vars.sl.hp hH5) rfl underlying23 rfl) <| V (run_neq rfl rfl) <| mB rfl <| RL.splitP (dj := 15) rfl (fun h8 => ?_) (fun h8 => ?_)
 ·refine gF rfl (bT h8) <| gF rfl (bT h8) <| gF rfl (bT h8) <| gF rfl (bT h8) <| gF rfl (bT h8) <| gF rfl (bT h8) <| gF rfl (bT h8) <| V (run_pickT (bT h8) (v := B true) rfl) <| RL.nil <| CW.condT rfl <| SR <| va (v := B false) rfl <| RL.nil <| CW.ret <| outP1 Tryz.results17 (congrArg B ?_) hH5.below
  exact (right_1 (by omega)).symm
 ·refine gT rfl (bF h8) <| V (fA underlying32 1 rfl sizeOf30 rfl) <| gT rfl (bF h8) <| V (run_ldV (ha.rows.sl.hp hH5) underlying30 rfl rfl (hH5.cell (i := 0) rfl rfl)) <| gT rfl (bF h8) <| V (run_lenSl (ha.rows.sl.hp hH5) rfl underlying30 rfl) <| gT rfl (bF h8) <| V (fA underlying25 1 rfl sizeOf23 rfl) <| gT rfl (bF h8) <| V (run_ldV (hs.vars.sl.hp hH5) underlying23 rfl rfl (hH5.cell (i := 1) rfl rfl)) <| gT rfl (bF h8) <| V (run_lenSl (hs.vars.sl.hp hH5) rfl underlying23 rfl) <| gT rfl (bF h8) <| V (run_neq rfl rfl) <| V (run_pickF (bF h8) (v := B _) rfl) <| RL.nil <| CW.condP rfl (fun h10 => ?_) (fun h10 => ?_)
  ·refine SR <| va (v := B false) rfl <| RL.nil <| CW.ret <| outP1 Tryz.results17 (congrArg B ?_) hH5.below
   exact (right_2 (by omega)).symm
  ·refine CW.skip <| CW.seq <| SR <| V (fA underlying25 1 rfl sizeOf23 rfl) <| V (run_ldV (hs.vars.sl.hp hH5) underlying23 rfl rfl (hH5.cell (i := 1) rfl rfl)) <| V (run_lenSl (hs.vars.sl.hp hH5) rfl underlying23 rfl) <| vm (v := I 0) rfl <| RL.nil <| CW.block <| have e1 : (a.labels.length : Int) = s.vars.length := (by omega); have e2 : (a.rows.length : Int) = s.vars.length := (by omega); CW.loop (G := Int) (fun k s' w' => (Fr (rg 4 4 (rg 27 73 [])) _ s') ∧ (Hp w w' _) ∧ (s' 27 = I k) ∧ (0 ≤ k) ∧ (k ≤ s.vars.length) ∧ (∀ i : Int, 0 ≤ i → i < k → okG s a i = true)) (fun k => (s.vars.length - k).toNat) (0) ⟨Fr.refl _ _, hH5, rfl, (by omega), (by omega), fun j a b => absurd b (by omega)⟩ <| ?_
   rintro k sg11 w11 ⟨fr11, hH11, e27_11, h0, hk, hg⟩
   have e2_11 := fr11.pp 2 rfl rfl
   have e3_11 := fr11.pp 3 rfl rfl
   have e25_11 := (fr11 25 rfl).trans (by conv => lhs; whnf)
   have e26_11 := fr11.ii 26 rfl rfl
   refine SR <| V (run_lss e27_11 e26_11) <| RL.nil <| CW.seq <| CW.condP rfl (fun h13 => ?_) (fun h13 => ?_)
   ·refine CW.skip <| CW.seq <| CW.block <| SR <| vm e27_11 <| V (run_indexAddrS (hs.vars.sl.hp hH11) underlying23 sizeOf69 e25_11 e27_11 (by omega)) <| V (run_ldE (dv := var0) varL_len (hs.vars.sl.hp hH11) underlying69 rfl rfl rfl (by omega)) <| RL.new rfl hH11 (f := fun b => (.pointer (some ⟨b, 0, none⟩))) (run_alloc Tryz.zeroValue69) <| fun b16 w14 hH15 => aI rfl <| RL.set hH15 (i := 0) rfl (run_stW (c' := (varL _).toArray) rfl rfl rfl (by simp [varL, Value.oneCell']) (hH15.blk (i := 0) rfl) rfl) <| fun w17 hH18 => ?_
    simp only [z2] at hH18
    refine RL.nil <| CW.seq <| SR <| V (fA underlying69 2 rfl sizeOf3 rfl) <| V (run_ld underlying3 rfl rfl (hH18.cell (i := 0) rfl (v := I _) rfl)) <| V (run_lss rfl rfl) <| mB rfl <| RL.splitP (dj := 35) rfl (fun h20 => ?_) (fun h20 => ?_)
    ·refine gF rfl (bT h20) <| gF rfl (bT h20) <| gF rfl (bT h20) <| gF rfl (bT h20) <| gF rfl (bT h20) <| gF rfl (bT h20) <| V (run_pickT (bT h20) (v := B true) rfl) <| RL.nil <| CW.condT rfl <| SR <| va (v := B false) rfl <| RL.nil <| CW.ret <| outP1 Tryz.results17 (congrArg B ?_) hH18.below
     exact (right_3 h0 ‹k < _› (ok_n0 (by omega))).symm
    ·refine gT rfl (bF h20) <| V (fA underlying69 2 rfl sizeOf3 rfl) <| gT rfl (bF h20) <| V (run_ld underlying3 rfl rfl (hH18.cell (i := 0) rfl (v := I _) rfl)) <| gT rfl (bF h20) <| V (fA underlying25 0 rfl sizeOf22 e2_11) <| gT rfl (bF h20) <| V (run_ldV (hs.lats.sl.hp hH18) underlying22 rfl rfl (hH18.cell (i := 2) rfl rfl)) <| gT rfl (bF h20) <| V (run_lenSl (hs.lats.sl.hp hH18) rfl underlying22 rfl) <| gT rfl (bF h20) <| V (run_geq rfl rfl) <| V (run_pickF (bF h20) (v := B _) rfl) <| RL.nil <| CW.condP rfl (fun h22 => ?_) (fun h22 => ?_)
     ·refine SR <| va (v := B false) rfl <| RL.nil <| CW.ret <| outP1 Tryz.results17 (congrArg B ?_) hH18.below
      exact (right_3 h0 ‹k < _› (ok_n0 (by omega))).symm
     ·refine CW.skip <| SR <| V (fA underlying25 0 rfl sizeOf22 e2_11) <| V (run_ldV (hs.lats.sl.hp hH18) underlying22 rfl rfl (hH18.cell (i := 2) rfl rfl)) <| V (fA underlying69 2 rfl sizeOf3 rfl) <| V (run_ld underlying3 rfl rfl (hH18.cell (i := 0) rfl (v := I _) rfl)) <| V (run_indexAddrS (hs.lats.sl.hp hH18) underlying22 sizeOf67 rfl rfl (by omega)) <| V (fA underlying67 1 rfl sizeOf65 rfl) <| V (run_ldEA (dv := lat0) (off := 1) (cs := shpL _) latL_len (hs.lats.sl.hp hH18) underlying65 rfl rfl rfl (by omega) (lat_shp _)) <| RL.new rfl hH18 (f := fun b => (.pointer (some ⟨b, 0, none⟩))) (run_alloc Tryz.zeroValue65) <| fun b25 w23 hH24 => RL.set hH24 (i := 0) rfl (run_stShp (hs.at (by omega) (by omega)) rfl rfl rfl (hH24.blk (i := 0) rfl) rfl) <| fun w26 hH27 => ?_
      simp only [z2] at hH27
      refine RL.nil <| SR <| V (fA underlying69 1 rfl sizeOf3 rfl) <| V (run_ld underlying3 rfl rfl (hH27.cell (i := 1) rfl (v := I _) rfl)) <| RL.nil <| CW.block <| SR <| V (run_eql rfl rfl) <| aB rfl <| RL.nil <| CW.condP rfl (fun h29 => ?_) (fun h29 => ?_)
      ·refine CW.seq <| CW.regionD (by kernel_rfl) hH27 <| fun w30 hH31 => have zh31 := hH31.sub sR; AQ 0 rfl zh31 (fA underlying32 1 rfl sizeOf30 e3_11) <| AT 1 rfl zh31 (fun w hS => run_ldV (ha.rows.sl.hp hS) underlying30 rfl rfl (hS.cell (i := 2) rfl rfl)) <| AQ 2 rfl zh31 (mV (I _) rfl) <| AT 3 rfl zh31 (fun w hS => run_indexAddrS (ha.rows.sl.hp hS) underlying30 sizeOf54 rfl rfl (by omega)) <| AT 4 rfl zh31 (fun w hS => run_ld underlying54 rfl rfl ((ha.rows.sl.hp hS).cell _ _ (rowsC_at (by omega)))) <| AT 5 rfl zh31 (fun w hS => run_lenSl ((ha.at (by omega) (by omega)).sl.hp hS) rfl underlying54 rfl) <| AQ 6 rfl zh31 (run_gtr rfl rfl) <| AQ 7 rfl zh31 (mV (B _) rfl) <| AN.splitP (dj := 61) rfl (fun h33 => ?_) (fun h33 => ?_)
       ·refine AK 8 rfl rfl (bT h33) (hH31.sub sR) <| AK 9 rfl rfl (bT h33) (hH31.sub sR) <| AK 10 rfl rfl (bT h33) (hH31.sub sR) <| AK 11 rfl rfl (bT h33) (hH31.sub sR) <| AK 12 rfl rfl (bT h33) (hH31.sub sR) <| AK 13 rfl rfl (bT h33) (hH31.sub sR) <| AK 14 rfl rfl (bT h33) (hH31.sub sR) <| AK 15 rfl rfl (bT h33) (hH31.sub sR) <| AQ 16 rfl zh31 (run_pickT (bT h33) (v := B true) rfl) <| AD <| CW.condT rfl <| SR <| va (v := B false) rfl <| RL.nil <| CW.ret <| outP1 Tryz.results17 (congrArg B ?_) hH31.below
        exact (right_3 h0 ‹k < _› (ok_1a (by omega) (by omega))).symm
       ·refine AG 8 rfl rfl (bF h33) (hH31.sub sR) (fun w hS => run_ldA (cs := [B _, _]) underlying65 rfl rfl rfl (rangeAt_cells (hS.blk (i := 0) rfl))) <| AG 9 rfl rfl (bF h33) (hH31.sub sR) (fun w hS => fA underlying32 0 rfl sizeOf29 e3_11) <| AG 10 rfl rfl (bF h33) (hH31.sub sR) (fun w hS => run_ldV (ha.labels.sl.hp hS) underlying29 rfl rfl (hS.cell (i := 2) rfl rfl)) <| AG 11 rfl rfl (bF h33) (hH31.sub sR) (fun w hS => mV (I _) rfl) <| AG 12 rfl rfl (bF h33) (hH31.sub sR) (fun w hS => run_indexAddrS (ha.labels.sl.hp hS) underlying29 sizeOf39 rfl rfl (by omega)) <| AG 13 rfl rfl (bF h33) (hH31.sub sR) (fun w hS => run_ldElS (ha.labels.sl.hp hS) underlying39 rfl rfl rfl (by omega)) <| A1 14 <| AO.callP rfl (gsome rfl (bF h33)) rfl hH31 sR (c_shape_Fits _ _  _ ((hs.at (by omega) (by omega)).mono hH31.kw) (hT.hp hH31)) (run_call2 call38 rfl rfl) <| fun w34 hH35 => AG 15 rfl rfl (bF h33) (hH35.sub sR) (fun w hS => run_not rfl) <| AQ 16 rfl (hH35.sub sR) (run_pickF (bF h33) (v := B _) rfl) <| AD <| CW.cond rfl (fun h38 => ?_) (fun h38 => ?_)
        ·refine SR <| va (v := B false) rfl <| RL.nil <| CW.ret <| outP1 Tryz.results17 (congrArg B ?_) hH35.below
         exact (right_3 h0 ‹k < _› (ok_1b (by omega) (nt ‹(!fitsS _ _) = true›))).symm
        ·refine CW.skip <| CW.region <| V (run_add e27_11 rfl (by omega)) <| mI rfl <| RL.nil <| ?_
         refine ⟨k + 1, ?_, fr11.u4.u4.u4.u4.u4.u4.u4.u4.u4.u4.u4.u4, (hH35.sub (sQ (sQ sR))), (congrArg I (by rfl)), ?_, ?_, ?_⟩
         ·((try dsimp only); omega)
         ·omega
         ·omega
         ·exact fun i u v => if e : i = k then e ▸ (by exact ok_y1 ⟨by omega, by omega⟩ (by omega) (by omega) (nf ‹(!fitsS _ _) = false›)) else hg i u (by omega)
      ·refine SR <| V (run_eql rfl rfl) <| aB rfl <| RL.nil <| CW.condP rfl (fun h40 => ?_) (fun h40 => ?_)
       ·refine CW.seq <| CW.regionD (by kernel_rfl) hH27 <| fun w41 hH42 => have zh42 := hH42.sub sR; AQ 0 rfl zh42 (fA underlying32 0 rfl sizeOf29 e3_11) <| AT 1 rfl zh42 (fun w hS => run_ldV (ha.labels.sl.hp hS) underlying29 rfl rfl (hS.cell (i := 2) rfl rfl)) <| AQ 2 rfl zh42 (mV (I _) rfl) <| AT 3 rfl zh42 (fun w hS => run_indexAddrS (ha.labels.sl.hp hS) underlying29 sizeOf39 rfl rfl (by omega)) <| AT 4 rfl zh42 (fun w hS => run_ldElS (ha.labels.sl.hp hS) underlying39 rfl rfl rfl (by omega)) <| AQ 5 rfl zh42 (run_bld (vs := []) rfl (built_el0)) <| AQ 6 rfl zh42 (run_neqEl elT_fact rfl rfl) <| AQ 7 rfl zh42 (mV (B _) rfl) <| AN.split (dj := 80) rfl (fun h44 => ?_) (fun h44 => ?_)
        ·refine AK 8 rfl rfl (bR (c := true) h44) (hH42.sub sR) <| AK 9 rfl rfl (bR (c := true) h44) (hH42.sub sR) <| AK 10 rfl rfl (bR (c := true) h44) (hH42.sub sR) <| AK 11 rfl rfl (bR (c := true) h44) (hH42.sub sR) <| AK 12 rfl rfl (bR (c := true) h44) (hH42.sub sR) <| AK 13 rfl rfl (bR (c := true) h44) (hH42.sub sR) <| AK 14 rfl rfl (bR (c := true) h44) (hH42.sub sR) <| AQ 15 rfl zh42 (run_pickT (bR (c := true) h44) (v := B true) rfl) <| AQ 16 rfl zh42 (mV (B _) rfl) <| AK 17 rfl rfl rfl (hH42.sub sR) <| AK 18 rfl rfl rfl (hH42.sub sR) <| AK 19 rfl rfl rfl (hH42.sub sR) <| AK 20 rfl rfl rfl (hH42.sub sR) <| AK 21 rfl rfl rfl (hH42.sub sR) <| AK 22 rfl rfl rfl (hH42.sub sR) <| AK 23 rfl rfl rfl (hH42.sub sR) <| AK 24 rfl rfl rfl (hH42.sub sR) <| AQ 25 rfl zh42 (run_pickT rfl (v := B true) rfl) <| AD <| CW.condT rfl <| SR <| va (v := B false) rfl <| RL.nil <| CW.ret <| outP1 Tryz.results17 (congrArg B ?_) hH42.below
         exact (right_3 h0 ‹k < _› (ok_2a (by omega) (nt ‹(!decide (eqE _ _)) = true›))).symm
        ·refine AG 8 rfl rfl (bR (c := false) h44) (hH42.sub sR) (fun w hS => fA underlying32 1 rfl sizeOf30 e3_11) <| AG 9 rfl rfl (bR (c := false) h44) (hH42.sub sR) (fun w hS => run_ldV (ha.rows.sl.hp hS) underlying30 rfl rfl (hS.cell (i := 2) rfl rfl)) <| AG 10 rfl rfl (bR (c := false) h44) (hH42.sub sR) (fun w hS => mV (I _) rfl) <| AG 11 rfl rfl (bR (c := false) h44) (hH42.sub sR) (fun w hS => run_indexAddrS (ha.rows.sl.hp hS) underlying30 sizeOf54 rfl rfl (by omega)) <| AG 12 rfl rfl (bR (c := false) h44) (hH42.sub sR) (fun w hS => run_ld underlying54 rfl rfl ((ha.rows.sl.hp hS).cell _ _ (rowsC_at (by omega)))) <| A1 13 <| AO.callP rfl (gsome rfl (bR (c := false) h44)) rfl hH42 sR (c_assign_ordered _ _  _ ((ha.at (by omega) (by omega)).sl.hp hH42)) (run_call1 call39 rfl) <| fun w45 hH46 => AG 14 rfl rfl (bR (c := false) h44) (hH46.sub sR) (fun w hS => run_not rfl) <| have zh46 := hH46.sub sR; AQ 15 rfl zh46 (run_pickF (bR (c := false) h44) (v := B _) rfl) <| AQ 16 rfl zh46 (mV (B _) rfl) <| AN.split (dj := 89) rfl (fun h49 => ?_) (fun h49 => ?_)
         ·refine AK 17 rfl rfl (bR (c := true) h49) (hH46.sub sR) <| AK 18 rfl rfl (bR (c := true) h49) (hH46.sub sR) <| AK 19 rfl rfl (bR (c := true) h49) (hH46.sub sR) <| AK 20 rfl rfl (bR (c := true) h49) (hH46.sub sR) <| AK 21 rfl rfl (bR (c := true) h49) (hH46.sub sR) <| AK 22 rfl rfl (bR (c := true) h49) (hH46.sub sR) <| AK 23 rfl rfl (bR (c := true) h49) (hH46.sub sR) <| AK 24 rfl rfl (bR (c := true) h49) (hH46.sub sR) <| AQ 25 rfl zh46 (run_pickT (bR (c := true) h49) (v := B true) rfl) <| AD <| CW.condT rfl <| SR <| va (v := B false) rfl <| RL.nil <| CW.ret <| outP1 Tryz.results17 (congrArg B ?_) hH46.below
          exact (right_3 h0 ‹k < _› (ok_2b (by omega) (nt ‹(!orderedF _) = true›))).symm
         ·refine AG 17 rfl rfl (bR (c := false) h49) (hH46.sub sR) (fun w hS => run_ldA (cs := [B _, _]) underlying65 rfl rfl rfl (rangeAt_cells (hS.blk (i := 0) rfl))) <| AG 18 rfl rfl (bR (c := false) h49) (hH46.sub sR) (fun w hS => fA underlying32 1 rfl sizeOf30 e3_11) <| AG 19 rfl rfl (bR (c := false) h49) (hH46.sub sR) (fun w hS => run_ldV (ha.rows.sl.hp hS) underlying30 rfl rfl (hS.cell (i := 2) rfl rfl)) <| AG 20 rfl rfl (bR (c := false) h49) (hH46.sub sR) (fun w hS => mV (I _) rfl) <| AG 21 rfl rfl (bR (c := false) h49) (hH46.sub sR) (fun w hS => run_indexAddrS (ha.rows.sl.hp hS) underlying30 sizeOf54 rfl rfl (by omega)) <| AG 22 rfl rfl (bR (c := false) h49) (hH46.sub sR) (fun w hS => run_ld underlying54 rfl rfl ((ha.rows.sl.hp hS).cell _ _ (rowsC_at (by omega)))) <| A1 23 <| AO.callP rfl (gsome rfl (bR (c := false) h49)) rfl hH46 sR (c_assign_fits _ _ _  _ ((ha.at (by omega) (by omega)).sl.hp hH46) ((hs.at (by omega) (by omega)).mono hH46.kw) (hT.hp hH46)) (run_call2 call40 rfl rfl) <| fun w50 hH51 => AG 24 rfl rfl (bR (c := false) h49) (hH51.sub sR) (fun w hS => run_not rfl) <| AQ 25 rfl (hH51.sub sR) (run_pickF (bR (c := false) h49) (v := B _) rfl) <| AD <| CW.cond rfl (fun h54 => ?_) (fun h54 => ?_)
          ·refine SR <| va (v := B false) rfl <| RL.nil <| CW.ret <| outP1 Tryz.results17 (congrArg B ?_) hH51.below
           exact (right_3 h0 ‹k < _› (ok_2c (by omega) (nt ‹(!fitsF _ _) = true›))).symm
          ·refine CW.skip <| CW.region <| V (run_add e27_11 rfl (by omega)) <| mI rfl <| RL.nil <| ?_
           refine ⟨k + 1, ?_, fr11.u4.u4.u4.u4.u4.u4.u4.u4.u4.u4.u4.u4.u4.u4.u1.u1.u1, (hH51.sub (sQ (sQ sR))), (congrArg I (by rfl)), ?_, ?_, ?_⟩
           ·((try dsimp only); omega)
           ·omega
           ·omega
           ·exact fun i u v => if e : i = k then e ▸ (by exact ok_y2 ⟨by omega, by omega⟩ (by omega) (nf ‹(!decide (eqE _ _)) = false›) (nf ‹(!orderedF _) = false›) (nf ‹(!fitsF _ _) = false›)) else hg i u (by omega)
       ·refine SR <| va (v := B false) rfl <| RL.nil <| CW.ret <| outP1 Tryz.results17 (congrArg B ?_) hH27.below
        exact (right_3 h0 ‹k < _› (ok_x (by omega) (by omega))).symm
   ·refine CW.exit (id := 0) rfl <| SR <| va (v := B true) rfl <| RL.nil <| CW.ret <| outP1 Tryz.results17 (congrArg B ?_) hH11.below
    exact (right_y e1 e2 ‹¬ k < _› hg).symm
set_option maxHeartbeats 2000000 in
theorem c_clearanceref18_Right (s : Scp) (a : Asg) (w : World) (hs : ScpV (Kw w) s) (ha : AsgV (Kw w) a) : Calls Tryz.prog 31 #[.agg (scpC s), .agg (asgL a).toArray] w (Pure (B (rightA s.sc a.as)) w) := by
 have hm1 := hs.lats.sl.small
 have hm2 := hs.vars.sl.small
 unfold maxLen at hm1 hm2
 have hm3 := ha.labels.small
 have hm4 := ha.rows.small
 unfold maxLen at hm3 hm4
 refine enter Tryz.func31 rfl Tryz.ntmps31 rfl <| have hH := Hp.start w; SR <| RL.new rfl hH (f := fun b => (.pointer (some ⟨b, 0, none⟩))) (run_box (v := .agg _) rfl) <| fun b3 w1 hH2 => RL.new rfl hH2 (f := fun b => (.pointer (some ⟨b, 0, none⟩))) (run_box (v := .agg _) rfl) <| fun b6 w4 hH5 => va (v := B false) rfl <| RL.nil <| CW.seq <| SR <| V (fA underlying32 0 rfl sizeOf29 rfl) <| V (run_ldV (ha.labels.sl.hp hH5) underlying29 rfl rfl (hH5.cell (i := 0) rfl rfl)) <| V (run_lenSl (ha.labels.sl.hp hH5) rfl underlying29 rfl) <| V (fA underlying25 1 rfl sizeOf23 rfl) <| V (run_ldV (hs.vars.sl.hp hH5) underlying23 rfl rfl (hH5.cell (i := 1) rfl rfl)) <| V (run_lenSl (hs.vars.sl.hp hH5) rfl underlying23 rfl) <| V (run_neq rfl rfl) <| mB rfl <| RL.splitP (dj := 16) rfl (fun h8 => ?_) (fun h8 => ?_)
 ·refine gF rfl (bT h8) <| gF rfl (bT h8) <| gF rfl (bT h8) <| gF rfl (bT h8) <| gF rfl (bT h8) <| gF rfl (bT h8) <| gF rfl (bT h8) <| V (run_pickT (bT h8) (v := B true) rfl) <| RL.nil <| CW.condT rfl <| SR <| va (v := B false) rfl <| RL.nil <| CW.ret <| outP1 Tryz.results31 (congrArg B ?_) hH5.below
  exact (right_1 (by omega)).symm
 ·refine gT rfl (bF h8) <| V (fA underlying32 1 rfl sizeOf30 rfl) <| gT rfl (bF h8) <| V (run_ldV (ha.rows.sl.hp hH5) underlying30 rfl rfl (hH5.cell (i := 0) rfl rfl)) <| gT rfl (bF h8) <| V (run_lenSl (ha.rows.sl.hp hH5) rfl underlying30 rfl) <| gT rfl (bF h8) <| V (fA underlying25 1 rfl sizeOf23 rfl) <| gT rfl (bF h8) <| V (run_ldV (hs.vars.sl.hp hH5) underlying23 rfl rfl (hH5.cell (i := 1) rfl rfl)) <| gT rfl (bF h8) <| V (run_lenSl (hs.vars.sl.hp hH5) rfl underlying23 rfl) <| gT rfl (bF h8) <| V (run_neq rfl rfl) <| V (run_pickF (bF h8) (v := B _) rfl) <| RL.nil <| CW.condP rfl (fun h10 => ?_) (fun h10 => ?_)
  ·refine SR <| va (v := B false) rfl <| RL.nil <| CW.ret <| outP1 Tryz.results31 (congrArg B ?_) hH5.below
   exact (right_2 (by omega)).symm
  ·refine CW.skip <| CW.seq <| SR <| va (v := I 0) rfl <| RL.nil <| CW.block <| have e1 : (a.labels.length : Int) = s.vars.length := (by omega); have e2 : (a.rows.length : Int) = s.vars.length := (by omega); CW.loop (G := Int) (fun k s' w' => (Fr (rg 4 5 (rg 25 105 [])) _ s') ∧ (Hp w w' _) ∧ (s' 5 = I k) ∧ (0 ≤ k) ∧ (k ≤ s.vars.length) ∧ (∀ i : Int, 0 ≤ i → i < k → okG s a i = true)) (fun k => (s.vars.length - k).toNat) (0) ⟨Fr.refl _ _, hH5, rfl, (by omega), (by omega), fun j a b => absurd b (by omega)⟩ <| ?_
   rintro k sg11 w11 ⟨fr11, hH11, e5_11, h0, hk, hg⟩
   have e2_11 := fr11.pp 2 rfl rfl
   have e3_11 := fr11.pp 3 rfl rfl
   refine CW.seq <| SR <| vm e5_11 <| V (fA underlying25 1 rfl sizeOf23 e2_11) <| V (run_ldV (hs.vars.sl.hp hH11) underlying23 rfl rfl (hH11.cell (i := 1) rfl rfl)) <| V (run_lenSl (hs.vars.sl.hp hH11) rfl underlying23 rfl) <| V (run_lss rfl rfl) <| RL.nil <| CW.condP rfl (fun h13 => ?_) (fun h13 => ?_)
   ·refine CW.skip <| CW.seq <| CW.block <| SR <| V (fA underlying25 1 rfl sizeOf23 e2_11) <| V (run_ldV (hs.vars.sl.hp hH11) underlying23 rfl rfl (hH11.cell (i := 1) rfl rfl)) <| vm e5_11 <| V (run_indexAddrS (hs.vars.sl.hp hH11) underlying23 sizeOf69 rfl rfl (by omega)) <| V (run_ldE (dv := var0) varL_len (hs.vars.sl.hp hH11) underlying69 rfl rfl rfl (by omega)) <| RL.new rfl hH11 (f := fun b => (.pointer (some ⟨b, 0, none⟩))) (run_alloc Tryz.zeroValue69) <| fun b16 w14 hH15 => RL.set hH15 (i := 0) rfl (run_stW (c' := (varL _).toArray) rfl rfl rfl (by simp [varL, Value.oneCell']) (hH15.blk (i := 0) rfl) rfl) <| fun w17 hH18 => ?_
    simp only [z2] at hH18
    refine RL.nil <| CW.seq <| SR <| V (fA underlying69 2 rfl sizeOf3 rfl) <| V (run_ld underlying3 rfl rfl (hH18.cell (i := 0) rfl (v := I _) rfl)) <| V (run_lss rfl rfl) <| mB rfl <| RL.splitP (dj := 40) rfl (fun h20 => ?_) (fun h20 => ?_)
    ·refine gF rfl (bT h20) <| gF rfl (bT h20) <| gF rfl (bT h20) <| gF rfl (bT h20) <| gF rfl (bT h20) <| gF rfl (bT h20) <| V (run_pickT (bT h20) (v := B true) rfl) <| mB rfl <| gF rfl rfl <| gF rfl rfl <| gF rfl rfl <| gF rfl rfl <| RL.gU rfl rfl rfl <| RL.gU rfl rfl rfl <| RL.gU rfl rfl rfl <| gF rfl rfl <| V (run_pickT rfl (v := B true) rfl) <| RL.nil <| CW.condT rfl <| SR <| va (v := B false) rfl <| RL.nil <| CW.ret <| outP1 Tryz.results31 (congrArg B ?_) hH18.below
     exact (right_3 h0 ‹k < _› (ok_n0 (by omega))).symm
    ·refine gT rfl (bF h20) <| V (fA underlying69 2 rfl sizeOf3 rfl) <| gT rfl (bF h20) <| V (run_ld underlying3 rfl rfl (hH18.cell (i := 0) rfl (v := I _) rfl)) <| gT rfl (bF h20) <| V (fA underlying25 0 rfl sizeOf22 e2_11) <| gT rfl (bF h20) <| V (run_ldV (hs.lats.sl.hp hH18) underlying22 rfl rfl (hH18.cell (i := 2) rfl rfl)) <| gT rfl (bF h20) <| V (run_lenSl (hs.lats.sl.hp hH18) rfl underlying22 rfl) <| gT rfl (bF h20) <| V (run_geq rfl rfl) <| V (run_pickF (bF h20) (v := B _) rfl) <| mB rfl <| RL.splitP (dj := 48) rfl (fun h22 => ?_) (fun h22 => ?_)
     ·refine gF rfl (bT h22) <| gF rfl (bT h22) <| gF rfl (bT h22) <| gF rfl (bT h22) <| RL.gU rfl rfl rfl <| RL.gU rfl rfl rfl <| RL.gU rfl rfl rfl <| gF rfl (bT h22) <| V (run_pickT (bT h22) (v := B true) rfl) <| RL.nil <| CW.condT rfl <| SR <| va (v := B false) rfl <| RL.nil <| CW.ret <| outP1 Tryz.results31 (congrArg B ?_) hH18.below
      exact (right_3 h0 ‹k < _› (ok_n0 (by omega))).symm
     ·refine gT rfl (bF h22) <| V (fA underlying69 1 rfl sizeOf3 rfl) <| gT rfl (bF h22) <| V (run_ld underlying3 rfl rfl (hH18.cell (i := 0) rfl (v := I _) rfl)) <| gT rfl (bF h22) <| V (run_neq rfl rfl) <| gT rfl (bF h22) <| mB rfl <| RL.splitP (dj := 52) rfl (fun h24 => ?_) (fun h24 => ?_)
      ·refine gT rfl (bT h24) <| V (fA underlying69 1 rfl sizeOf3 rfl) <| gT rfl (bT h24) <| V (run_ld underlying3 rfl rfl (hH18.cell (i := 0) rfl (v := I _) rfl)) <| gT rfl (bT h24) <| V (run_neq rfl rfl) <| gT rfl (bF h22) <| V (run_pickT (bT h24) (v := B _) rfl) <| V (run_pickF (bF h22) (v := B _) rfl) <| RL.nil <| CW.condP rfl (fun h26 => ?_) (fun h26 => ?_)
       ·refine SR <| va (v := B false) rfl <| RL.nil <| CW.ret <| outP1 Tryz.results31 (congrArg B ?_) hH18.below
        exact (right_3 h0 ‹k < _› (ok_x (by omega) (by omega))).symm
       ·refine CW.skip <| SR <| V (fA underlying25 0 rfl sizeOf22 e2_11) <| V (run_ldV (hs.lats.sl.hp hH18) underlying22 rfl rfl (hH18.cell (i := 2) rfl rfl)) <| V (fA underlying69 2 rfl sizeOf3 rfl) <| V (run_ld underlying3 rfl rfl (hH18.cell (i := 0) rfl (v := I _) rfl)) <| V (run_indexAddrS (hs.lats.sl.hp hH18) underlying22 sizeOf67 rfl rfl (by omega)) <| V (fA underlying67 1 rfl sizeOf65 rfl) <| V (run_ldEA (dv := lat0) (off := 1) (cs := shpL _) latL_len (hs.lats.sl.hp hH18) underlying65 rfl rfl rfl (by omega) (lat_shp _)) <| RL.new rfl hH18 (f := fun b => (.pointer (some ⟨b, 0, none⟩))) (run_alloc Tryz.zeroValue65) <| fun b29 w27 hH28 => RL.set hH28 (i := 0) rfl (run_stShp (hs.at (by omega) (by omega)) rfl rfl rfl (hH28.blk (i := 0) rfl) rfl) <| fun w30 hH31 => ?_
        simp only [z2] at hH31
        refine RL.nil <| CW.seq <| CW.seq <| CW.regionD (by kernel_rfl) hH31 <| fun w32 hH33 => have zh33 := hH33.sub sR; AQ 0 rfl zh33 (fA underlying69 1 rfl sizeOf3 rfl) <| AT 1 rfl zh33 (fun w hS => run_ld underlying3 rfl rfl (hS.cell (i := 1) rfl (v := I _) rfl)) <| AQ 2 rfl zh33 (run_eql rfl rfl) <| AQ 3 rfl zh33 (mV (B _) rfl) <| AN.splitP (dj := 68) rfl (fun h35 => ?_) (fun h35 => ?_)
        ·refine AG 4 rfl rfl (bT h35) (hH33.sub sR) (fun w hS => run_ldA (cs := [B _, _]) underlying65 rfl rfl rfl (rangeAt_cells (hS.blk (i := 0) rfl))) <| AG 5 rfl rfl (bT h35) (hH33.sub sR) (fun w hS => fA underlying32 0 rfl sizeOf29 e3_11) <| AG 6 rfl rfl (bT h35) (hH33.sub sR) (fun w hS => run_ldV (ha.labels.sl.hp hS) underlying29 rfl rfl (hS.cell (i := 2) rfl rfl)) <| AG 7 rfl rfl (bT h35) (hH33.sub sR) (fun w hS => run_move e5_11) <| AG 8 rfl rfl (bT h35) (hH33.sub sR) (fun w hS => run_indexAddrS (ha.labels.sl.hp hS) underlying29 sizeOf39 rfl rfl (by omega)) <| AG 9 rfl rfl (bT h35) (hH33.sub sR) (fun w hS => run_ldElS (ha.labels.sl.hp hS) underlying39 rfl rfl rfl (by omega)) <| A1 10 <| AO.callP rfl (gsome rfl (bT h35)) rfl hH33 sR (c_clearanceref07_Fits _ _  _ ((hs.at (by omega) (by omega)).mono hH33.kw)) (run_call2 call52 rfl rfl) <| fun w36 hH37 => AG 11 rfl rfl (bT h35) (hH37.sub sR) (fun w hS => run_not rfl) <| AG 12 rfl rfl (bT h35) (hH37.sub sR) (fun w hS => mV (B _) rfl) <| AN.split (dj := 77) rfl (fun h40 => ?_) (fun h40 => ?_)
         ·refine AK 13 rfl rfl (bR (c := true) h40) (hH37.sub sR) <| AK 14 rfl rfl (bR (c := true) h40) (hH37.sub sR) <| AK 15 rfl rfl (bR (c := true) h40) (hH37.sub sR) <| AK 16 rfl rfl (bR (c := true) h40) (hH37.sub sR) <| AK 17 rfl rfl (bR (c := true) h40) (hH37.sub sR) <| AK 18 rfl rfl (bR (c := true) h40) (hH37.sub sR) <| AK 19 rfl rfl (bR (c := true) h40) (hH37.sub sR) <| AG 20 rfl rfl (bT h35) (hH37.sub sR) (fun w hS => run_pickT (bR (c := true) h40) (v := B true) rfl) <| have zh37 := hH37.sub sR; AQ 21 rfl zh37 (run_pickT (bT h35) (v := B _) rfl) <| AD <| CW.condT rfl <| SR <| va (v := B false) rfl <| RL.nil <| CW.ret <| outP1 Tryz.results31 (congrArg B ?_) hH37.below
          (exfalso; omega)
         ·refine AG 13 rfl rfl (bR (c := false) h40) (hH37.sub sR) (fun w hS => fA underlying32 1 rfl sizeOf30 e3_11) <| AG 14 rfl rfl (bR (c := false) h40) (hH37.sub sR) (fun w hS => run_ldV (ha.rows.sl.hp hS) underlying30 rfl rfl (hS.cell (i := 2) rfl rfl)) <| AG 15 rfl rfl (bR (c := false) h40) (hH37.sub sR) (fun w hS => run_move e5_11) <| AG 16 rfl rfl (bR (c := false) h40) (hH37.sub sR) (fun w hS => run_indexAddrS (ha.rows.sl.hp hS) underlying30 sizeOf54 rfl rfl (by omega)) <| AG 17 rfl rfl (bR (c := false) h40) (hH37.sub sR) (fun w hS => run_ld underlying54 rfl rfl ((ha.rows.sl.hp hS).cell _ _ (rowsC_at (by omega)))) <| AG 18 rfl rfl (bR (c := false) h40) (hH37.sub sR) (fun w hS => run_lenSl ((ha.at (by omega) (by omega)).sl.hp hS) rfl underlying54 rfl) <| AG 19 rfl rfl (bR (c := false) h40) (hH37.sub sR) (fun w hS => run_gtr rfl rfl) <| AG 20 rfl rfl (bT h35) (hH37.sub sR) (fun w hS => run_pickF (bR (c := false) h40) (v := B _) rfl) <| have zh37b := hH37.sub sR; AQ 21 rfl zh37b (run_pickT (bT h35) (v := B _) rfl) <| AD <| CW.condP rfl (fun h42 => ?_) (fun h42 => ?_)
          ·refine SR <| va (v := B false) rfl <| RL.nil <| CW.ret <| outP1 Tryz.results31 (congrArg B ?_) hH37.below
           (exfalso; omega)
          ·refine CW.skip <| CW.seq <| SR <| V (fA underlying69 1 rfl sizeOf3 rfl) <| V (run_ld underlying3 rfl rfl (hH37.cell (i := 1) rfl (v := I _) rfl)) <| V (run_eql rfl rfl) <| mB rfl <| RL.splitP (dj := 90) rfl (fun h44 => ?_) (fun h44 => ?_)
           ·refine gT rfl (bT h44) <| V (fA underlying32 0 rfl sizeOf29 e3_11) <| gT rfl (bT h44) <| V (run_ldV (ha.labels.sl.hp hH37) underlying29 rfl rfl (hH37.cell (i := 2) rfl rfl)) <| gT rfl (bT h44) <| vm e5_11 <| gT rfl (bT h44) <| V (run_indexAddrS (ha.labels.sl.hp hH37) underlying29 sizeOf39 rfl rfl (by omega)) <| gT rfl (bT h44) <| V (run_ldElS (ha.labels.sl.hp hH37) underlying39 rfl rfl rfl (by omega)) <| gT rfl (bT h44) <| V (run_bld (vs := []) rfl (built_el0)) <| gT rfl (bT h44) <| V (run_neqEl elT_fact rfl rfl) <| gT rfl (bT h44) <| mB rfl <| RL.split (dj := 98) rfl (fun h46 => ?_) (fun h46 => ?_)
            ·refine gF rfl (bR (c := true) h46) <| gF rfl (bR (c := true) h46) <| gF rfl (bR (c := true) h46) <| gF rfl (bR (c := true) h46) <| gF rfl (bR (c := true) h46) <| gF rfl (bR (c := true) h46) <| gF rfl (bR (c := true) h46) <| gT rfl (bT h44) <| V (run_pickT (bR (c := true) h46) (v := B true) rfl) <| V (run_pickT (bT h44) (v := B _) rfl) <| RL.nil <| CW.condT rfl <| SR <| va (v := B false) rfl <| RL.nil <| CW.ret <| outP1 Tryz.results31 (congrArg B ?_) hH37.below
             (exfalso; omega)
            ·refine gT rfl (bR (c := false) h46) <| V (fA underlying32 1 rfl sizeOf30 e3_11) <| gT rfl (bR (c := false) h46) <| V (run_ldV (ha.rows.sl.hp hH37) underlying30 rfl rfl (hH37.cell (i := 2) rfl rfl)) <| gT rfl (bR (c := false) h46) <| vm e5_11 <| gT rfl (bR (c := false) h46) <| V (run_indexAddrS (ha.rows.sl.hp hH37) underlying30 sizeOf54 rfl rfl (by omega)) <| gT rfl (bR (c := false) h46) <| V (run_ld underlying54 rfl rfl ((ha.rows.sl.hp hH37).cell _ _ (rowsC_at (by omega)))) <| gT rfl (bR (c := false) h46) <| RL.callP rfl hH37 (c_clearanceref18_ordered _ _  _ ((ha.at (by omega) (by omega)).sl.hp hH37)) (run_call1 call53 rfl) <| fun w47 hH48 => gT rfl (bR (c := false) h46) <| V (run_not rfl) <| gT rfl (bT h44) <| V (run_pickF (bR (c := false) h46) (v := B _) rfl) <| V (run_pickT (bT h44) (v := B _) rfl) <| RL.nil <| CW.cond rfl (fun h51 => ?_) (fun h51 => ?_)
             ·refine SR <| va (v := B false) rfl <| RL.nil <| CW.ret <| outP1 Tryz.results31 (congrArg B ?_) hH48.below
              (exfalso; omega)
             ·refine CW.skip <| SR <| va (v := I 0) rfl <| RL.nil <| CW.block <| have hm5 := (ha.at h0 (by omega)).small; ?_
              unfold maxLen at hm5
              refine CW.loop (G := Int) (fun q s' w' => (Fr (4 :: (8 :: (rg 108 22 []))) _ s') ∧ (Hp w w' _) ∧ (s' 8 = I q) ∧ (0 ≤ q) ∧ (q ≤ (a.rows.getD k.toNat vr0).l.length) ∧ (∀ i : Int, 0 ≤ i → i < q → fitsS (shG s (s.vars.getD k.toNat var0)) ((a.rows.getD k.toNat vr0).l.getD i.toNat val0).el = true)) (fun q => ((a.rows.getD k.toNat vr0).l.length - q).toNat) (0) ⟨Fr.refl _ _, hH48, rfl, (by omega), (by omega), fun j a b => absurd b (by omega)⟩ ?_
              rintro q sg52 w52 ⟨fr52, hH52, e8_52, q0, qk, hq⟩
              have e3_52 := (fr52 3 rfl).trans e3_11
              have e5_52 := (fr52 5 rfl).trans e5_11
              have e7_52 := fr52.pp 7 rfl rfl
              refine CW.seq <| SR <| vm e8_52 <| V (fA underlying32 1 rfl sizeOf30 e3_52) <| V (run_ldV (ha.rows.sl.hp hH52) underlying30 rfl rfl (hH52.cell (i := 2) rfl rfl)) <| vm e5_52 <| V (run_indexAddrS (ha.rows.sl.hp hH52) underlying30 sizeOf54 rfl rfl (by omega)) <| V (run_ld underlying54 rfl rfl ((ha.rows.sl.hp hH52).cell _ _ (rowsC_at (by omega)))) <| V (run_lenSl ((ha.at (by omega) (by omega)).sl.hp hH52) rfl underlying54 rfl) <| V (run_lss rfl rfl) <| RL.nil <| CW.condP rfl (fun h54 => ?_) (fun h54 => ?_)
              ·refine CW.skip <| CW.seq <| CW.block <| CW.seq <| CW.regionD (by kernel_rfl) hH52 <| fun w55 hH56 => have zh56 := hH56.sub sR; AT 0 rfl zh56 (fun w hS => run_ldA (cs := [B _, _]) underlying65 rfl rfl e7_52 (rangeAt_cells (hS.blk (i := 0) rfl))) <| AQ 1 rfl zh56 (fA underlying32 1 rfl sizeOf30 e3_52) <| AT 2 rfl zh56 (fun w hS => run_ldV (ha.rows.sl.hp hS) underlying30 rfl rfl (hS.cell (i := 2) rfl rfl)) <| AQ 3 rfl zh56 (run_move e5_52) <| AT 4 rfl zh56 (fun w hS => run_indexAddrS (ha.rows.sl.hp hS) underlying30 sizeOf54 rfl rfl (by omega)) <| AT 5 rfl zh56 (fun w hS => run_ld underlying54 rfl rfl ((ha.rows.sl.hp hS).cell _ _ (rowsC_at (by omega)))) <| AQ 6 rfl zh56 (run_move e8_52) <| AT 7 rfl zh56 (fun w hS => run_indexAddrS ((ha.at (by omega) (by omega)).sl.hp hS) underlying54 sizeOf56 rfl rfl (by omega)) <| AQ 8 rfl zh56 (fA underlying56 1 rfl sizeOf39 rfl) <| AT 9 rfl zh56 (fun w hS => run_ldVE ((ha.at (by omega) (by omega)).sl.hp hS) underlying39 rfl rfl rfl (by omega)) <| A1 10 <| AO.callP rfl gnone rfl hH56 sR (c_clearanceref07_Fits _ _  _ ((hs.at (by omega) (by omega)).mono hH56.kw)) (run_call2 call52 rfl rfl) <| fun w57 hH58 => AQ 11 rfl (hH58.sub sR) (run_not rfl) <| AD <| CW.cond rfl (fun h61 => ?_) (fun h61 => ?_)
               ·refine SR <| va (v := B false) rfl <| RL.nil <| CW.ret <| outP1 Tryz.results31 (congrArg B ?_) hH58.below
                (exfalso; omega)
               ·refine CW.skip <| CW.region <| vm e8_52 <| V (run_add rfl rfl (by omega)) <| aI rfl <| RL.nil <| ?_
                refine ⟨q + 1, ?_, fr52.u4.u4.u4.u4.u4.u1.u1.u1, hH58, (congrArg I (by rfl)), ?_, ?_, ?_⟩
                ·((try dsimp only); omega)
                ·omega
                ·omega
                ·exact fun i u v => if e : i = q then e ▸ nf ‹(!fitsS _ (ValR.el _)) = false› else hq i u (by omega)
              ·refine CW.exit (id := 2) rfl <| CW.region <| vm e5_52 <| V (run_add rfl rfl (by omega)) <| aI rfl <| RL.nil <| ?_
               refine ⟨k + 1, ?_, (((fr11.u4.u4.u4.u4.u4.u4.u4.u4.u4.u4.u4.u4.u4.u4.u4.u4.u4.u4.u4.u4.u4).t fr52 rfl)).u4.u4.u1.u1.u1, (hH52.sub (sQ (sQ sR))), (congrArg I (by rfl)), ?_, ?_, ?_⟩
               ·((try dsimp only); omega)
               ·omega
               ·omega
               ·exact fun i u v => if e : i = k then e ▸ (by exfalso; omega) else hg i u (by omega)
           ·refine gF rfl (bF h44) <| gF rfl (bF h44) <| gF rfl (bF h44) <| gF rfl (bF h44) <| gF rfl (bF h44) <| gF rfl (bF h44) <| gF rfl (bF h44) <| gF rfl (bF h44) <| RL.gU rfl rfl rfl <| RL.gU rfl rfl rfl <| RL.gU rfl rfl rfl <| RL.gU rfl rfl rfl <| RL.gU rfl rfl rfl <| RL.gU rfl rfl rfl <| RL.gU rfl rfl rfl <| gF rfl (bF h44) <| V (run_pickF (bF h44) (v := B false) rfl) <| RL.nil <| CW.condF rfl <| CW.skip <| SR <| va (v := I 0) rfl <| RL.nil <| CW.block <| have hm5 := (ha.at h0 (by omega)).small; ?_
            unfold maxLen at hm5
            refine CW.loop (G := Int) (fun q s' w' => (Fr (4 :: (8 :: (rg 108 22 []))) _ s') ∧ (Hp w w' _) ∧ (s' 8 = I q) ∧ (0 ≤ q) ∧ (q ≤ (a.rows.getD k.toNat vr0).l.length) ∧ (∀ i : Int, 0 ≤ i → i < q → fitsS (shG s (s.vars.getD k.toNat var0)) ((a.rows.getD k.toNat vr0).l.getD i.toNat val0).el = true)) (fun q => ((a.rows.getD k.toNat vr0).l.length - q).toNat) (0) ⟨Fr.refl _ _, hH37, rfl, (by omega), (by omega), fun j a b => absurd b (by omega)⟩ ?_
            rintro q sg62 w62 ⟨fr62, hH62, e8_62, q0, qk, hq⟩
            have e3_62 := (fr62 3 rfl).trans e3_11
            have e5_62 := (fr62 5 rfl).trans e5_11
            have e7_62 := fr62.pp 7 rfl rfl
            refine CW.seq <| SR <| vm e8_62 <| V (fA underlying32 1 rfl sizeOf30 e3_62) <| V (run_ldV (ha.rows.sl.hp hH62) underlying30 rfl rfl (hH62.cell (i := 2) rfl rfl)) <| vm e5_62 <| V (run_indexAddrS (ha.rows.sl.hp hH62) underlying30 sizeOf54 rfl rfl (by omega)) <| V (run_ld underlying54 rfl rfl ((ha.rows.sl.hp hH62).cell _ _ (rowsC_at (by omega)))) <| V (run_lenSl ((ha.at (by omega) (by omega)).sl.hp hH62) rfl underlying54 rfl) <| V (run_lss rfl rfl) <| RL.nil <| CW.condP rfl (fun h64 => ?_) (fun h64 => ?_)
            ·refine CW.skip <| CW.seq <| CW.block <| CW.seq <| CW.regionD (by kernel_rfl) hH62 <| fun w65 hH66 => have zh66 := hH66.sub sR; AT 0 rfl zh66 (fun w hS => run_ldA (cs := [B _, _]) underlying65 rfl rfl e7_62 (rangeAt_cells (hS.blk (i := 0) rfl))) <| AQ 1 rfl zh66 (fA underlying32 1 rfl sizeOf30 e3_62) <| AT 2 rfl zh66 (fun w hS => run_ldV (ha.rows.sl.hp hS) underlying30 rfl rfl (hS.cell (i := 2) rfl rfl)) <| AQ 3 rfl zh66 (run_move e5_62) <| AT 4 rfl zh66 (fun w hS => run_indexAddrS (ha.rows.sl.hp hS) underlying30 sizeOf54 rfl rfl (by omega)) <| AT 5 rfl zh66 (fun w hS => run_ld underlying54 rfl rfl ((ha.rows.sl.hp hS).cell _ _ (rowsC_at (by omega)))) <| AQ 6 rfl zh66 (run_move e8_62) <| AT 7 rfl zh66 (fun w hS => run_indexAddrS ((ha.at (by omega) (by omega)).sl.hp hS) underlying54 sizeOf56 rfl rfl (by omega)) <| AQ 8 rfl zh66 (fA underlying56 1 rfl sizeOf39 rfl) <| AT 9 rfl zh66 (fun w hS => run_ldVE ((ha.at (by omega) (by omega)).sl.hp hS) underlying39 rfl rfl rfl (by omega)) <| A1 10 <| AO.callP rfl gnone rfl hH66 sR (c_clearanceref07_Fits _ _  _ ((hs.at (by omega) (by omega)).mono hH66.kw)) (run_call2 call52 rfl rfl) <| fun w67 hH68 => AQ 11 rfl (hH68.sub sR) (run_not rfl) <| AD <| CW.cond rfl (fun h71 => ?_) (fun h71 => ?_)
             ·refine SR <| va (v := B false) rfl <| RL.nil <| CW.ret <| outP1 Tryz.results31 (congrArg B ?_) hH68.below
              (exfalso; omega)
             ·refine CW.skip <| CW.region <| vm e8_62 <| V (run_add rfl rfl (by omega)) <| aI rfl <| RL.nil <| ?_
              refine ⟨q + 1, ?_, fr62.u4.u4.u4.u4.u4.u1.u1.u1, hH68, (congrArg I (by rfl)), ?_, ?_, ?_⟩
              ·((try dsimp only); omega)
              ·omega
              ·omega
              ·exact fun i u v => if e : i = q then e ▸ nf ‹(!fitsS _ (ValR.el _)) = false› else hq i u (by omega)
            ·refine CW.exit (id := 2) rfl <| CW.region <| vm e5_62 <| V (run_add rfl rfl (by omega)) <| aI rfl <| RL.nil <| ?_
             refine ⟨k + 1, ?_, (((fr11.u4.u4.u4.u4.u4.u4.u4.u4.u4.u4.u4.u4.u4.u4.u4.u4.u4.u4.u4.u4.u4).t fr62 rfl)).u4.u4.u1.u1.u1, (hH62.sub (sQ (sQ sR))), (congrArg I (by rfl)), ?_, ?_, ?_⟩
             ·((try dsimp only); omega)
             ·omega
             ·omega
             ·exact fun i u v => if e : i = k then e ▸ (by exfalso; omega) else hg i u (by omega)
        ·refine AK 4 rfl rfl (bF h35) (hH33.sub sR) <| AK 5 rfl rfl (bF h35) (hH33.sub sR) <| AK 6 rfl rfl (bF h35) (hH33.sub sR) <| AK 7 rfl rfl (bF h35) (hH33.sub sR) <| AK 8 rfl rfl (bF h35) (hH33.sub sR) <| AK 9 rfl rfl (bF h35) (hH33.sub sR) <| AK 10 rfl rfl (bF h35) (hH33.sub sR) <| AK 11 rfl rfl (bF h35) (hH33.sub sR) <| AK 12 rfl rfl (bF h35) (hH33.sub sR) <| AU 13 rfl rfl rfl (hH33.sub sR) <| AU 14 rfl rfl rfl (hH33.sub sR) <| AU 15 rfl rfl rfl (hH33.sub sR) <| AU 16 rfl rfl rfl (hH33.sub sR) <| AU 17 rfl rfl rfl (hH33.sub sR) <| AU 18 rfl rfl rfl (hH33.sub sR) <| AU 19 rfl rfl rfl (hH33.sub sR) <| AK 20 rfl rfl (bF h35) (hH33.sub sR) <| AQ 21 rfl zh33 (run_pickF (bF h35) (v := B false) rfl) <| AD <| CW.condF rfl <| CW.skip <| CW.seq <| SR <| V (fA underlying69 1 rfl sizeOf3 rfl) <| V (run_ld underlying3 rfl rfl (hH33.cell (i := 1) rfl (v := I _) rfl)) <| V (run_eql rfl rfl) <| mB rfl <| RL.splitP (dj := 90) rfl (fun h73 => ?_) (fun h73 => ?_)
         ·refine gT rfl (bT h73) <| V (fA underlying32 0 rfl sizeOf29 e3_11) <| gT rfl (bT h73) <| V (run_ldV (ha.labels.sl.hp hH33) underlying29 rfl rfl (hH33.cell (i := 2) rfl rfl)) <| gT rfl (bT h73) <| vm e5_11 <| gT rfl (bT h73) <| V (run_indexAddrS (ha.labels.sl.hp hH33) underlying29 sizeOf39 rfl rfl (by omega)) <| gT rfl (bT h73) <| V (run_ldElS (ha.labels.sl.hp hH33) underlying39 rfl rfl rfl (by omega)) <| gT rfl (bT h73) <| V (run_bld (vs := []) rfl (built_el0)) <| gT rfl (bT h73) <| V (run_neqEl elT_fact rfl rfl) <| gT rfl (bT h73) <| mB rfl <| RL.split (dj := 98) rfl (fun h75 => ?_) (fun h75 => ?_)
          ·refine gF rfl (bR (c := true) h75) <| gF rfl (bR (c := true) h75) <| gF rfl (bR (c := true) h75) <| gF rfl (bR (c := true) h75) <| gF rfl (bR (c := true) h75) <| gF rfl (bR (c := true) h75) <| gF rfl (bR (c := true) h75) <| gT rfl (bT h73) <| V (run_pickT (bR (c := true) h75) (v := B true) rfl) <| V (run_pickT (bT h73) (v := B _) rfl) <| RL.nil <| CW.condT rfl <| SR <| va (v := B false) rfl <| RL.nil <| CW.ret <| outP1 Tryz.results31 (congrArg B ?_) hH33.below
           exact (right_3 h0 ‹k < _› (ok_2a (by omega) (nt ‹(!decide (eqE _ _)) = true›))).symm
          ·refine gT rfl (bR (c := false) h75) <| V (fA underlying32 1 rfl sizeOf30 e3_11) <| gT rfl (bR (c := false) h75) <| V (run_ldV (ha.rows.sl.hp hH33) underlying30 rfl rfl (hH33.cell (i := 2) rfl rfl)) <| gT rfl (bR (c := false) h75) <| vm e5_11 <| gT rfl (bR (c := false) h75) <| V (run_indexAddrS (ha.rows.sl.hp hH33) underlying30 sizeOf54 rfl rfl (by omega)) <| gT rfl (bR (c := false) h75) <| V (run_ld underlying54 rfl rfl ((ha.rows.sl.hp hH33).cell _ _ (rowsC_at (by omega)))) <| gT rfl (bR (c := false) h75) <| RL.callP rfl hH33 (c_clearanceref18_ordered _ _  _ ((ha.at (by omega) (by omega)).sl.hp hH33)) (run_call1 call53 rfl) <| fun w76 hH77 => gT rfl (bR (c := false) h75) <| V (run_not rfl) <| gT rfl (bT h73) <| V (run_pickF (bR (c := false) h75) (v := B _) rfl) <| V (run_pickT (bT h73) (v := B _) rfl) <| RL.nil <| CW.cond rfl (fun h80 => ?_) (fun h80 => ?_)
           ·refine SR <| va (v := B false) rfl <| RL.nil <| CW.ret <| outP1 Tryz.results31 (congrArg B ?_) hH77.below
            exact (right_3 h0 ‹k < _› (ok_2b (by omega) (nt ‹(!orderedF _) = true›))).symm
           ·refine CW.skip <| SR <| va (v := I 0) rfl <| RL.nil <| CW.block <| have hm5 := (ha.at h0 (by omega)).small; ?_
            unfold maxLen at hm5
            refine CW.loop (G := Int) (fun q s' w' => (Fr (4 :: (8 :: (rg 108 22 []))) _ s') ∧ (Hp w w' _) ∧ (s' 8 = I q) ∧ (0 ≤ q) ∧ (q ≤ (a.rows.getD k.toNat vr0).l.length) ∧ (∀ i : Int, 0 ≤ i → i < q → fitsS (shG s (s.vars.getD k.toNat var0)) ((a.rows.getD k.toNat vr0).l.getD i.toNat val0).el = true)) (fun q => ((a.rows.getD k.toNat vr0).l.length - q).toNat) (0) ⟨Fr.refl _ _, hH77, rfl, (by omega), (by omega), fun j a b => absurd b (by omega)⟩ ?_
            rintro q sg81 w81 ⟨fr81, hH81, e8_81, q0, qk, hq⟩
            have e3_81 := (fr81 3 rfl).trans e3_11
            have e5_81 := (fr81 5 rfl).trans e5_11
            have e7_81 := fr81.pp 7 rfl rfl
            refine CW.seq <| SR <| vm e8_81 <| V (fA underlying32 1 rfl sizeOf30 e3_81) <| V (run_ldV (ha.rows.sl.hp hH81) underlying30 rfl rfl (hH81.cell (i := 2) rfl rfl)) <| vm e5_81 <| V (run_indexAddrS (ha.rows.sl.hp hH81) underlying30 sizeOf54 rfl rfl (by omega)) <| V (run_ld underlying54 rfl rfl ((ha.rows.sl.hp hH81).cell _ _ (rowsC_at (by omega)))) <| V (run_lenSl ((ha.at (by omega) (by omega)).sl.hp hH81) rfl underlying54 rfl) <| V (run_lss rfl rfl) <| RL.nil <| CW.condP rfl (fun h83 => ?_) (fun h83 => ?_)
            ·refine CW.skip <| CW.seq <| CW.block <| CW.seq <| CW.regionD (by kernel_rfl) hH81 <| fun w84 hH85 => have zh85 := hH85.sub sR; AT 0 rfl zh85 (fun w hS => run_ldA (cs := [B _, _]) underlying65 rfl rfl e7_81 (rangeAt_cells (hS.blk (i := 0) rfl))) <| AQ 1 rfl zh85 (fA underlying32 1 rfl sizeOf30 e3_81) <| AT 2 rfl zh85 (fun w hS => run_ldV (ha.rows.sl.hp hS) underlying30 rfl rfl (hS.cell (i := 2) rfl rfl)) <| AQ 3 rfl zh85 (run_move e5_81) <| AT 4 rfl zh85 (fun w hS => run_indexAddrS (ha.rows.sl.hp hS) underlying30 sizeOf54 rfl rfl (by omega)) <| AT 5 rfl zh85 (fun w hS => run_ld underlying54 rfl rfl ((ha.rows.sl.hp hS).cell _ _ (rowsC_at (by omega)))) <| AQ 6 rfl zh85 (run_move e8_81) <| AT 7 rfl zh85 (fun w hS => run_indexAddrS ((ha.at (by omega) (by omega)).sl.hp hS) underlying54 sizeOf56 rfl rfl (by omega)) <| AQ 8 rfl zh85 (fA underlying56 1 rfl sizeOf39 rfl) <| AT 9 rfl zh85 (fun w hS => run_ldVE ((ha.at (by omega) (by omega)).sl.hp hS) underlying39 rfl rfl rfl (by omega)) <| A1 10 <| AO.callP rfl gnone rfl hH85 sR (c_clearanceref07_Fits _ _  _ ((hs.at (by omega) (by omega)).mono hH85.kw)) (run_call2 call52 rfl rfl) <| fun w86 hH87 => AQ 11 rfl (hH87.sub sR) (run_not rfl) <| AD <| CW.cond rfl (fun h90 => ?_) (fun h90 => ?_)
             ·refine SR <| va (v := B false) rfl <| RL.nil <| CW.ret <| outP1 Tryz.results31 (congrArg B ?_) hH87.below
              exact (right_3 h0 ‹k < _› (ok_2c (by omega) (fits_no q0 ‹q < _› (nt ‹(!fitsS _ (ValR.el _)) = true›)))).symm
             ·refine CW.skip <| CW.region <| vm e8_81 <| V (run_add rfl rfl (by omega)) <| aI rfl <| RL.nil <| ?_
              refine ⟨q + 1, ?_, fr81.u4.u4.u4.u4.u4.u1.u1.u1, hH87, (congrArg I (by rfl)), ?_, ?_, ?_⟩
              ·((try dsimp only); omega)
              ·omega
              ·omega
              ·exact fun i u v => if e : i = q then e ▸ nf ‹(!fitsS _ (ValR.el _)) = false› else hq i u (by omega)
            ·refine CW.exit (id := 2) rfl <| CW.region <| vm e5_81 <| V (run_add rfl rfl (by omega)) <| aI rfl <| RL.nil <| ?_
             refine ⟨k + 1, ?_, (((fr11.u4.u4.u4.u4.u4.u4.u4.u4.u4.u4.u4.u4.u4.u4.u4.u4.u4.u4.u4.u4.u4).t fr81 rfl)).u4.u4.u1.u1.u1, (hH81.sub (sQ (sQ sR))), (congrArg I (by rfl)), ?_, ?_, ?_⟩
             ·((try dsimp only); omega)
             ·omega
             ·omega
             ·exact fun i u v => if e : i = k then e ▸ (by exact ok_y2 ⟨by omega, by omega⟩ (by omega) (nf ‹(!decide (eqE _ _)) = false›) (nf ‹(!orderedF _) = false›) (fits_all ‹¬ q < _› hq)) else hg i u (by omega)
         ·refine gF rfl (bF h73) <| gF rfl (bF h73) <| gF rfl (bF h73) <| gF rfl (bF h73) <| gF rfl (bF h73) <| gF rfl (bF h73) <| gF rfl (bF h73) <| gF rfl (bF h73) <| RL.gU rfl rfl rfl <| RL.gU rfl rfl rfl <| RL.gU rfl rfl rfl <| RL.gU rfl rfl rfl <| RL.gU rfl rfl rfl <| RL.gU rfl rfl rfl <| RL.gU rfl rfl rfl <| gF rfl (bF h73) <| V (run_pickF (bF h73) (v := B false) rfl) <| RL.nil <| CW.condF rfl <| CW.skip <| SR <| va (v := I 0) rfl <| RL.nil <| CW.block <| have hm5 := (ha.at h0 (by omega)).small; ?_
          unfold maxLen at hm5
          refine CW.loop (G := Int) (fun q s' w' => (Fr (4 :: (8 :: (rg 108 22 []))) _ s') ∧ (Hp w w' _) ∧ (s' 8 = I q) ∧ (0 ≤ q) ∧ (q ≤ (a.rows.getD k.toNat vr0).l.length) ∧ (∀ i : Int, 0 ≤ i → i < q → fitsS (shG s (s.vars.getD k.toNat var0)) ((a.rows.getD k.toNat vr0).l.getD i.toNat val0).el = true)) (fun q => ((a.rows.getD k.toNat vr0).l.length - q).toNat) (0) ⟨Fr.refl _ _, hH33, rfl, (by omega), (by omega), fun j a b => absurd b (by omega)⟩ ?_
          rintro q sg91 w91 ⟨fr91, hH91, e8_91, q0, qk, hq⟩
          have e3_91 := (fr91 3 rfl).trans e3_11
          have e5_91 := (fr91 5 rfl).trans e5_11
          have e7_91 := fr91.pp 7 rfl rfl
          refine CW.seq <| SR <| vm e8_91 <| V (fA underlying32 1 rfl sizeOf30 e3_91) <| V (run_ldV (ha.rows.sl.hp hH91) underlying30 rfl rfl (hH91.cell (i := 2) rfl rfl)) <| vm e5_91 <| V (run_indexAddrS (ha.rows.sl.hp hH91) underlying30 sizeOf54 rfl rfl (by omega)) <| V (run_ld underlying54 rfl rfl ((ha.rows.sl.hp hH91).cell _ _ (rowsC_at (by omega)))) <| V (run_lenSl ((ha.at (by omega) (by omega)).sl.hp hH91) rfl underlying54 rfl) <| V (run_lss rfl rfl) <| RL.nil <| CW.condP rfl (fun h93 => ?_) (fun h93 => ?_)
          ·refine CW.skip <| CW.seq <| CW.block <| CW.seq <| CW.regionD (by kernel_rfl) hH91 <| fun w94 hH95 => have zh95 := hH95.sub sR; AT 0 rfl zh95 (fun w hS => run_ldA (cs := [B _, _]) underlying65 rfl rfl e7_91 (rangeAt_cells (hS.blk (i := 0) rfl))) <| AQ 1 rfl zh95 (fA underlying32 1 rfl sizeOf30 e3_91) <| AT 2 rfl zh95 (fun w hS => run_ldV (ha.rows.sl.hp hS) underlying30 rfl rfl (hS.cell (i := 2) rfl rfl)) <| AQ 3 rfl zh95 (run_move e5_91) <| AT 4 rfl zh95 (fun w hS => run_indexAddrS (ha.rows.sl.hp hS) underlying30 sizeOf54 rfl rfl (by omega)) <| AT 5 rfl zh95 (fun w hS => run_ld underlying54 rfl rfl ((ha.rows.sl.hp hS).cell _ _ (rowsC_at (by omega)))) <| AQ 6 rfl zh95 (run_move e8_91) <| AT 7 rfl zh95 (fun w hS => run_indexAddrS ((ha.at (by omega) (by omega)).sl.hp hS) underlying54 sizeOf56 rfl rfl (by omega)) <| AQ 8 rfl zh95 (fA underlying56 1 rfl sizeOf39 rfl) <| AT 9 rfl zh95 (fun w hS => run_ldVE ((ha.at (by omega) (by omega)).sl.hp hS) underlying39 rfl rfl rfl (by omega)) <| A1 10 <| AO.callP rfl gnone rfl hH95 sR (c_clearanceref07_Fits _ _  _ ((hs.at (by omega) (by omega)).mono hH95.kw)) (run_call2 call52 rfl rfl) <| fun w96 hH97 => AQ 11 rfl (hH97.sub sR) (run_not rfl) <| AD <| CW.cond rfl (fun h100 => ?_) (fun h100 => ?_)
           ·refine SR <| va (v := B false) rfl <| RL.nil <| CW.ret <| outP1 Tryz.results31 (congrArg B ?_) hH97.below
            (exfalso; omega)
           ·refine CW.skip <| CW.region <| vm e8_91 <| V (run_add rfl rfl (by omega)) <| aI rfl <| RL.nil <| ?_
            refine ⟨q + 1, ?_, fr91.u4.u4.u4.u4.u4.u1.u1.u1, hH97, (congrArg I (by rfl)), ?_, ?_, ?_⟩
            ·((try dsimp only); omega)
            ·omega
            ·omega
            ·exact fun i u v => if e : i = q then e ▸ nf ‹(!fitsS _ (ValR.el _)) = false› else hq i u (by omega)
          ·refine CW.exit (id := 2) rfl <| CW.region <| vm e5_91 <| V (run_add rfl rfl (by omega)) <| aI rfl <| RL.nil <| ?_
           refine ⟨k + 1, ?_, (((fr11.u4.u4.u4.u4.u4.u4.u4.u4.u4.u4.u4.u4.u4.u4.u4.u4.u4.u4.u4.u4.u4).t fr91 rfl)).u4.u4.u1.u1.u1, (hH91.sub (sQ (sQ sR))), (congrArg I (by rfl)), ?_, ?_, ?_⟩
           ·((try dsimp only); omega)
           ·omega
           ·omega
           ·exact fun i u v => if e : i = k then e ▸ (by exfalso; omega) else hg i u (by omega)
      ·refine gF rfl (bF h24) <| gF rfl (bF h24) <| gF rfl (bF h24) <| gT rfl (bF h22) <| V (run_pickF (bF h24) (v := B false) rfl) <| V (run_pickF (bF h22) (v := B _) rfl) <| RL.nil <| CW.condF rfl <| CW.skip <| SR <| V (fA underlying25 0 rfl sizeOf22 e2_11) <| V (run_ldV (hs.lats.sl.hp hH18) underlying22 rfl rfl (hH18.cell (i := 2) rfl rfl)) <| V (fA underlying69 2 rfl sizeOf3 rfl) <| V (run_ld underlying3 rfl rfl (hH18.cell (i := 0) rfl (v := I _) rfl)) <| V (run_indexAddrS (hs.lats.sl.hp hH18) underlying22 sizeOf67 rfl rfl (by omega)) <| V (fA underlying67 1 rfl sizeOf65 rfl) <| V (run_ldEA (dv := lat0) (off := 1) (cs := shpL _) latL_len (hs.lats.sl.hp hH18) underlying65 rfl rfl rfl (by omega) (lat_shp _)) <| RL.new rfl hH18 (f := fun b => (.pointer (some ⟨b, 0, none⟩))) (run_alloc Tryz.zeroValue65) <| fun b103 w101 hH102 => RL.set hH102 (i := 0) rfl (run_stShp (hs.at (by omega) (by omega)) rfl rfl rfl (hH102.blk (i := 0) rfl) rfl) <| fun w104 hH105 => ?_
       simp only [z2] at hH105
       refine RL.nil <| CW.seq <| CW.seq <| CW.regionD (by kernel_rfl) hH105 <| fun w106 hH107 => have zh107 := hH107.sub sR; AQ 0 rfl zh107 (fA underlying69 1 rfl sizeOf3 rfl) <| AT 1 rfl zh107 (fun w hS => run_ld underlying3 rfl rfl (hS.cell (i := 1) rfl (v := I _) rfl)) <| AQ 2 rfl zh107 (run_eql rfl rfl) <| AQ 3 rfl zh107 (mV (B _) rfl) <| AN.splitP (dj := 68) rfl (fun h109 => ?_) (fun h109 => ?_)
       ·refine AG 4 rfl rfl (bT h109) (hH107.sub sR) (fun w hS => run_ldA (cs := [B _, _]) underlying65 rfl rfl rfl (rangeAt_cells (hS.blk (i := 0) rfl))) <| AG 5 rfl rfl (bT h109) (hH107.sub sR) (fun w hS => fA underlying32 0 rfl sizeOf29 e3_11) <| AG 6 rfl rfl (bT h109) (hH107.sub sR) (fun w hS => run_ldV (ha.labels.sl.hp hS) underlying29 rfl rfl (hS.cell (i := 2) rfl rfl)) <| AG 7 rfl rfl (bT h109) (hH107.sub sR) (fun w hS => run_move e5_11) <| AG 8 rfl rfl (bT h109) (hH107.sub sR) (fun w hS => run_indexAddrS (ha.labels.sl.hp hS) underlying29 sizeOf39 rfl rfl (by omega)) <| AG 9 rfl rfl (bT h109) (hH107.sub sR) (fun w hS => run_ldElS (ha.labels.sl.hp hS) underlying39 rfl rfl rfl (by omega)) <| A1 10 <| AO.callP rfl (gsome rfl (bT h109)) rfl hH107 sR (c_clearanceref07_Fits _ _  _ ((hs.at (by omega) (by omega)).mono hH107.kw)) (run_call2 call52 rfl rfl) <| fun w110 hH111 => AG 11 rfl rfl (bT h109) (hH111.sub sR) (fun w hS => run_not rfl) <| AG 12 rfl rfl (bT h109) (hH111.sub sR) (fun w hS => mV (B _) rfl) <| AN.split (dj := 77) rfl (fun h114 => ?_) (fun h114 => ?_)
        ·refine AK 13 rfl rfl (bR (c := true) h114) (hH111.sub sR) <| AK 14 rfl rfl (bR (c := true) h114) (hH111.sub sR) <| AK 15 rfl rfl (bR (c := true) h114) (hH111.sub sR) <| AK 16 rfl rfl (bR (c := true) h114) (hH111.sub sR) <| AK 17 rfl rfl (bR (c := true) h114) (hH111.sub sR) <| AK 18 rfl rfl (bR (c := true) h114) (hH111.sub sR) <| AK 19 rfl rfl (bR (c := true) h114) (hH111.sub sR) <| AG 20 rfl rfl (bT h109) (hH111.sub sR) (fun w hS => run_pickT (bR (c := true) h114) (v := B true) rfl) <| have zh111 := hH111.sub sR; AQ 21 rfl zh111 (run_pickT (bT h109) (v := B _) rfl) <| AD <| CW.condT rfl <| SR <| va (v := B false) rfl <| RL.nil <| CW.ret <| outP1 Tryz.results31 (congrArg B ?_) hH111.below
         exact (right_3 h0 ‹k < _› (ok_1b (by omega) (nt ‹(!fitsS _ (List.getD a.labels _ _)) = true›))).symm
        ·refine AG 13 rfl rfl (bR (c := false) h114) (hH111.sub sR) (fun w hS => fA underlying32 1 rfl sizeOf30 e3_11) <| AG 14 rfl rfl (bR (c := false) h114) (hH111.sub sR) (fun w hS => run_ldV (ha.rows.sl.hp hS) underlying30 rfl rfl (hS.cell (i := 2) rfl rfl)) <| AG 15 rfl rfl (bR (c := false) h114) (hH111.sub sR) (fun w hS => run_move e5_11) <| AG 16 rfl rfl (bR (c := false) h114) (hH111.sub sR) (fun w hS => run_indexAddrS (ha.rows.sl.hp hS) underlying30 sizeOf54 rfl rfl (by omega)) <| AG 17 rfl rfl (bR (c := false) h114) (hH111.sub sR) (fun w hS => run_ld underlying54 rfl rfl ((ha.rows.sl.hp hS).cell _ _ (rowsC_at (by omega)))) <| AG 18 rfl rfl (bR (c := false) h114) (hH111.sub sR) (fun w hS => run_lenSl ((ha.at (by omega) (by omega)).sl.hp hS) rfl underlying54 rfl) <| AG 19 rfl rfl (bR (c := false) h114) (hH111.sub sR) (fun w hS => run_gtr rfl rfl) <| AG 20 rfl rfl (bT h109) (hH111.sub sR) (fun w hS => run_pickF (bR (c := false) h114) (v := B _) rfl) <| have zh111b := hH111.sub sR; AQ 21 rfl zh111b (run_pickT (bT h109) (v := B _) rfl) <| AD <| CW.condP rfl (fun h116 => ?_) (fun h116 => ?_)
         ·refine SR <| va (v := B false) rfl <| RL.nil <| CW.ret <| outP1 Tryz.results31 (congrArg B ?_) hH111.below
          exact (right_3 h0 ‹k < _› (ok_1a (by omega) (by omega))).symm
         ·refine CW.skip <| CW.seq <| SR <| V (fA underlying69 1 rfl sizeOf3 rfl) <| V (run_ld underlying3 rfl rfl (hH111.cell (i := 1) rfl (v := I _) rfl)) <| V (run_eql rfl rfl) <| mB rfl <| RL.splitP (dj := 90) rfl (fun h118 => ?_) (fun h118 => ?_)
          ·refine gT rfl (bT h118) <| V (fA underlying32 0 rfl sizeOf29 e3_11) <| gT rfl (bT h118) <| V (run_ldV (ha.labels.sl.hp hH111) underlying29 rfl rfl (hH111.cell (i := 2) rfl rfl)) <| gT rfl (bT h118) <| vm e5_11 <| gT rfl (bT h118) <| V (run_indexAddrS (ha.labels.sl.hp hH111) underlying29 sizeOf39 rfl rfl (by omega)) <| gT rfl (bT h118) <| V (run_ldElS (ha.labels.sl.hp hH111) underlying39 rfl rfl rfl (by omega)) <| gT rfl (bT h118) <| V (run_bld (vs := []) rfl (built_el0)) <| gT rfl (bT h118) <| V (run_neqEl elT_fact rfl rfl) <| gT rfl (bT h118) <| mB rfl <| RL.split (dj := 98) rfl (fun h120 => ?_) (fun h120 => ?_)
           ·refine gF rfl (bR (c := true) h120) <| gF rfl (bR (c := true) h120) <| gF rfl (bR (c := true) h120) <| gF rfl (bR (c := true) h120) <| gF rfl (bR (c := true) h120) <| gF rfl (bR (c := true) h120) <| gF rfl (bR (c := true) h120) <| gT rfl (bT h118) <| V (run_pickT (bR (c := true) h120) (v := B true) rfl) <| V (run_pickT (bT h118) (v := B _) rfl) <| RL.nil <| CW.condT rfl <| SR <| va (v := B false) rfl <| RL.nil <| CW.ret <| outP1 Tryz.results31 (congrArg B ?_) hH111.below
            (exfalso; omega)
           ·refine gT rfl (bR (c := false) h120) <| V (fA underlying32 1 rfl sizeOf30 e3_11) <| gT rfl (bR (c := false) h120) <| V (run_ldV (ha.rows.sl.hp hH111) underlying30 rfl rfl (hH111.cell (i := 2) rfl rfl)) <| gT rfl (bR (c := false) h120) <| vm e5_11 <| gT rfl (bR (c := false) h120) <| V (run_indexAddrS (ha.rows.sl.hp hH111) underlying30 sizeOf54 rfl rfl (by omega)) <| gT rfl (bR (c := false) h120) <| V (run_ld underlying54 rfl rfl ((ha.rows.sl.hp hH111).cell _ _ (rowsC_at (by omega)))) <| gT rfl (bR (c := false) h120) <| RL.callP rfl hH111 (c_clearanceref18_ordered _ _  _ ((ha.at (by omega) (by omega)).sl.hp hH111)) (run_call1 call53 rfl) <| fun w121 hH122 => gT rfl (bR (c := false) h120) <| V (run_not rfl) <| gT rfl (bT h118) <| V (run_pickF (bR (c := false) h120) (v := B _) rfl) <| V (run_pickT (bT h118) (v := B _) rfl) <| RL.nil <| CW.cond rfl (fun h125 => ?_) (fun h125 => ?_)
            ·refine SR <| va (v := B false) rfl <| RL.nil <| CW.ret <| outP1 Tryz.results31 (congrArg B ?_) hH122.below
             (exfalso; omega)
            ·refine CW.skip <| SR <| va (v := I 0) rfl <| RL.nil <| CW.block <| have hm5 := (ha.at h0 (by omega)).small; ?_
             unfold maxLen at hm5
             refine CW.loop (G := Int) (fun q s' w' => (Fr (4 :: (8 :: (rg 108 22 []))) _ s') ∧ (Hp w w' _) ∧ (s' 8 = I q) ∧ (0 ≤ q) ∧ (q ≤ (a.rows.getD k.toNat vr0).l.length) ∧ (∀ i : Int, 0 ≤ i → i < q → fitsS (shG s (s.vars.getD k.toNat var0)) ((a.rows.getD k.toNat vr0).l.getD i.toNat val0).el = true)) (fun q => ((a.rows.getD k.toNat vr0).l.length - q).toNat) (0) ⟨Fr.refl _ _, hH122, rfl, (by omega), (by omega), fun j a b => absurd b (by omega)⟩ ?_
             rintro q sg126 w126 ⟨fr126, hH126, e8_126, q0, qk, hq⟩
             have e3_126 := (fr126 3 rfl).trans e3_11
             have e5_126 := (fr126 5 rfl).trans e5_11
             have e7_126 := fr126.pp 7 rfl rfl
             refine CW.seq <| SR <| vm e8_126 <| V (fA underlying32 1 rfl sizeOf30 e3_126) <| V (run_ldV (ha.rows.sl.hp hH126) underlying30 rfl rfl (hH126.cell (i := 2) rfl rfl)) <| vm e5_126 <| V (run_indexAddrS (ha.rows.sl.hp hH126) underlying30 sizeOf54 rfl rfl (by omega)) <| V (run_ld underlying54 rfl rfl ((ha.rows.sl.hp hH126).cell _ _ (rowsC_at (by omega)))) <| V (run_lenSl ((ha.at (by omega) (by omega)).sl.hp hH126) rfl underlying54 rfl) <| V (run_lss rfl rfl) <| RL.nil <| CW.condP rfl (fun h128 => ?_) (fun h128 => ?_)
             ·refine CW.skip <| CW.seq <| CW.block <| CW.seq <| CW.regionD (by kernel_rfl) hH126 <| fun w129 hH130 => have zh130 := hH130.sub sR; AT 0 rfl zh130 (fun w hS => run_ldA (cs := [B _, _]) underlying65 rfl rfl e7_126 (rangeAt_cells (hS.blk (i := 0) rfl))) <| AQ 1 rfl zh130 (fA underlying32 1 rfl sizeOf30 e3_126) <| AT 2 rfl zh130 (fun w hS => run_ldV (ha.rows.sl.hp hS) underlying30 rfl rfl (hS.cell (i := 2) rfl rfl)) <| AQ 3 rfl zh130 (run_move e5_126) <| AT 4 rfl zh130 (fun w hS => run_indexAddrS (ha.rows.sl.hp hS) underlying30 sizeOf54 rfl rfl (by omega)) <| AT 5 rfl zh130 (fun w hS => run_ld underlying54 rfl rfl ((ha.rows.sl.hp hS).cell _ _ (rowsC_at (by omega)))) <| AQ 6 rfl zh130 (run_move e8_126) <| AT 7 rfl zh130 (fun w hS => run_indexAddrS ((ha.at (by omega) (by omega)).sl.hp hS) underlying54 sizeOf56 rfl rfl (by omega)) <| AQ 8 rfl zh130 (fA underlying56 1 rfl sizeOf39 rfl) <| AT 9 rfl zh130 (fun w hS => run_ldVE ((ha.at (by omega) (by omega)).sl.hp hS) underlying39 rfl rfl rfl (by omega)) <| A1 10 <| AO.callP rfl gnone rfl hH130 sR (c_clearanceref07_Fits _ _  _ ((hs.at (by omega) (by omega)).mono hH130.kw)) (run_call2 call52 rfl rfl) <| fun w131 hH132 => AQ 11 rfl (hH132.sub sR) (run_not rfl) <| AD <| CW.cond rfl (fun h135 => ?_) (fun h135 => ?_)
              ·refine SR <| va (v := B false) rfl <| RL.nil <| CW.ret <| outP1 Tryz.results31 (congrArg B ?_) hH132.below
               (exfalso; omega)
              ·refine CW.skip <| CW.region <| vm e8_126 <| V (run_add rfl rfl (by omega)) <| aI rfl <| RL.nil <| ?_
               refine ⟨q + 1, ?_, fr126.u4.u4.u4.u4.u4.u1.u1.u1, hH132, (congrArg I (by rfl)), ?_, ?_, ?_⟩
               ·((try dsimp only); omega)
               ·omega
               ·omega
               ·exact fun i u v => if e : i = q then e ▸ nf ‹(!fitsS _ (ValR.el _)) = false› else hq i u (by omega)
             ·refine CW.exit (id := 2) rfl <| CW.region <| vm e5_126 <| V (run_add rfl rfl (by omega)) <| aI rfl <| RL.nil <| ?_
              refine ⟨k + 1, ?_, (((fr11.u4.u4.u4.u4.u4.u4.u4.u4.u4.u4.u4.u4.u4.u4.u4.u4.u4.u4.u4.u4.u4).t fr126 rfl)).u4.u4.u1.u1.u1, (hH126.sub (sQ (sQ sR))), (congrArg I (by rfl)), ?_, ?_, ?_⟩
              ·((try dsimp only); omega)
              ·omega
              ·omega
              ·exact fun i u v => if e : i = k then e ▸ (by exfalso; omega) else hg i u (by omega)
          ·refine gF rfl (bF h118) <| gF rfl (bF h118) <| gF rfl (bF h118) <| gF rfl (bF h118) <| gF rfl (bF h118) <| gF rfl (bF h118) <| gF rfl (bF h118) <| gF rfl (bF h118) <| RL.gU rfl rfl rfl <| RL.gU rfl rfl rfl <| RL.gU rfl rfl rfl <| RL.gU rfl rfl rfl <| RL.gU rfl rfl rfl <| RL.gU rfl rfl rfl <| RL.gU rfl rfl rfl <| gF rfl (bF h118) <| V (run_pickF (bF h118) (v := B false) rfl) <| RL.nil <| CW.condF rfl <| CW.skip <| SR <| va (v := I 0) rfl <| RL.nil <| CW.block <| have hm5 := (ha.at h0 (by omega)).small; ?_
           unfold maxLen at hm5
           refine CW.loop (G := Int) (fun q s' w' => (Fr (4 :: (8 :: (rg 108 22 []))) _ s') ∧ (Hp w w' _) ∧ (s' 8 = I q) ∧ (0 ≤ q) ∧ (q ≤ (a.rows.getD k.toNat vr0).l.length) ∧ (∀ i : Int, 0 ≤ i → i < q → fitsS (shG s (s.vars.getD k.toNat var0)) ((a.rows.getD k.toNat vr0).l.getD i.toNat val0).el = true)) (fun q => ((a.rows.getD k.toNat vr0).l.length - q).toNat) (0) ⟨Fr.refl _ _, hH111, rfl, (by omega), (by omega), fun j a b => absurd b (by omega)⟩ ?_
           rintro q sg136 w136 ⟨fr136, hH136, e8_136, q0, qk, hq⟩
           have e3_136 := (fr136 3 rfl).trans e3_11
           have e5_136 := (fr136 5 rfl).trans e5_11
           have e7_136 := fr136.pp 7 rfl rfl
           refine CW.seq <| SR <| vm e8_136 <| V (fA underlying32 1 rfl sizeOf30 e3_136) <| V (run_ldV (ha.rows.sl.hp hH136) underlying30 rfl rfl (hH136.cell (i := 2) rfl rfl)) <| vm e5_136 <| V (run_indexAddrS (ha.rows.sl.hp hH136) underlying30 sizeOf54 rfl rfl (by omega)) <| V (run_ld underlying54 rfl rfl ((ha.rows.sl.hp hH136).cell _ _ (rowsC_at (by omega)))) <| V (run_lenSl ((ha.at (by omega) (by omega)).sl.hp hH136) rfl underlying54 rfl) <| V (run_lss rfl rfl) <| RL.nil <| CW.condP rfl (fun h138 => ?_) (fun h138 => ?_)
           ·refine CW.skip <| CW.seq <| CW.block <| CW.seq <| CW.regionD (by kernel_rfl) hH136 <| fun w139 hH140 => have zh140 := hH140.sub sR; AT 0 rfl zh140 (fun w hS => run_ldA (cs := [B _, _]) underlying65 rfl rfl e7_136 (rangeAt_cells (hS.blk (i := 0) rfl))) <| AQ 1 rfl zh140 (fA underlying32 1 rfl sizeOf30 e3_136) <| AT 2 rfl zh140 (fun w hS => run_ldV (ha.rows.sl.hp hS) underlying30 rfl rfl (hS.cell (i := 2) rfl rfl)) <| AQ 3 rfl zh140 (run_move e5_136) <| AT 4 rfl zh140 (fun w hS => run_indexAddrS (ha.rows.sl.hp hS) underlying30 sizeOf54 rfl rfl (by omega)) <| AT 5 rfl zh140 (fun w hS => run_ld underlying54 rfl rfl ((ha.rows.sl.hp hS).cell _ _ (rowsC_at (by omega)))) <| AQ 6 rfl zh140 (run_move e8_136) <| AT 7 rfl zh140 (fun w hS => run_indexAddrS ((ha.at (by omega) (by omega)).sl.hp hS) underlying54 sizeOf56 rfl rfl (by omega)) <| AQ 8 rfl zh140 (fA underlying56 1 rfl sizeOf39 rfl) <| AT 9 rfl zh140 (fun w hS => run_ldVE ((ha.at (by omega) (by omega)).sl.hp hS) underlying39 rfl rfl rfl (by omega)) <| A1 10 <| AO.callP rfl gnone rfl hH140 sR (c_clearanceref07_Fits _ _  _ ((hs.at (by omega) (by omega)).mono hH140.kw)) (run_call2 call52 rfl rfl) <| fun w141 hH142 => AQ 11 rfl (hH142.sub sR) (run_not rfl) <| AD <| CW.cond rfl (fun h145 => ?_) (fun h145 => ?_)
            ·refine SR <| va (v := B false) rfl <| RL.nil <| CW.ret <| outP1 Tryz.results31 (congrArg B ?_) hH142.below
             (exfalso; omega)
            ·refine CW.skip <| CW.region <| vm e8_136 <| V (run_add rfl rfl (by omega)) <| aI rfl <| RL.nil <| ?_
             refine ⟨q + 1, ?_, fr136.u4.u4.u4.u4.u4.u1.u1.u1, hH142, (congrArg I (by rfl)), ?_, ?_, ?_⟩
             ·((try dsimp only); omega)
             ·omega
             ·omega
             ·exact fun i u v => if e : i = q then e ▸ nf ‹(!fitsS _ (ValR.el _)) = false› else hq i u (by omega)
           ·refine CW.exit (id := 2) rfl <| CW.region <| vm e5_136 <| V (run_add rfl rfl (by omega)) <| aI rfl <| RL.nil <| ?_
            refine ⟨k + 1, ?_, (((fr11.u4.u4.u4.u4.u4.u4.u4.u4.u4.u4.u4.u4.u4.u4.u4.u4.u4.u4.u4.u4.u4).t fr136 rfl)).u4.u4.u1.u1.u1, (hH136.sub (sQ (sQ sR))), (congrArg I (by rfl)), ?_, ?_, ?_⟩
            ·((try dsimp only); omega)
            ·omega
            ·omega
            ·exact fun i u v => if e : i = k then e ▸ (by exact ok_y1 ⟨by omega, by omega⟩ (by omega) (by omega) (nf ‹(!fitsS _ (List.getD a.labels _ _)) = false›)) else hg i u (by omega)
       ·refine AK 4 rfl rfl (bF h109) (hH107.sub sR) <| AK 5 rfl rfl (bF h109) (hH107.sub sR) <| AK 6 rfl rfl (bF h109) (hH107.sub sR) <| AK 7 rfl rfl (bF h109) (hH107.sub sR) <| AK 8 rfl rfl (bF h109) (hH107.sub sR) <| AK 9 rfl rfl (bF h109) (hH107.sub sR) <| AK 10 rfl rfl (bF h109) (hH107.sub sR) <| AK 11 rfl rfl (bF h109) (hH107.sub sR) <| AK 12 rfl rfl (bF h109) (hH107.sub sR) <| AU 13 rfl rfl rfl (hH107.sub sR) <| AU 14 rfl rfl rfl (hH107.sub sR) <| AU 15 rfl rfl rfl (hH107.sub sR) <| AU 16 rfl rfl rfl (hH107.sub sR) <| AU 17 rfl rfl rfl (hH107.sub sR) <| AU 18 rfl rfl rfl (hH107.sub sR) <| AU 19 rfl rfl rfl (hH107.sub sR) <| AK 20 rfl rfl (bF h109) (hH107.sub sR) <| AQ 21 rfl zh107 (run_pickF (bF h109) (v := B false) rfl) <| AD <| CW.condF rfl <| CW.skip <| CW.seq <| SR <| V (fA underlying69 1 rfl sizeOf3 rfl) <| V (run_ld underlying3 rfl rfl (hH107.cell (i := 1) rfl (v := I _) rfl)) <| V (run_eql rfl rfl) <| mB rfl <| RL.splitP (dj := 90) rfl (fun h147 => ?_) (fun h147 => ?_)
        ·refine gT rfl (bT h147) <| V (fA underlying32 0 rfl sizeOf29 e3_11) <| gT rfl (bT h147) <| V (run_ldV (ha.labels.sl.hp hH107) underlying29 rfl rfl (hH107.cell (i := 2) rfl rfl)) <| gT rfl (bT h147) <| vm e5_11 <| gT rfl (bT h147) <| V (run_indexAddrS (ha.labels.sl.hp hH107) underlying29 sizeOf39 rfl rfl (by omega)) <| gT rfl (bT h147) <| V (run_ldElS (ha.labels.sl.hp hH107) underlying39 rfl rfl rfl (by omega)) <| gT rfl (bT h147) <| V (run_bld (vs := []) rfl (built_el0)) <| gT rfl (bT h147) <| V (run_neqEl elT_fact rfl rfl) <| gT rfl (bT h147) <| mB rfl <| RL.split (dj := 98) rfl (fun h149 => ?_) (fun h149 => ?_)
         ·refine gF rfl (bR (c := true) h149) <| gF rfl (bR (c := true) h149) <| gF rfl (bR (c := true) h149) <| gF rfl (bR (c := true) h149) <| gF rfl (bR (c := true) h149) <| gF rfl (bR (c := true) h149) <| gF rfl (bR (c := true) h149) <| gT rfl (bT h147) <| V (run_pickT (bR (c := true) h149) (v := B true) rfl) <| V (run_pickT (bT h147) (v := B _) rfl) <| RL.nil <| CW.condT rfl <| SR <| va (v := B false) rfl <| RL.nil <| CW.ret <| outP1 Tryz.results31 (congrArg B ?_) hH107.below
          (exfalso; omega)
         ·refine gT rfl (bR (c := false) h149) <| V (fA underlying32 1 rfl sizeOf30 e3_11) <| gT rfl (bR (c := false) h149) <| V (run_ldV (ha.rows.sl.hp hH107) underlying30 rfl rfl (hH107.cell (i := 2) rfl rfl)) <| gT rfl (bR (c := false) h149) <| vm e5_11 <| gT rfl (bR (c := false) h149) <| V (run_indexAddrS (ha.rows.sl.hp hH107) underlying30 sizeOf54 rfl rfl (by omega)) <| gT rfl (bR (c := false) h149) <| V (run_ld underlying54 rfl rfl ((ha.rows.sl.hp hH107).cell _ _ (rowsC_at (by omega)))) <| gT rfl (bR (c := false) h149) <| RL.callP rfl hH107 (c_clearanceref18_ordered _ _  _ ((ha.at (by omega) (by omega)).sl.hp hH107)) (run_call1 call53 rfl) <| fun w150 hH151 => gT rfl (bR (c := false) h149) <| V (run_not rfl) <| gT rfl (bT h147) <| V (run_pickF (bR (c := false) h149) (v := B _) rfl) <| V (run_pickT (bT h147) (v := B _) rfl) <| RL.nil <| CW.cond rfl (fun h154 => ?_) (fun h154 => ?_)
          ·refine SR <| va (v := B false) rfl <| RL.nil <| CW.ret <| outP1 Tryz.results31 (congrArg B ?_) hH151.below
           (exfalso; omega)
          ·refine CW.skip <| SR <| va (v := I 0) rfl <| RL.nil <| CW.block <| have hm5 := (ha.at h0 (by omega)).small; ?_
           unfold maxLen at hm5
           refine CW.loop (G := Int) (fun q s' w' => (Fr (4 :: (8 :: (rg 108 22 []))) _ s') ∧ (Hp w w' _) ∧ (s' 8 = I q) ∧ (0 ≤ q) ∧ (q ≤ (a.rows.getD k.toNat vr0).l.length) ∧ (∀ i : Int, 0 ≤ i → i < q → fitsS (shG s (s.vars.getD k.toNat var0)) ((a.rows.getD k.toNat vr0).l.getD i.toNat val0).el = true)) (fun q => ((a.rows.getD k.toNat vr0).l.length - q).toNat) (0) ⟨Fr.refl _ _, hH151, rfl, (by omega), (by omega), fun j a b => absurd b (by omega)⟩ ?_
           rintro q sg155 w155 ⟨fr155, hH155, e8_155, q0, qk, hq⟩
           have e3_155 := (fr155 3 rfl).trans e3_11
           have e5_155 := (fr155 5 rfl).trans e5_11
           have e7_155 := fr155.pp 7 rfl rfl
           refine CW.seq <| SR <| vm e8_155 <| V (fA underlying32 1 rfl sizeOf30 e3_155) <| V (run_ldV (ha.rows.sl.hp hH155) underlying30 rfl rfl (hH155.cell (i := 2) rfl rfl)) <| vm e5_155 <| V (run_indexAddrS (ha.rows.sl.hp hH155) underlying30 sizeOf54 rfl rfl (by omega)) <| V (run_ld underlying54 rfl rfl ((ha.rows.sl.hp hH155).cell _ _ (rowsC_at (by omega)))) <| V (run_lenSl ((ha.at (by omega) (by omega)).sl.hp hH155) rfl underlying54 rfl) <| V (run_lss rfl rfl) <| RL.nil <| CW.condP rfl (fun h157 => ?_) (fun h157 => ?_)
           ·refine CW.skip <| CW.seq <| CW.block <| CW.seq <| CW.regionD (by kernel_rfl) hH155 <| fun w158 hH159 => have zh159 := hH159.sub sR; AT 0 rfl zh159 (fun w hS => run_ldA (cs := [B _, _]) underlying65 rfl rfl e7_155 (rangeAt_cells (hS.blk (i := 0) rfl))) <| AQ 1 rfl zh159 (fA underlying32 1 rfl sizeOf30 e3_155) <| AT 2 rfl zh159 (fun w hS => run_ldV (ha.rows.sl.hp hS) underlying30 rfl rfl (hS.cell (i := 2) rfl rfl)) <| AQ 3 rfl zh159 (run_move e5_155) <| AT 4 rfl zh159 (fun w hS => run_indexAddrS (ha.rows.sl.hp hS) underlying30 sizeOf54 rfl rfl (by omega)) <| AT 5 rfl zh159 (fun w hS => run_ld underlying54 rfl rfl ((ha.rows.sl.hp hS).cell _ _ (rowsC_at (by omega)))) <| AQ 6 rfl zh159 (run_move e8_155) <| AT 7 rfl zh159 (fun w hS => run_indexAddrS ((ha.at (by omega) (by omega)).sl.hp hS) underlying54 sizeOf56 rfl rfl (by omega)) <| AQ 8 rfl zh159 (fA underlying56 1 rfl sizeOf39 rfl) <| AT 9 rfl zh159 (fun w hS => run_ldVE ((ha.at (by omega) (by omega)).sl.hp hS) underlying39 rfl rfl rfl (by omega)) <| A1 10 <| AO.callP rfl gnone rfl hH159 sR (c_clearanceref07_Fits _ _  _ ((hs.at (by omega) (by omega)).mono hH159.kw)) (run_call2 call52 rfl rfl) <| fun w160 hH161 => AQ 11 rfl (hH161.sub sR) (run_not rfl) <| AD <| CW.cond rfl (fun h164 => ?_) (fun h164 => ?_)
            ·refine SR <| va (v := B false) rfl <| RL.nil <| CW.ret <| outP1 Tryz.results31 (congrArg B ?_) hH161.below
             (exfalso; omega)
            ·refine CW.skip <| CW.region <| vm e8_155 <| V (run_add rfl rfl (by omega)) <| aI rfl <| RL.nil <| ?_
             refine ⟨q + 1, ?_, fr155.u4.u4.u4.u4.u4.u1.u1.u1, hH161, (congrArg I (by rfl)), ?_, ?_, ?_⟩
             ·((try dsimp only); omega)
             ·omega
             ·omega
             ·exact fun i u v => if e : i = q then e ▸ nf ‹(!fitsS _ (ValR.el _)) = false› else hq i u (by omega)
           ·refine CW.exit (id := 2) rfl <| CW.region <| vm e5_155 <| V (run_add rfl rfl (by omega)) <| aI rfl <| RL.nil <| ?_
            refine ⟨k + 1, ?_, (((fr11.u4.u4.u4.u4.u4.u4.u4.u4.u4.u4.u4.u4.u4.u4.u4.u4.u4.u4.u4.u4.u4).t fr155 rfl)).u4.u4.u1.u1.u1, (hH155.sub (sQ (sQ sR))), (congrArg I (by rfl)), ?_, ?_, ?_⟩
            ·((try dsimp only); omega)
            ·omega
            ·omega
            ·exact fun i u v => if e : i = k then e ▸ (by exfalso; omega) else hg i u (by omega)
        ·refine gF rfl (bF h147) <| gF rfl (bF h147) <| gF rfl (bF h147) <| gF rfl (bF h147) <| gF rfl (bF h147) <| gF rfl (bF h147) <| gF rfl (bF h147) <| gF rfl (bF h147) <| RL.gU rfl rfl rfl <| RL.gU rfl rfl rfl <| RL.gU rfl rfl rfl <| RL.gU rfl rfl rfl <| RL.gU rfl rfl rfl <| RL.gU rfl rfl rfl <| RL.gU rfl rfl rfl <| gF rfl (bF h147) <| V (run_pickF (bF h147) (v := B false) rfl) <| RL.nil <| CW.condF rfl <| CW.skip <| SR <| va (v := I 0) rfl <| RL.nil <| CW.block <| have hm5 := (ha.at h0 (by omega)).small; ?_
         unfold maxLen at hm5
         refine CW.loop (G := Int) (fun q s' w' => (Fr (4 :: (8 :: (rg 108 22 []))) _ s') ∧ (Hp w w' _) ∧ (s' 8 = I q) ∧ (0 ≤ q) ∧ (q ≤ (a.rows.getD k.toNat vr0).l.length) ∧ (∀ i : Int, 0 ≤ i → i < q → fitsS (shG s (s.vars.getD k.toNat var0)) ((a.rows.getD k.toNat vr0).l.getD i.toNat val0).el = true)) (fun q => ((a.rows.getD k.toNat vr0).l.length - q).toNat) (0) ⟨Fr.refl _ _, hH107, rfl, (by omega), (by omega), fun j a b => absurd b (by omega)⟩ ?_
         rintro q sg165 w165 ⟨fr165, hH165, e8_165, q0, qk, hq⟩
         have e3_165 := (fr165 3 rfl).trans e3_11
         have e5_165 := (fr165 5 rfl).trans e5_11
         have e7_165 := fr165.pp 7 rfl rfl
         refine CW.seq <| SR <| vm e8_165 <| V (fA underlying32 1 rfl sizeOf30 e3_165) <| V (run_ldV (ha.rows.sl.hp hH165) underlying30 rfl rfl (hH165.cell (i := 2) rfl rfl)) <| vm e5_165 <| V (run_indexAddrS (ha.rows.sl.hp hH165) underlying30 sizeOf54 rfl rfl (by omega)) <| V (run_ld underlying54 rfl rfl ((ha.rows.sl.hp hH165).cell _ _ (rowsC_at (by omega)))) <| V (run_lenSl ((ha.at (by omega) (by omega)).sl.hp hH165) rfl underlying54 rfl) <| V (run_lss rfl rfl) <| RL.nil <| CW.condP rfl (fun h167 => ?_) (fun h167 => ?_)
         ·refine CW.skip <| CW.seq <| CW.block <| CW.seq <| CW.regionD (by kernel_rfl) hH165 <| fun w168 hH169 => have zh169 := hH169.sub sR; AT 0 rfl zh169 (fun w hS => run_ldA (cs := [B _, _]) underlying65 rfl rfl e7_165 (rangeAt_cells (hS.blk (i := 0) rfl))) <| AQ 1 rfl zh169 (fA underlying32 1 rfl sizeOf30 e3_165) <| AT 2 rfl zh169 (fun w hS => run_ldV (ha.rows.sl.hp hS) underlying30 rfl rfl (hS.cell (i := 2) rfl rfl)) <| AQ 3 rfl zh169 (run_move e5_165) <| AT 4 rfl zh169 (fun w hS => run_indexAddrS (ha.rows.sl.hp hS) underlying30 sizeOf54 rfl rfl (by omega)) <| AT 5 rfl zh169 (fun w hS => run_ld underlying54 rfl rfl ((ha.rows.sl.hp hS).cell _ _ (rowsC_at (by omega)))) <| AQ 6 rfl zh169 (run_move e8_165) <| AT 7 rfl zh169 (fun w hS => run_indexAddrS ((ha.at (by omega) (by omega)).sl.hp hS) underlying54 sizeOf56 rfl rfl (by omega)) <| AQ 8 rfl zh169 (fA underlying56 1 rfl sizeOf39 rfl) <| AT 9 rfl zh169 (fun w hS => run_ldVE ((ha.at (by omega) (by omega)).sl.hp hS) underlying39 rfl rfl rfl (by omega)) <| A1 10 <| AO.callP rfl gnone rfl hH169 sR (c_clearanceref07_Fits _ _  _ ((hs.at (by omega) (by omega)).mono hH169.kw)) (run_call2 call52 rfl rfl) <| fun w170 hH171 => AQ 11 rfl (hH171.sub sR) (run_not rfl) <| AD <| CW.cond rfl (fun h174 => ?_) (fun h174 => ?_)
          ·refine SR <| va (v := B false) rfl <| RL.nil <| CW.ret <| outP1 Tryz.results31 (congrArg B ?_) hH171.below
           (exfalso; omega)
          ·refine CW.skip <| CW.region <| vm e8_165 <| V (run_add rfl rfl (by omega)) <| aI rfl <| RL.nil <| ?_
           refine ⟨q + 1, ?_, fr165.u4.u4.u4.u4.u4.u1.u1.u1, hH171, (congrArg I (by rfl)), ?_, ?_, ?_⟩
           ·((try dsimp only); omega)
           ·omega
           ·omega
           ·exact fun i u v => if e : i = q then e ▸ nf ‹(!fitsS _ (ValR.el _)) = false› else hq i u (by omega)
         ·refine CW.exit (id := 2) rfl <| CW.region <| vm e5_165 <| V (run_add rfl rfl (by omega)) <| aI rfl <| RL.nil <| ?_
          refine ⟨k + 1, ?_, (((fr11.u4.u4.u4.u4.u4.u4.u4.u4.u4.u4.u4.u4.u4.u4.u4.u4.u4.u4.u4.u4.u4).t fr165 rfl)).u4.u4.u1.u1.u1, (hH165.sub (sQ (sQ sR))), (congrArg I (by rfl)), ?_, ?_, ?_⟩
          ·((try dsimp only); omega)
          ·omega
          ·omega
          ·exact fun i u v => if e : i = k then e ▸ (by exfalso; omega) else hg i u (by omega)
   ·refine CW.exit (id := 0) rfl <| SR <| va (v := B true) rfl <| RL.nil <| CW.ret <| outP1 Tryz.results31 (congrArg B ?_) hH11.below
    exact (right_y e1 e2 ‹¬ k < _› hg).symm
theorem c_clearancelaw18_Big (a : Asg) (hbd : ∀ r ∈ a.rows, r.l.length ≤ 1759218604390) (w : World) (ha : AsgV (Kw w) a) : Calls Tryz.prog 6 #[.agg (asgL a).toArray] w (Pure (B (bigA a)) w) := by
 have hm1 := ha.labels.small
 have hm2 := ha.rows.small
 unfold maxLen at hm1 hm2
 refine enter Tryz.func6 rfl Tryz.ntmps6 rfl <| have hH := Hp.start w; SR <| RL.new rfl hH (f := fun b => (.pointer (some ⟨b, 0, none⟩))) (run_box (v := .agg _) rfl) <| fun b3 w1 hH2 => va (v := B false) rfl <| RL.nil <| CW.seq <| SR <| V (fA underlying32 0 rfl sizeOf29 rfl) <| V (run_ldV (ha.labels.sl.hp hH2) underlying29 rfl rfl (hH2.cell (i := 0) rfl rfl)) <| V (run_lenSl (ha.labels.sl.hp hH2) rfl underlying29 rfl) <| V (run_gtr rfl rfl) <| mB rfl <| RL.splitP (dj := 12) rfl (fun h5 => ?_) (fun h5 => ?_)
 ·refine gF rfl (bT h5) <| gF rfl (bT h5) <| gF rfl (bT h5) <| gF rfl (bT h5) <| V (run_pickT (bT h5) (v := B true) rfl) <| RL.nil <| CW.condT rfl <| SR <| va (v := B true) rfl <| RL.nil <| CW.ret <| outP1 Tryz.results6 (congrArg B ?_) hH2.below
  (rw [bigA, decide_eq_true (by omega)]; rfl)
 ·refine gT rfl (bF h5) <| V (fA underlying32 1 rfl sizeOf30 rfl) <| gT rfl (bF h5) <| V (run_ldV (ha.rows.sl.hp hH2) underlying30 rfl rfl (hH2.cell (i := 0) rfl rfl)) <| gT rfl (bF h5) <| V (run_lenSl (ha.rows.sl.hp hH2) rfl underlying30 rfl) <| gT rfl (bF h5) <| V (run_gtr rfl rfl) <| V (run_pickF (bF h5) (v := B _) rfl) <| RL.nil <| CW.condP rfl (fun h7 => ?_) (fun h7 => ?_)
  ·refine SR <| va (v := B true) rfl <| RL.nil <| CW.ret <| outP1 Tryz.results6 (congrArg B ?_) hH2.below
   (rw [bigA, decide_eq_true (by omega)]; rfl)
  ·refine CW.skip <| SR <| va (v := I 0) rfl <| RL.nil <| CW.seq <| SR <| V (fA underlying32 1 rfl sizeOf30 rfl) <| V (run_ldV (ha.rows.sl.hp hH2) underlying30 rfl rfl (hH2.cell (i := 0) rfl rfl)) <| V (run_lenSl (ha.rows.sl.hp hH2) rfl underlying30 rfl) <| vm (v := I 0) rfl <| RL.nil <| CW.block <| have hno : ¬ (100 < a.labels.length ∨ 100 < a.rows.length) := (by omega); CW.loop (G := Int) (fun k s' w' => (Fr (2 :: 3 :: (5 :: (7 :: (rg 21 20 [])))) _ s') ∧ (Hp w w' _) ∧ (s' 3 = I (rsum (a.rows.take k.toNat))) ∧ (s' 21 = I k) ∧ (0 ≤ k) ∧ (k ≤ a.rows.length) ∧ (∀ i : Int, 0 ≤ i → i < k → bigR (a.rows.getD i.toNat vr0) = false)) (fun k => (a.rows.length - k).toNat) (0) ⟨Fr.refl _ _, hH2, rfl, rfl, (by omega), (by omega), fun j a b => absurd b (by omega)⟩ <| ?_
   rintro k sg8 w8 ⟨fr8, hH8, e3_8, e21_8, h0, hk, hg⟩
   have e19_8 := (fr8 19 rfl).trans (by conv => lhs; whnf)
   have e20_8 := fr8.ii 20 rfl rfl
   refine SR <| V (run_lss e21_8 e20_8) <| RL.nil <| CW.seq <| CW.condP rfl (fun h10 => ?_) (fun h10 => ?_)
   ·refine CW.skip <| CW.seq <| CW.block <| SR <| V (run_indexAddrS (ha.rows.sl.hp hH8) underlying30 sizeOf54 e19_8 e21_8 (by omega)) <| V (run_ld underlying54 rfl rfl ((ha.rows.sl.hp hH8).cell _ _ (rowsC_at (by omega)))) <| ?_
    refine V (run_assign (by conv => lhs; whnf)) ?_
    refine RL.nil <| SR <| vm e3_8 <| ?_
    refine V (run_move (by conv => lhs; whnf)) ?_
    refine V (run_lenSl ((ha.at (by omega) (by omega)).sl.hp hH8) rfl underlying54 rfl) <| V (run_add rfl rfl (by have hb2 := hbd _ (List.mem_of_getElem? (getD_at (d := vr0) h0 ‹k < _›)); have hb3 := rsum_bd hbd h0 (show k ≤ 100 by omega); omega)) <| aI rfl <| RL.nil <| SR <| ?_
    refine V (run_move (by conv => lhs; whnf)) ?_
    refine V (run_lenSl ((ha.at (by omega) (by omega)).sl.hp hH8) rfl underlying54 rfl) <| vm (v := I 0) rfl <| RL.nil <| CW.block <| have hm5 := (ha.at h0 (by omega)).small; ?_
    unfold maxLen at hm5
    refine CW.loop (G := Int) (fun q s' w' => (Fr (2 :: (7 :: (rg 31 9 []))) _ s') ∧ (Hp w w' _) ∧ (s' 31 = I q) ∧ (0 ≤ q) ∧ (q ≤ (a.rows.getD k.toNat vr0).l.length) ∧ (∀ i : Int, 0 ≤ i → i < q → bigNm ((a.rows.getD k.toNat vr0).l.getD i.toNat val0) = false)) (fun q => ((a.rows.getD k.toNat vr0).l.length - q).toNat) (0) ⟨Fr.refl _ _, hH8, rfl, (by omega), (by omega), fun j a b => absurd b (by omega)⟩ ?_
    rintro q sg11 w11 ⟨fr11, hH11, e31_11, q0, qk, hq⟩
    have e3_11 := fr11.ii 3 rfl rfl
    have e21_11 := (fr11 21 rfl).trans e21_8
    have e29_11 := (fr11 29 rfl).trans (by conv => lhs; whnf)
    have e30_11 := fr11.ii 30 rfl rfl
    refine SR <| V (run_lss e31_11 e30_11) <| RL.nil <| CW.seq <| CW.condP rfl (fun h13 => ?_) (fun h13 => ?_)
    ·refine CW.skip <| CW.seq <| CW.block <| SR <| V (run_indexAddrS ((ha.at (by omega) (by omega)).sl.hp hH11) underlying54 sizeOf56 e29_11 e31_11 (by omega)) <| V (run_ldE (dv := val0) valL_len ((ha.at (by omega) (by omega)).sl.hp hH11) underlying56 rfl rfl rfl (by omega)) <| RL.new rfl hH11 (f := fun b => (.pointer (some ⟨b, 0, none⟩))) (run_alloc zero_val) <| fun b16 w14 hH15 => RL.set hH15 (i := 0) rfl (run_stW (c' := (valL _).toArray) rfl rfl rfl (valL_one _) (hH15.blk (i := 0) rfl) rfl) <| fun w17 hH18 => ?_
     simp only [z2] at hH18
     refine RL.nil <| SR <| V (fA underlying56 0 rfl sizeOf9 rfl) <| V (run_ld underlying9 rfl rfl (hH18.cell (i := 0) rfl (v := .string _) rfl)) <| V (run_lenStr rfl underlying9 rfl) <| V (run_gtr rfl rfl) <| RL.nil <| CW.condP rfl (fun h20 => ?_) (fun h20 => ?_)
     ·refine SR <| va (v := B true) rfl <| RL.nil <| CW.ret <| outP1 Tryz.results6 (congrArg B ?_) hH18.below
      (rw [bigA, any_yes (d := vr0) (P := bigR) h0 ‹k < _› (any_yes (d := val0) (P := bigNm) q0 ‹q < _› (decide_eq_true (by omega)))]; simp; done)
     ·refine CW.skip <| CW.region <| V (run_add e31_11 rfl (by omega)) <| mI rfl <| RL.nil <| ?_
      refine ⟨q + 1, ?_, fr11.u4.u4.u1.u1, (hH18.sub (sQ sR)), (congrArg I (by rfl)), ?_, ?_, ?_⟩
      ·((try dsimp only); omega)
      ·omega
      ·omega
      ·exact fun i u v => if e : i = q then e ▸ decide_eq_false (by omega) else hq i u (by omega)
    ·refine CW.exit (id := 2) rfl <| CW.region <| V (run_add e21_11 rfl (by omega)) <| mI rfl <| RL.nil <| ?_
     refine ⟨k + 1, ?_, (((fr8.u4.u4.u4).t fr11 rfl)).u1.u1.u1, hH11, (Eq.trans e3_11 (congrArg I (rsum_next h0 ‹k < _›).symm)), (congrArg I (by rfl)), ?_, ?_, ?_⟩
     ·((try dsimp only); omega)
     ·omega
     ·omega
     ·exact fun i u v => if e : i = k then e ▸ any_no (d := val0) ‹¬ q < _› hq else hg i u (by omega)
   ·refine CW.exit (id := 0) rfl <| SR <| vm e3_8 <| V (run_gtr rfl rfl) <| aB rfl <| RL.nil <| CW.ret <| outP1 Tryz.results6 (congrArg B ?_) hH8.below
    (rw [bigA, decide_eq_false hno, any_no (d := vr0) (P := bigR) ‹¬ k < _› hg, rsum_all ‹¬ k < _›]; rfl)
end Go.Proofs.YtkdbiooamgnfmaaGreatDoor.W
