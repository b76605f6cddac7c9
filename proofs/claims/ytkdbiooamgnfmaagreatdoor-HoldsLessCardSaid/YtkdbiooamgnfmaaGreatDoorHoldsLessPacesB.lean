/-
  The walks of the functions that the laws of this seat reach, part 2: each returns what its plain counterpart tells, and turns nothing that was there.
-/
import Derived.Test.YtkdbiooamgnfmaaGreatDoorProg
import Derived.Test.YtkdbiooamgnfmaaGreatDoorEnv
import Derived.Test.YtkdbiooamgnfmaaGreatDoorPlain
import Derived.Test.YtkdbiooamgnfmaaGreatDoorBase
import Derived.Test.YtkdbiooamgnfmaaGreatDoorOrd
import Derived.Test.YtkdbiooamgnfmaaGreatDoorRel
import Derived.Test.YtkdbiooamgnfmaaGreatDoorClo
import Derived.Test.YtkdbiooamgnfmaaGreatDoorCov
import Derived.Test.YtkdbiooamgnfmaaGreatDoorArr
import Derived.Test.YtkdbiooamgnfmaaGreatDoorHas
import Derived.Test.YtkdbiooamgnfmaaGreatDoorGrd
import Derived.Test.YtkdbiooamgnfmaaGreatDoorStr
import Derived.Test.YtkdbiooamgnfmaaGreatDoorVu
import Derived.Test.YtkdbiooamgnfmaaGreatDoorShp
import Derived.Test.YtkdbiooamgnfmaaGreatDoorShl
import Derived.Test.YtkdbiooamgnfmaaGreatDoorShq
import Derived.Test.YtkdbiooamgnfmaaGreatDoorCut
import Derived.Test.YtkdbiooamgnfmaaGreatDoorRec
import Derived.Test.YtkdbiooamgnfmaaGreatDoorScp
import Derived.Test.YtkdbiooamgnfmaaGreatDoorNod
import Derived.Test.YtkdbiooamgnfmaaGreatDoorSpn
import Derived.Test.YtkdbiooamgnfmaaGreatDoorSpy
import Derived.Test.YtkdbiooamgnfmaaGreatDoorMk
import Derived.Test.YtkdbiooamgnfmaaGreatDoorAsn
import Derived.Test.YtkdbiooamgnfmaaGreatDoorAsr
import Derived.Test.YtkdbiooamgnfmaaGreatDoorAst
import Derived.Test.YtkdbiooamgnfmaaGreatDoorRgs
import Derived.Test.YtkdbiooamgnfmaaGreatDoorIns
import Derived.Test.YtkdbiooamgnfmaaGreatDoorCod
import Derived.Test.YtkdbiooamgnfmaaGreatDoorFit
import Derived.Test.YtkdbiooamgnfmaaGreatDoorRow
import Derived.Test.YtkdbiooamgnfmaaGreatDoorHol
import Derived.Test.YtkdbiooamgnfmaaGreatDoorGap
import Derived.Test.YtkdbiooamgnfmaaGreatDoorMap
import Derived.Test.YtkdbiooamgnfmaaGreatDoorExn
import Derived.Test.YtkdbiooamgnfmaaGreatDoorMin
import Derived.Test.YtkdbiooamgnfmaaGreatDoorHoldsLessPacesA
namespace Go.Proofs.YtkdbiooamgnfmaaGreatDoor.W
open Go Go.RowKit Go.Proofs.YtkdbiooamgnfmaaGreatDoor.E Go.Proofs.YtkdbiooamgnfmaaGreatDoor.M
set_option linter.unusedVariables false
set_option linter.unusedSimpArgs false
set_option maxRecDepth 100000
open Tryz
theorem c_clearanceref07_factor (f : Fac) (w : World) (hf : FacV (Kw w) f) : Calls Tryz.prog 64 #[.agg (facC f)] w (Pure (B (factorR f.fc)) w) := by
 have hm := hf.names.sl.small
 unfold maxLen at hm
 refine enter Tryz.func64 rfl Tryz.ntmps64 rfl <| have hH := Hp.start w; SR <| RL.new rfl hH (f := fun b => (.pointer (some ⟨b, 0, none⟩))) (run_box (v := .agg _) rfl) <| fun b3 w1 hH2 => va (v := B false) rfl <| RL.nil <| SR <| V (fA underlying62 1 rfl sizeOf57 rfl) <| V (run_ld underlying57 rfl rfl (hH2.cell (i := 0) rfl rfl)) <| V (run_lenSl (hf.names.sl.hp hH2) rfl underlying57 rfl) <| aI rfl <| RL.nil <| CW.seq <| SR <| mI rfl <| V (run_lss rfl rfl) <| mB rfl <| RL.splitP (dj := 10) rfl (fun h5 => ?_) (fun h5 => ?_)
 ·refine gF rfl (bT h5) <| gF rfl (bT h5) <| V (run_pickT (bT h5) (v := B true) rfl) <| mB rfl <| gF rfl rfl <| gF rfl rfl <| gF rfl rfl <| gF rfl rfl <| V (run_pickT rfl (v := B true) rfl) <| RL.nil <| CW.condT rfl <| SR <| va (v := B false) rfl <| RL.nil <| CW.ret <| outP1 Tryz.results64 (congrArg B ?_) hH2.below
  exact (fac_no (f := f.fc) (named_no1 (by show ¬ (1 ≤ f.names.length ∧ f.names.length ≤ 64); omega))).symm
 ·refine gT rfl (bF h5) <| mI rfl <| gT rfl (bF h5) <| V (run_gtr rfl rfl) <| V (run_pickF (bF h5) (v := B _) rfl) <| mB rfl <| RL.splitP (dj := 14) rfl (fun h7 => ?_) (fun h7 => ?_)
  ·refine gF rfl (bT h7) <| gF rfl (bT h7) <| gF rfl (bT h7) <| gF rfl (bT h7) <| V (run_pickT (bT h7) (v := B true) rfl) <| RL.nil <| CW.condT rfl <| SR <| va (v := B false) rfl <| RL.nil <| CW.ret <| outP1 Tryz.results64 (congrArg B ?_) hH2.below
   exact (fac_no (f := f.fc) (named_no1 (by show ¬ (1 ≤ f.names.length ∧ f.names.length ≤ 64); omega))).symm
  ·refine gT rfl (bF h7) <| V (fA underlying62 1 rfl sizeOf57 rfl) <| gT rfl (bF h7) <| V (run_ld underlying57 rfl rfl (hH2.cell (i := 0) rfl rfl)) <| gT rfl (bF h7) <| RL.callP rfl hH2 (c_clearanceref02_Twice _ _  _ (hf.names.sl.hp hH2)) (run_call1 call37 rfl) <| fun w8 hH9 => gT rfl (bF h7) <| V (run_geq rfl rfl) <| V (run_pickF (bF h7) (v := B _) rfl) <| RL.nil <| CW.condP rfl (fun h11 => ?_) (fun h11 => ?_)
   ·refine SR <| va (v := B false) rfl <| RL.nil <| CW.ret <| outP1 Tryz.results64 (congrArg B ?_) hH9.below
    exact (fac_no (f := f.fc) (named_no2 (by show ¬ twice f.names < 0; omega))).symm
   ·refine CW.skip <| CW.seq <| SR <| va (v := I 0) rfl <| RL.nil <| CW.block <| have hn1 : 1 ≤ f.names.length ∧ f.names.length ≤ 64 := (by omega); have hn2 : twice f.names < 0 := (by omega); CW.loop (G := Int) (fun k s' w' => (Fr (2 :: (4 :: (rg 20 12 []))) _ s') ∧ (Hp w w' _) ∧ (s' 4 = I k) ∧ (0 ≤ k) ∧ (k ≤ f.names.length) ∧ (∀ j : Int, 0 ≤ j → j < k → nameR (f.names.getD j.toNat tx0) = true)) (fun k => (f.names.length - k).toNat) (0) ⟨Fr.refl _ _, hH9, rfl, (by omega), (by omega), fun j a b => absurd b (by omega)⟩ <| ?_
    rintro k sg12 w12 ⟨fr12, hH12, e4_12, h0, hk, hg⟩
    have e1_12 := fr12.pp 1 rfl rfl
    have e3_12 := fr12.ii 3 rfl rfl
    refine CW.seq <| SR <| vm e4_12 <| vm e3_12 <| V (run_lss rfl rfl) <| RL.nil <| CW.condP rfl (fun h14 => ?_) (fun h14 => ?_)
    ·refine CW.skip <| CW.seq <| CW.block <| SR <| V (fA underlying62 1 rfl sizeOf57 e1_12) <| V (run_ld underlying57 rfl rfl (hH12.cell (i := 0) rfl rfl)) <| vm e4_12 <| V (run_indexAddrS (hf.names.sl.hp hH12) underlying57 sizeOf9 rfl rfl (by omega)) <| V (run_ld underlying9 rfl rfl ((hf.names.sl.hp hH12).cell _ _ (txL_at (by omega)))) <| RL.callP rfl hH12 (c_clearanceref02_Right _  _) (run_call1 call36 rfl) <| fun w15 hH16 => V (run_not rfl) <| RL.nil <| CW.cond rfl (fun h19 => ?_) (fun h19 => ?_)
     ·refine SR <| va (v := B false) rfl <| RL.nil <| CW.ret <| outP1 Tryz.results64 (congrArg B ?_) hH16.below
      exact (fac_no (f := f.fc) (named_no3 h0 ‹_› (nt ‹_›))).symm
     ·refine CW.skip <| CW.region <| vm e4_12 <| V (run_add rfl rfl (by omega)) <| aI rfl <| RL.nil <| ?_
      refine ⟨k + 1, ?_, fr12.u4.u4.u4.u1, hH16, (congrArg I (by rfl)), ?_, ?_, ?_⟩
      ·((try dsimp only); omega)
      ·omega
      ·omega
      ·exact fun j a b => if e : j = k then e ▸ nf ‹_› else hg j a (by omega)
    ·refine CW.exit (id := 0) rfl <| CW.seq <| SR <| V (fA underlying62 0 rfl sizeOf3 e1_12) <| V (run_ld underlying3 rfl rfl (hH12.cell (i := 0) rfl (v := I _) rfl)) <| V (run_eql rfl rfl) <| mB rfl <| RL.splitP (dj := 35) rfl (fun h21 => ?_) (fun h21 => ?_)
     ·refine gF rfl (bT h21) <| gF rfl (bT h21) <| gF rfl (bT h21) <| V (run_pickT (bT h21) (v := B true) rfl) <| RL.nil <| CW.condT rfl <| SR <| V (fA underlying62 2 rfl sizeOf60 e1_12) <| V (run_ldBR underlying60 rfl rfl rfl (hH12.blk (i := 0) rfl)) <| RL.callP rfl hH12 (c_clearanceref03_Points _  _) (run_call1 call84 rfl) <| fun w22 hH23 => V (run_eql rfl rfl) <| aB rfl <| RL.nil <| CW.ret <| outP1 Tryz.results64 (congrArg B ?_) hH23.below
      (have hny : namedF f.names = true := named_yes hn1 hn2 ‹¬ k < _› hg; exact (fac_12 (f := f.fc) hny (.inl ‹_›)).symm)
     ·refine gT rfl (bF h21) <| V (fA underlying62 0 rfl sizeOf3 e1_12) <| gT rfl (bF h21) <| V (run_ld underlying3 rfl rfl (hH12.cell (i := 0) rfl (v := I _) rfl)) <| gT rfl (bF h21) <| V (run_eql rfl rfl) <| V (run_pickF (bF h21) (v := B _) rfl) <| RL.nil <| CW.condP rfl (fun h26 => ?_) (fun h26 => ?_)
      ·refine SR <| V (fA underlying62 2 rfl sizeOf60 e1_12) <| V (run_ldBR underlying60 rfl rfl rfl (hH12.blk (i := 0) rfl)) <| RL.callP rfl hH12 (c_clearanceref03_Points _  _) (run_call1 call84 rfl) <| fun w27 hH28 => V (run_eql rfl rfl) <| aB rfl <| RL.nil <| CW.ret <| outP1 Tryz.results64 (congrArg B ?_) hH28.below
       (have hny : namedF f.names = true := named_yes hn1 hn2 ‹¬ k < _› hg; exact (fac_12 (f := f.fc) hny (.inr ‹_›)).symm)
      ·refine CW.skip <| CW.seq <| SR <| V (fA underlying62 0 rfl sizeOf3 e1_12) <| V (run_ld underlying3 rfl rfl (hH12.cell (i := 0) rfl (v := I _) rfl)) <| V (run_eql rfl rfl) <| RL.nil <| CW.condP rfl (fun h31 => ?_) (fun h31 => ?_)
       ·refine SR <| V (fA underlying62 2 rfl sizeOf60 e1_12) <| V (fA underlying60 0 rfl sizeOf3 rfl) <| V (run_ld underlying3 rfl rfl (hH12.cell (i := 0) rfl (v := I _) rfl)) <| vm e3_12 <| V (run_eql rfl rfl) <| mB rfl <| RL.splitP (dj := 52) rfl (fun h33 => ?_) (fun h33 => ?_)
        ·refine gT rfl (bT h33) <| V (fA underlying62 2 rfl sizeOf60 e1_12) <| gT rfl (bT h33) <| V (run_ldBR underlying60 rfl rfl rfl (hH12.blk (i := 0) rfl)) <| gT rfl (bT h33) <| RL.callP rfl hH12 (c_clearanceref05_Right _  _) (run_call1 call85 rfl) <| fun w34 hH35 => V (run_pickT (bT h33) (v := B _) rfl) <| aB rfl <| RL.nil <| CW.ret <| outP1 Tryz.results64 (congrArg B ?_) hH35.below
         (have hny : namedF f.names = true := named_yes hn1 hn2 ‹¬ k < _› hg; exact (fac_3y (f := f.fc) hny ‹_› ‹_›).symm)
        ·refine gF rfl (bF h33) <| gF rfl (bF h33) <| gF rfl (bF h33) <| V (run_pickF (bF h33) (v := B false) rfl) <| aB rfl <| RL.nil <| CW.ret <| outP1 Tryz.results64 (congrArg B ?_) hH12.below
         (have hny : namedF f.names = true := named_yes hn1 hn2 ‹¬ k < _› hg; exact (fac_3n (f := f.fc) ‹_› ‹_›).symm)
       ·refine CW.skip <| SR <| V (fA underlying62 0 rfl sizeOf3 e1_12) <| V (run_ld underlying3 rfl rfl (hH12.cell (i := 0) rfl (v := I _) rfl)) <| V (run_eql rfl rfl) <| mB rfl <| RL.splitP (dj := 60) rfl (fun h38 => ?_) (fun h38 => ?_)
        ·refine gT rfl (bT h38) <| V (fA underlying62 2 rfl sizeOf60 e1_12) <| gT rfl (bT h38) <| V (fA underlying60 0 rfl sizeOf3 rfl) <| gT rfl (bT h38) <| V (run_ld underlying3 rfl rfl (hH12.cell (i := 0) rfl (v := I _) rfl)) <| gT rfl (bT h38) <| vm e3_12 <| gT rfl (bT h38) <| V (run_eql rfl rfl) <| V (run_pickT (bT h38) (v := B _) rfl) <| mB rfl <| RL.splitP (dj := 67) rfl (fun h40 => ?_) (fun h40 => ?_)
         ·refine gT rfl (bT h40) <| V (fA underlying62 2 rfl sizeOf60 e1_12) <| gT rfl (bT h40) <| V (run_ldBR underlying60 rfl rfl rfl (hH12.blk (i := 0) rfl)) <| gT rfl (bT h40) <| RL.callP rfl hH12 (c_clearanceref06_Lattice _  _) (run_call1 call86 rfl) <| fun w41 hH42 => V (run_pickT (bT h40) (v := B _) rfl) <| aB rfl <| RL.nil <| CW.ret <| outP1 Tryz.results64 (congrArg B ?_) hH42.below
          (have hny : namedF f.names = true := named_yes hn1 hn2 ‹¬ k < _› hg; exact (fac_4y (f := f.fc) hny ‹_› ‹_›).symm)
         ·refine gF rfl (bF h40) <| gF rfl (bF h40) <| gF rfl (bF h40) <| V (run_pickF (bF h40) (v := B false) rfl) <| aB rfl <| RL.nil <| CW.ret <| outP1 Tryz.results64 (congrArg B ?_) hH12.below
          (have hny : namedF f.names = true := named_yes hn1 hn2 ‹¬ k < _› hg; exact (fac_4n (f := f.fc) ‹_› ‹_›).symm)
        ·refine gF rfl (bF h38) <| gF rfl (bF h38) <| gF rfl (bF h38) <| gF rfl (bF h38) <| gF rfl (bF h38) <| V (run_pickF (bF h38) (v := B false) rfl) <| mB rfl <| gF rfl rfl <| gF rfl rfl <| gF rfl rfl <| V (run_pickF rfl (v := B false) rfl) <| aB rfl <| RL.nil <| CW.ret <| outP1 Tryz.results64 (congrArg B ?_) hH12.below
         (have hny : namedF f.names = true := named_yes hn1 hn2 ‹¬ k < _› hg; exact (fac_x (f := f.fc) ‹_› ‹_› ‹_› ‹_›).symm)
theorem c_clearanceref07_Right (s : Shp) (w : World) (hs : ShpV (Kw w) s) : Calls Tryz.prog 35 #[.agg (shpC s)] w (Pure (B (shR s.sh)) w) := by
 have hsl := sh_len s
 have hm := hs.facs.sl.small
 unfold maxLen at hm
 refine enter Tryz.func35 rfl Tryz.ntmps35 rfl <| have hH := Hp.start w; SR <| RL.new rfl hH (f := fun b => (.pointer (some ⟨b, 0, none⟩))) (run_box (v := .agg _) rfl) <| fun b3 w1 hH2 => va (v := B false) rfl <| RL.nil <| CW.seq <| SR <| V (fA underlying65 1 rfl sizeOf63 rfl) <| V (run_ld underlying63 rfl rfl (hH2.cell (i := 0) rfl rfl)) <| V (run_lenSl (hs.facs.sl.hp hH2) rfl underlying63 rfl) <| V (run_lss rfl rfl) <| mB rfl <| RL.splitP (dj := 8) rfl (fun h5 => ?_) (fun h5 => ?_)
 ·refine gF rfl (bT h5) <| gF rfl (bT h5) <| gF rfl (bT h5) <| gF rfl (bT h5) <| V (run_pickT (bT h5) (v := B true) rfl) <| mB rfl <| gF rfl rfl <| gF rfl rfl <| gF rfl rfl <| gF rfl rfl <| RL.gU rfl rfl rfl <| RL.gU rfl rfl rfl <| RL.gU rfl rfl rfl <| RL.gU rfl rfl rfl <| gF rfl rfl <| V (run_pickT rfl (v := B true) rfl) <| RL.nil <| CW.condT rfl <| SR <| va (v := B false) rfl <| RL.nil <| CW.ret <| outP1 Tryz.results35 (congrArg B ?_) hH2.below
  exact (shR_no1 (by omega)).symm
 ·refine gT rfl (bF h5) <| V (fA underlying65 1 rfl sizeOf63 rfl) <| gT rfl (bF h5) <| V (run_ld underlying63 rfl rfl (hH2.cell (i := 0) rfl rfl)) <| gT rfl (bF h5) <| V (run_lenSl (hs.facs.sl.hp hH2) rfl underlying63 rfl) <| gT rfl (bF h5) <| V (run_gtr rfl rfl) <| V (run_pickF (bF h5) (v := B _) rfl) <| mB rfl <| RL.splitP (dj := 14) rfl (fun h7 => ?_) (fun h7 => ?_)
  ·refine gF rfl (bT h7) <| gF rfl (bT h7) <| gF rfl (bT h7) <| gF rfl (bT h7) <| RL.gU rfl rfl rfl <| RL.gU rfl rfl rfl <| RL.gU rfl rfl rfl <| RL.gU rfl rfl rfl <| gF rfl (bT h7) <| V (run_pickT (bT h7) (v := B true) rfl) <| RL.nil <| CW.condT rfl <| SR <| va (v := B false) rfl <| RL.nil <| CW.ret <| outP1 Tryz.results35 (congrArg B ?_) hH2.below
   exact (shR_no1 (by omega)).symm
  ·refine gT rfl (bF h7) <| V (fA underlying65 0 rfl sizeOf4 rfl) <| gT rfl (bF h7) <| V (run_ld underlying4 rfl rfl (hH2.cell (i := 0) rfl (v := B _) rfl)) <| gT rfl (bF h7) <| V (run_not rfl) <| gT rfl (bF h7) <| mB rfl <| RL.split (dj := 18) rfl (fun h10 => ?_) (fun h10 => ?_)
   ·refine gT rfl (bR (c := true) h10) <| V (fA underlying65 1 rfl sizeOf63 rfl) <| gT rfl (bR (c := true) h10) <| V (run_ld underlying63 rfl rfl (hH2.cell (i := 0) rfl rfl)) <| gT rfl (bR (c := true) h10) <| V (run_lenSl (hs.facs.sl.hp hH2) rfl underlying63 rfl) <| gT rfl (bR (c := true) h10) <| V (run_neq rfl rfl) <| gT rfl (bF h7) <| V (run_pickT (bR (c := true) h10) (v := B _) rfl) <| V (run_pickF (bF h7) (v := B _) rfl) <| RL.nil <| CW.condP rfl (fun h12 => ?_) (fun h12 => ?_)
    ·refine SR <| va (v := B false) rfl <| RL.nil <| CW.ret <| outP1 Tryz.results35 (congrArg B ?_) hH2.below
     exact (shR_no2 (by exact nt ‹_›) (by omega)).symm
    ·refine CW.skip <| CW.seq <| SR <| va (v := I 0) rfl <| RL.nil <| CW.block <| have hc2 : s.sh.tuple = true ∨ s.sh.facs.length = 1 := (by exact .inr (by omega)); have hc1 : 1 ≤ s.facs.length ∧ s.facs.length ≤ 8 := (by omega); CW.loop (G := Int) (fun k s' w' => (Fr (2 :: 3 :: (rg 25 14 [])) _ s') ∧ (Hp w w' _) ∧ (s' 3 = I k) ∧ (0 ≤ k) ∧ (k ≤ s.facs.length) ∧ (∀ j : Int, 0 ≤ j → j < k → factorR (s.facs.getD j.toNat fac0).fc = true)) (fun k => (s.facs.length - k).toNat) (0) ⟨Fr.refl _ _, hH2, rfl, (by omega), (by omega), fun j a b => absurd b (by omega)⟩ <| ?_
     rintro k sg13 w13 ⟨fr13, hH13, e3_13, h0, hk, hg⟩
     have e1_13 := fr13.pp 1 rfl rfl
     refine CW.seq <| SR <| vm e3_13 <| V (fA underlying65 1 rfl sizeOf63 e1_13) <| V (run_ld underlying63 rfl rfl (hH13.cell (i := 0) rfl rfl)) <| V (run_lenSl (hs.facs.sl.hp hH13) rfl underlying63 rfl) <| V (run_lss rfl rfl) <| RL.nil <| CW.condP rfl (fun h15 => ?_) (fun h15 => ?_)
     ·refine CW.skip <| CW.seq <| CW.block <| SR <| V (fA underlying65 1 rfl sizeOf63 e1_13) <| V (run_ld underlying63 rfl rfl (hH13.cell (i := 0) rfl rfl)) <| vm e3_13 <| V (run_indexAddrS (hs.facs.sl.hp hH13) underlying63 sizeOf62 rfl rfl (by omega)) <| V (run_ldE (dv := fac0) facL_len (hs.facs.sl.hp hH13) underlying62 rfl rfl rfl (by omega)) <| RL.callP rfl hH13 (c_clearanceref07_factor _  _ ((hs.at (by omega) (by omega)).mono hH13.kw)) (run_call1 call64 rfl) <| fun w16 hH17 => V (run_not rfl) <| RL.nil <| CW.cond rfl (fun h20 => ?_) (fun h20 => ?_)
      ·refine SR <| va (v := B false) rfl <| RL.nil <| CW.ret <| outP1 Tryz.results35 (congrArg B ?_) hH17.below
       exact (shR_no3 (k := k) h0 (by omega) (by rw [sh_get]; exact nt ‹_›)).symm
      ·refine CW.skip <| CW.region <| vm e3_13 <| V (run_add rfl rfl (by omega)) <| aI rfl <| RL.nil <| ?_
       refine ⟨k + 1, ?_, fr13.u4.u4.u4.u1.u1.u1, hH17, (congrArg I (by rfl)), ?_, ?_, ?_⟩
       ·((try dsimp only); omega)
       ·omega
       ·omega
       ·exact fun j a b => if e : j = k then e ▸ nf ‹_› else hg j a (by omega)
     ·refine CW.exit (id := 0) rfl <| SR <| va (v := B true) rfl <| RL.nil <| CW.ret <| outP1 Tryz.results35 (congrArg B ?_) hH13.below
      exact (shR_yes (k := k) (by omega) hc2 (by omega) fun j a b => by rw [sh_get]; exact hg j a b).symm
   ·refine gF rfl (bR (c := false) h10) <| gF rfl (bR (c := false) h10) <| gF rfl (bR (c := false) h10) <| gF rfl (bR (c := false) h10) <| gT rfl (bF h7) <| V (run_pickF (bR (c := false) h10) (v := B false) rfl) <| V (run_pickF (bF h7) (v := B _) rfl) <| RL.nil <| CW.condF rfl <| CW.skip <| CW.seq <| SR <| va (v := I 0) rfl <| RL.nil <| CW.block <| have hc2 : s.sh.tuple = true ∨ s.sh.facs.length = 1 := (by exact .inl (nf ‹(!s.tuple) = false›)); have hc1 : 1 ≤ s.facs.length ∧ s.facs.length ≤ 8 := (by omega); CW.loop (G := Int) (fun k s' w' => (Fr (2 :: 3 :: (rg 25 14 [])) _ s') ∧ (Hp w w' _) ∧ (s' 3 = I k) ∧ (0 ≤ k) ∧ (k ≤ s.facs.length) ∧ (∀ j : Int, 0 ≤ j → j < k → factorR (s.facs.getD j.toNat fac0).fc = true)) (fun k => (s.facs.length - k).toNat) (0) ⟨Fr.refl _ _, hH2, rfl, (by omega), (by omega), fun j a b => absurd b (by omega)⟩ <| ?_
    rintro k sg21 w21 ⟨fr21, hH21, e3_21, h0, hk, hg⟩
    have e1_21 := fr21.pp 1 rfl rfl
    refine CW.seq <| SR <| vm e3_21 <| V (fA underlying65 1 rfl sizeOf63 e1_21) <| V (run_ld underlying63 rfl rfl (hH21.cell (i := 0) rfl rfl)) <| V (run_lenSl (hs.facs.sl.hp hH21) rfl underlying63 rfl) <| V (run_lss rfl rfl) <| RL.nil <| CW.condP rfl (fun h23 => ?_) (fun h23 => ?_)
    ·refine CW.skip <| CW.seq <| CW.block <| SR <| V (fA underlying65 1 rfl sizeOf63 e1_21) <| V (run_ld underlying63 rfl rfl (hH21.cell (i := 0) rfl rfl)) <| vm e3_21 <| V (run_indexAddrS (hs.facs.sl.hp hH21) underlying63 sizeOf62 rfl rfl (by omega)) <| V (run_ldE (dv := fac0) facL_len (hs.facs.sl.hp hH21) underlying62 rfl rfl rfl (by omega)) <| RL.callP rfl hH21 (c_clearanceref07_factor _  _ ((hs.at (by omega) (by omega)).mono hH21.kw)) (run_call1 call64 rfl) <| fun w24 hH25 => V (run_not rfl) <| RL.nil <| CW.cond rfl (fun h28 => ?_) (fun h28 => ?_)
     ·refine SR <| va (v := B false) rfl <| RL.nil <| CW.ret <| outP1 Tryz.results35 (congrArg B ?_) hH25.below
      exact (shR_no3 (k := k) h0 (by omega) (by rw [sh_get]; exact nt ‹_›)).symm
     ·refine CW.skip <| CW.region <| vm e3_21 <| V (run_add rfl rfl (by omega)) <| aI rfl <| RL.nil <| ?_
      refine ⟨k + 1, ?_, fr21.u4.u4.u4.u1.u1.u1, hH25, (congrArg I (by rfl)), ?_, ?_, ?_⟩
      ·((try dsimp only); omega)
      ·omega
      ·omega
      ·exact fun j a b => if e : j = k then e ▸ nf ‹_› else hg j a (by omega)
    ·refine CW.exit (id := 0) rfl <| SR <| va (v := B true) rfl <| RL.nil <| CW.ret <| outP1 Tryz.results35 (congrArg B ?_) hH21.below
     exact (shR_yes (k := k) (by omega) hc2 (by omega) fun j a b => by rw [sh_get]; exact hg j a b).symm
theorem c_clearancelaw07_Big (s : Shp) (w : World) (hs : ShpV (Kw w) s) : Calls Tryz.prog 41 #[.agg (shpC s)] w (Pure (B (bigS s.sh)) w) := by
 have hsl := sh_len s
 have hm := hs.facs.sl.small
 unfold maxLen at hm
 refine enter Tryz.func41 rfl Tryz.ntmps41 rfl <| have hH := Hp.start w; SR <| RL.new rfl hH (f := fun b => (.pointer (some ⟨b, 0, none⟩))) (run_box (v := .agg _) rfl) <| fun b3 w1 hH2 => va (v := B false) rfl <| RL.nil <| CW.seq <| SR <| V (fA underlying65 1 rfl sizeOf63 rfl) <| V (run_ld underlying63 rfl rfl (hH2.cell (i := 0) rfl rfl)) <| V (run_lenSl (hs.facs.sl.hp hH2) rfl underlying63 rfl) <| V (run_gtr rfl rfl) <| RL.nil <| CW.condP rfl (fun h5 => ?_) (fun h5 => ?_)
 ·refine SR <| va (v := B true) rfl <| RL.nil <| CW.ret <| outP1 Tryz.results41 (congrArg B ?_) hH2.below
  exact (big_1 (s := s.sh) (by omega)).symm
 ·refine CW.skip <| CW.seq <| SR <| va (v := I 0) rfl <| RL.nil <| CW.block <| CW.loop (G := Int) (fun k s' w' => (Fr (rg 2 4 (rg 10 30 [])) _ s') ∧ (Hp w w' _) ∧ (s' 3 = I k) ∧ (0 ≤ k) ∧ (k ≤ s.facs.length) ∧ (∀ j : Int, 0 ≤ j → j < k → bigN (s.facs.getD j.toNat fac0).names = false)) (fun k => (s.facs.length - k).toNat) (0) ⟨Fr.refl _ _, hH2, rfl, (by omega), (by omega), fun j a b => absurd b (by omega)⟩ <| ?_
  rintro k sg6 w6 ⟨fr6, hH6, e3_6, h0, hk, hg⟩
  have e1_6 := fr6.pp 1 rfl rfl
  refine CW.seq <| SR <| vm e3_6 <| V (fA underlying65 1 rfl sizeOf63 e1_6) <| V (run_ld underlying63 rfl rfl (hH6.cell (i := 0) rfl rfl)) <| V (run_lenSl (hs.facs.sl.hp hH6) rfl underlying63 rfl) <| V (run_lss rfl rfl) <| RL.nil <| CW.condP rfl (fun h8 => ?_) (fun h8 => ?_)
  ·refine CW.skip <| CW.seq <| CW.block <| SR <| V (fA underlying65 1 rfl sizeOf63 e1_6) <| V (run_ld underlying63 rfl rfl (hH6.cell (i := 0) rfl rfl)) <| vm e3_6 <| V (run_indexAddrS (hs.facs.sl.hp hH6) underlying63 sizeOf62 rfl rfl (by omega)) <| V (run_ldE (dv := fac0) facL_len (hs.facs.sl.hp hH6) underlying62 rfl rfl rfl (by omega)) <| RL.new rfl hH6 (f := fun b => (.pointer (some ⟨b, 0, none⟩))) (run_alloc zero_fac) <| fun b11 w9 hH10 => RL.set hH10 (i := 0) rfl (run_stFac (hs.at (by omega) (by omega)) rfl rfl rfl (hH10.blk (i := 0) rfl)) <| fun w12 hH13 => ?_
   simp only [z2] at hH13
   refine RL.nil <| CW.seq <| SR <| V (fA underlying62 1 rfl sizeOf57 rfl) <| V (run_ld underlying57 rfl rfl (hH13.cell (i := 0) rfl rfl)) <| V (run_lenSl ((hs.at (by omega) (by omega)).names.sl.hp hH13) rfl underlying57 rfl) <| V (run_gtr rfl rfl) <| RL.nil <| CW.condP rfl (fun h15 => ?_) (fun h15 => ?_)
   ·refine SR <| va (v := B true) rfl <| RL.nil <| CW.ret <| outP1 Tryz.results41 (congrArg B ?_) hH13.below
    exact (big_2 (s := s.sh) (k := k) h0 (by omega) (by rw [sh_get]; (exact bigN_1 (by show 70 < (s.facs.getD k.toNat fac0).names.length; omega)))).symm
   ·refine CW.skip <| SR <| va (v := I 0) rfl <| RL.nil <| CW.block <| have hnb : (s.facs.getD k.toNat fac0).names.length ≤ 70 := (by omega); CW.loop (G := Int) (fun i s' w' => (Fr (2 :: (5 :: (rg 26 14 []))) _ s') ∧ (Hp w w' _) ∧ (s' 5 = I i) ∧ (0 ≤ i) ∧ (i ≤ (s.facs.getD k.toNat fac0).names.length) ∧ (∀ j : Int, 0 ≤ j → j < i → ¬ 40 < ((s.facs.getD k.toNat fac0).names.getD j.toNat tx0).size)) (fun i => ((s.facs.getD k.toNat fac0).names.length - i).toNat) (0) ⟨Fr.refl _ _, hH13, rfl, (by omega), (by omega), fun j a b => absurd b (by omega)⟩ <| ?_
    rintro i sg16 w16 ⟨fr16, hH16, e5_16, i0, i1, hn⟩
    have e3_16 := (fr16 3 rfl).trans e3_6
    have e4_16 := fr16.pp 4 rfl rfl
    refine CW.seq <| SR <| vm e5_16 <| V (fA underlying62 1 rfl sizeOf57 e4_16) <| V (run_ld underlying57 rfl rfl (hH16.cell (i := 0) rfl rfl)) <| V (run_lenSl ((hs.at (by omega) (by omega)).names.sl.hp hH16) rfl underlying57 rfl) <| V (run_lss rfl rfl) <| RL.nil <| CW.condP rfl (fun h18 => ?_) (fun h18 => ?_)
    ·refine CW.skip <| CW.seq <| CW.block <| SR <| V (fA underlying62 1 rfl sizeOf57 e4_16) <| V (run_ld underlying57 rfl rfl (hH16.cell (i := 0) rfl rfl)) <| vm e5_16 <| V (run_indexAddrS ((hs.at (by omega) (by omega)).names.sl.hp hH16) underlying57 sizeOf9 rfl rfl (by omega)) <| V (run_ld underlying9 rfl rfl (((hs.at (by omega) (by omega)).names.sl.hp hH16).cell _ _ (txL_at (by omega)))) <| V (run_lenStr rfl underlying9 rfl) <| V (run_gtr rfl rfl) <| RL.nil <| CW.condP rfl (fun h20 => ?_) (fun h20 => ?_)
     ·refine SR <| va (v := B true) rfl <| RL.nil <| CW.ret <| outP1 Tryz.results41 (congrArg B ?_) hH16.below
      exact (big_2 (s := s.sh) (k := k) h0 (by omega) (by rw [sh_get]; (exact bigN_2 i0 ‹_› (by show 40 < ((s.facs.getD k.toNat fac0).names.getD i.toNat tx0).size; omega)))).symm
     ·refine CW.skip <| CW.region <| vm e5_16 <| V (run_add rfl rfl (by omega)) <| aI rfl <| RL.nil <| ?_
      refine ⟨i + 1, ?_, fr16.u4.u4.u4.u1.u1.u1, hH16, (congrArg I (by rfl)), ?_, ?_, ?_⟩
      ·((try dsimp only); omega)
      ·omega
      ·omega
      ·exact fun j a b => if e : j = i then e ▸ (by omega) else hn j a (by omega)
    ·refine CW.exit (id := 2) rfl <| CW.region <| vm e3_16 <| V (run_add rfl rfl (by omega)) <| aI rfl <| RL.nil <| ?_
     refine ⟨k + 1, ?_, (((fr6.u4.u4.u4.u4).t fr16 rfl)).u4.u4, (hH16.sub (sQ sR)), (congrArg I (by rfl)), ?_, ?_, ?_⟩
     ·((try dsimp only); omega)
     ·omega
     ·omega
     ·exact fun j a b => if e : j = k then e ▸ bigN_no (by omega) ‹¬ i < _› hn else hg j a (by omega)
  ·refine CW.exit (id := 0) rfl <| SR <| va (v := B false) rfl <| RL.nil <| CW.ret <| outP1 Tryz.results41 (congrArg B ?_) hH6.below
   exact (big_no (s := s.sh) (k := k) (by omega) (by omega) fun j a b => by rw [sh_get]; exact hg j a b).symm
theorem c_assign_place (v : Value) (l : List ValR) (f : Tx) (w : World) (hs : Sl w v 9 l.length (l.flatMap valL)) : Calls Tryz.prog 42 #[v, S f] w (Pure (I (vfind l f)) w) := by
 have hm := hs.small
 unfold maxLen at hm
 refine enter Tryz.func42 rfl Tryz.ntmps42 rfl <| have hH := Hp.start w; SR <| va (v := I 0) rfl <| RL.nil <| CW.seq <| SR <| ?_
 refine V (run_move (by conv => lhs; whnf)) ?_
 refine V (run_lenSl (hs.hp hH) rfl underlying54 rfl) <| vm (v := I 0) rfl <| RL.nil <| CW.block <| CW.loop (G := Int) (fun k s' w' => (Fr (4 :: 5 :: (rg 8 12 [])) _ s') ∧ (Hp w w' _) ∧ (s' 8 = I k) ∧ (0 ≤ k) ∧ (k ≤ l.length) ∧ (∀ j : Int, 0 ≤ j → j < k → decide ((l.getD j.toNat val0).name = f) = false)) (fun k => (l.length - k).toNat) (0) ⟨Fr.refl _ _, hH, rfl, (by omega), (by omega), fun j a b => absurd b (by omega)⟩ <| ?_
 rintro k sg1 w1 ⟨fr1, hH1, e8_1, h0, hk, hg⟩
 have e0_1 := (fr1 0 rfl).trans (by conv => lhs; whnf)
 have e1_1 := fr1.ss 1 rfl rfl
 have e7_1 := fr1.ii 7 rfl rfl
 refine SR <| V (run_lss e8_1 e7_1) <| RL.nil <| CW.seq <| CW.condP rfl (fun h3 => ?_) (fun h3 => ?_)
 ·refine CW.skip <| CW.seq <| CW.block <| SR <| vm e8_1 <| aI rfl <| RL.nil <| SR <| vm e0_1 <| mI rfl <| V (run_indexAddrS (hs.hp hH1) underlying54 sizeOf56 rfl rfl (by omega)) <| V (fA underlying56 0 rfl sizeOf9 rfl) <| V (run_ldE1 (dv := val0) (off := 0) valL_len (hs.hp hH1) underlying9 rfl rfl (by omega) rfl) <| vm e1_1 <| V (run_eqlS rfl rfl) <| RL.nil <| CW.condP rfl (fun h5 => ?_) (fun h5 => ?_)
  ·refine SR <| mI rfl <| aI rfl <| RL.nil <| CW.ret <| outP1 Tryz.results42 (congrArg I ?_) hH1.below
   exact (find_yes h0 ‹_› (decide_eq_true ‹_›) hg).symm
  ·refine CW.skip <| CW.region <| V (run_add e8_1 rfl (by omega)) <| mI rfl <| RL.nil <| ?_
   refine ⟨k + 1, ?_, fr1.u4.u4.u4, hH1, (congrArg I (by rfl)), ?_, ?_, ?_⟩
   ·((try dsimp only); omega)
   ·omega
   ·omega
   ·exact fun j a b => if e : j = k then e ▸ decide_eq_false ‹_› else hg j a (by omega)
 ·refine CW.exit (id := 0) rfl <| SR <| va (v := I (-1)) rfl <| RL.nil <| CW.ret <| outP1 Tryz.results42 (congrArg I ?_) hH1.below
  exact (find_no fun j a b => hg j a (by omega)).symm
theorem c_assign_Get (v : Value) (l : List ValR) (f : Tx) (w : World) (hs : Sl w v 9 l.length (l.flatMap valL)) : Calls Tryz.prog 20 #[v, S f] w (Pure (.tuple #[.agg (elC (getF l f).1), B (getF l f).2]) w) := by
 have hm := hs.small
 unfold maxLen at hm
 have hvi := @vfind_in l f
 refine enter Tryz.func20 rfl Tryz.ntmps20 rfl <| have hH := Hp.start w; SR <| RL.new rfl hH (f := fun b => (.pointer (some ⟨b, 0, none⟩))) (run_alloc zero_el) <| fun b3 w1 hH2 => va (v := B false) rfl <| RL.nil <| SR <| ?_
 refine V (run_move (by conv => lhs; whnf)) ?_
 refine vm (v := .string _) rfl <| RL.callP rfl hH2 (c_assign_place _ _ _  _ (hs.hp hH2)) (run_call2 call42 rfl rfl) <| fun w4 hH5 => aI rfl <| RL.nil <| CW.seq <| SR <| mI rfl <| V (run_lss rfl rfl) <| RL.nil <| CW.condP rfl (fun h7 => ?_) (fun h7 => ?_)
 ·refine SR <| V (run_bld (vs := []) rfl (built_el0)) <| RL.set hH5 (i := 0) rfl (run_stEl rfl rfl rfl (hH5.blk (i := 0) rfl)) <| fun w8 hH9 => ?_
  simp only [z2] at hH9
  refine va (v := B false) rfl <| RL.nil <| CW.ret <| outCT Tryz.results20 rfl rfl hH9 (i := 0) rfl underlying39 rfl (by rw [elC_size]; rfl) ⟨?_, hH9.below⟩
  exact get_tn ‹_›
 ·refine CW.skip <| SR <| ?_
  refine V (run_move (by conv => lhs; whnf)) ?_
  refine mI rfl <| V (run_indexAddrS (hs.hp hH5) underlying54 sizeOf56 rfl rfl (by (have := hvi ‹_›; omega))) <| V (fA underlying56 1 rfl sizeOf39 rfl) <| V (run_ldVE (hs.hp hH5) underlying39 rfl rfl rfl (by (have := hvi ‹_›; omega))) <| RL.set hH5 (i := 0) rfl (run_stEl rfl rfl rfl (hH5.blk (i := 0) rfl)) <| fun w10 hH11 => ?_
  simp only [z2] at hH11
  refine va (v := B true) rfl <| RL.nil <| CW.ret <| outCT Tryz.results20 rfl rfl hH11 (i := 0) rfl underlying39 rfl (by rw [elC_size]; rfl) ⟨?_, hH11.below⟩
  exact get_ty ‹_›
theorem c_name_Less (a b : Tx) (w : World) : Calls Tryz.prog 68 #[S a, S b] w (Pure (B (lessT a b)) w) := by
 refine enter Tryz.func68 rfl Tryz.ntmps68 rfl <| have hH := Hp.start w; SR <| va (v := B false) rfl <| RL.nil <| SR <| vm (v := .string _) rfl <| vm (v := .string _) rfl <| V (run_lssS rfl rfl) <| aB rfl <| RL.nil <| CW.ret <| outP1 Tryz.results68 (congrArg B ?_) hH.below
 rfl
theorem c_assign_ordered (v : Value) (l : List ValR) (w : World) (hs : Sl w v 9 l.length (l.flatMap valL)) : Calls Tryz.prog 39 #[v] w (Pure (B (orderedF l)) w) := by
 have hm := hs.small
 unfold maxLen at hm
 refine enter Tryz.func39 rfl Tryz.ntmps39 rfl <| have hH := Hp.start w; SR <| va (v := B false) rfl <| RL.nil <| CW.seq <| SR <| ?_
 refine V (run_move (by conv => lhs; whnf)) ?_
 refine V (run_lenSl (hs.hp hH) rfl underlying54 rfl) <| vm (v := I 0) rfl <| RL.nil <| CW.block <| CW.loop (G := Int) (fun k s' w' => (Fr (rg 2 3 (rg 7 26 [])) _ s') ∧ (Hp w w' _) ∧ (s' 7 = I k) ∧ (0 ≤ k) ∧ (k ≤ l.length) ∧ (∀ j : Int, 0 ≤ j → j < k → (nameR (l.getD j.toNat val0).name && (decide (j ≤ 0) || lessT (l.getD (j - 1).toNat val0).name (l.getD j.toNat val0).name)) = true)) (fun k => (l.length - k).toNat) (0) ⟨Fr.refl _ _, hH, rfl, (by omega), (by omega), fun j a b => absurd b (by omega)⟩ <| ?_
 rintro k sg1 w1 ⟨fr1, hH1, e7_1, h0, hk, hg⟩
 have e0_1 := (fr1 0 rfl).trans (by conv => lhs; whnf)
 have e5_1 := (fr1 5 rfl).trans (by conv => lhs; whnf)
 have e6_1 := fr1.ii 6 rfl rfl
 refine SR <| V (run_lss e7_1 e6_1) <| RL.nil <| CW.seq <| CW.condP rfl (fun h3 => ?_) (fun h3 => ?_)
 ·refine CW.skip <| CW.seq <| CW.block <| SR <| vm e7_1 <| V (run_indexAddrS (hs.hp hH1) underlying54 sizeOf56 e5_1 e7_1 (by omega)) <| V (run_ldE (dv := val0) valL_len (hs.hp hH1) underlying56 rfl rfl rfl (by omega)) <| RL.new rfl hH1 (f := fun b => (.pointer (some ⟨b, 0, none⟩))) (run_alloc zero_val) <| fun b6 w4 hH5 => aI rfl <| RL.set hH5 (i := 0) rfl (run_stW (c' := (valL _).toArray) rfl rfl rfl (valL_one _) (hH5.blk (i := 0) rfl) rfl) <| fun w7 hH8 => ?_
  simp only [z2] at hH8
  refine RL.nil <| CW.seq <| CW.regionD (by kernel_rfl) hH8 <| fun w9 hH10 => AQ 0 rfl (hH10.sub sR) (fA underlying56 0 rfl sizeOf9 rfl) <| AT 1 rfl (hH10.sub sR) (fun w hS => run_ld underlying9 rfl rfl (hS.cell (i := 0) rfl (v := .string _) rfl)) <| A1 2 <| AO.callP rfl gnone rfl hH10 sR (c_name_Right _  _) (run_call1 call54 rfl) <| fun w11 hH12 => have zh12 := hH12.sub sR; AQ 3 rfl zh12 (run_not rfl) <| AQ 4 rfl zh12 (mV (B _) rfl) <| AN.split (dj := 16) rfl (fun h15 => ?_) (fun h15 => ?_)
  ·refine AK 5 rfl rfl (bR (c := true) h15) (hH12.sub sR) <| AK 6 rfl rfl (bR (c := true) h15) (hH12.sub sR) <| AK 7 rfl rfl (bR (c := true) h15) (hH12.sub sR) <| AU 8 rfl rfl rfl (hH12.sub sR) <| AU 9 rfl rfl rfl (hH12.sub sR) <| AU 10 rfl rfl rfl (hH12.sub sR) <| AU 11 rfl rfl rfl (hH12.sub sR) <| AU 12 rfl rfl rfl (hH12.sub sR) <| AU 13 rfl rfl rfl (hH12.sub sR) <| AU 14 rfl rfl rfl (hH12.sub sR) <| AU 15 rfl rfl rfl (hH12.sub sR) <| AU 16 rfl rfl rfl (hH12.sub sR) <| AU 17 rfl rfl rfl (hH12.sub sR) <| AK 18 rfl rfl (bR (c := true) h15) (hH12.sub sR) <| AQ 19 rfl zh12 (run_pickT (bR (c := true) h15) (v := B true) rfl) <| AD <| CW.condT rfl <| SR <| va (v := B false) rfl <| RL.nil <| CW.ret <| outP1 Tryz.results39 (congrArg B ?_) hH12.below
   exact (ordered_no1 h0 ‹k < _› (nt ‹(!nameR _) = true›)).symm
  ·refine AG 5 rfl rfl (bR (c := false) h15) (hH12.sub sR) (fun w hS => mV (I _) rfl) <| AG 6 rfl rfl (bR (c := false) h15) (hH12.sub sR) (fun w hS => run_gtr rfl rfl) <| AG 7 rfl rfl (bR (c := false) h15) (hH12.sub sR) (fun w hS => mV (B _) rfl) <| AN.splitP (dj := 19) rfl (fun h17 => ?_) (fun h17 => ?_)
   ·refine AG 8 rfl rfl (bT h17) (hH12.sub sR) (fun w hS => run_move e0_1) <| AG 9 rfl rfl (bT h17) (hH12.sub sR) (fun w hS => mV (I _) rfl) <| AG 10 rfl rfl (bT h17) (hH12.sub sR) (fun w hS => run_sub rfl rfl (by omega)) <| AG 11 rfl rfl (bT h17) (hH12.sub sR) (fun w hS => run_indexAddrS (hs.hp hS) underlying54 sizeOf56 rfl rfl (by omega)) <| AG 12 rfl rfl (bT h17) (hH12.sub sR) (fun w hS => fA underlying56 0 rfl sizeOf9 rfl) <| AG 13 rfl rfl (bT h17) (hH12.sub sR) (fun w hS => run_ldE1 (dv := val0) (off := 0) valL_len (hs.hp hS) underlying9 rfl rfl (by omega) rfl) <| AG 14 rfl rfl (bT h17) (hH12.sub sR) (fun w hS => fA underlying56 0 rfl sizeOf9 rfl) <| AG 15 rfl rfl (bT h17) (hH12.sub sR) (fun w hS => run_ld underlying9 rfl rfl (hS.cell (i := 0) rfl (v := .string _) rfl)) <| A1 16 <| AO.callP rfl (gsome rfl (bT h17)) rfl hH12 sR (c_name_Less _ _  _) (run_call2 call68 rfl rfl) <| fun w18 hH19 => AG 17 rfl rfl (bT h17) (hH19.sub sR) (fun w hS => run_not rfl) <| AG 18 rfl rfl (bR (c := false) h15) (hH19.sub sR) (fun w hS => run_pickT (bT h17) (v := B _) rfl) <| have zh19 := hH19.sub sR; AQ 19 rfl zh19 (run_pickF (bR (c := false) h15) (v := B _) rfl) <| AD <| CW.cond rfl (fun h22 => ?_) (fun h22 => ?_)
    ·refine SR <| va (v := B false) rfl <| RL.nil <| CW.ret <| outP1 Tryz.results39 (congrArg B ?_) hH19.below
     exact (ordered_no2 h0 ‹k < _› ‹0 < k› (nt ‹(!lessT _ _) = true›)).symm
    ·refine CW.skip <| CW.region <| V (run_add e7_1 rfl (by omega)) <| mI rfl <| RL.nil <| ?_
     refine ⟨k + 1, ?_, fr1.u4.u4.u4.u4.u4.u4.u4, (hH19.sub (sQ sR)), (congrArg I (by rfl)), ?_, ?_, ?_⟩
     ·((try dsimp only); omega)
     ·omega
     ·omega
     ·exact fun j a b => if e : j = k then e ▸ (by exact ord_y2 (nf ‹(!nameR _) = false›) (nf ‹(!lessT _ _) = false›)) else hg j a (by omega)
   ·refine AK 8 rfl rfl (bF h17) (hH12.sub sR) <| AK 9 rfl rfl (bF h17) (hH12.sub sR) <| AK 10 rfl rfl (bF h17) (hH12.sub sR) <| AK 11 rfl rfl (bF h17) (hH12.sub sR) <| AK 12 rfl rfl (bF h17) (hH12.sub sR) <| AK 13 rfl rfl (bF h17) (hH12.sub sR) <| AK 14 rfl rfl (bF h17) (hH12.sub sR) <| AK 15 rfl rfl (bF h17) (hH12.sub sR) <| AK 16 rfl rfl (bF h17) (hH12.sub sR) <| AK 17 rfl rfl (bF h17) (hH12.sub sR) <| AG 18 rfl rfl (bR (c := false) h15) (hH12.sub sR) (fun w hS => run_pickF (bF h17) (v := B false) rfl) <| AQ 19 rfl zh12 (run_pickF (bR (c := false) h15) (v := B _) rfl) <| AD <| CW.condF rfl <| CW.skip <| CW.region <| V (run_add e7_1 rfl (by omega)) <| mI rfl <| RL.nil <| ?_
    refine ⟨k + 1, ?_, fr1.u4.u4.u4.u4.u4.u4.u4, (hH12.sub (sQ sR)), (congrArg I (by rfl)), ?_, ?_, ?_⟩
    ·((try dsimp only); omega)
    ·omega
    ·omega
    ·exact fun j a b => if e : j = k then e ▸ (by exact ord_y1 (nf ‹_›) ‹¬ 0 < k›) else hg j a (by omega)
 ·refine CW.exit (id := 0) rfl <| SR <| va (v := B true) rfl <| RL.nil <| CW.ret <| outP1 Tryz.results39 (congrArg B ?_) hH1.below
  exact (ordered_yes ‹¬ k < _› hg).symm
theorem c_assign_fits (s : Shp) (v : Value) (l : List ValR) (w : World) (hs : Sl w v 9 l.length (l.flatMap valL)) (hsh : ShpV (Kw w) s) (hT : Tab w) : Calls Tryz.prog 40 #[.agg (shpC s), v] w (Pure (B (fitsF s.sh l)) w) := by
 have hm := hs.small
 unfold maxLen at hm
 refine enter Tryz.func40 rfl Tryz.ntmps40 rfl <| have hH := Hp.start w; SR <| RL.new rfl hH (f := fun b => (.pointer (some ⟨b, 0, none⟩))) (run_box (v := .agg _) rfl) <| fun b3 w1 hH2 => va (v := B false) rfl <| RL.nil <| CW.seq <| SR <| ?_
 refine V (run_move (by conv => lhs; whnf)) ?_
 refine V (run_lenSl (hs.hp hH2) rfl underlying54 rfl) <| vm (v := I 0) rfl <| RL.nil <| CW.block <| CW.loop (G := Int) (fun k s' w' => (Fr (4 :: (6 :: (rg 9 10 []))) _ s') ∧ (Hp w w' _) ∧ (s' 9 = I k) ∧ (0 ≤ k) ∧ (k ≤ l.length) ∧ (∀ j : Int, 0 ≤ j → j < k → fitsS s.sh (l.getD j.toNat val0).el = true)) (fun k => (l.length - k).toNat) (0) ⟨Fr.refl _ _, hH2, rfl, (by omega), (by omega), fun j a b => absurd b (by omega)⟩ <| ?_
 rintro k sg4 w4 ⟨fr4, hH4, e9_4, h0, hk, hg⟩
 have e2_4 := fr4.pp 2 rfl rfl
 have e7_4 := (fr4 7 rfl).trans (by conv => lhs; whnf)
 have e8_4 := fr4.ii 8 rfl rfl
 refine SR <| V (run_lss e9_4 e8_4) <| RL.nil <| CW.seq <| CW.condP rfl (fun h6 => ?_) (fun h6 => ?_)
 ·refine CW.skip <| CW.seq <| CW.block <| SR <| V (run_indexAddrS (hs.hp hH4) underlying54 sizeOf56 e7_4 e9_4 (by omega)) <| V (run_ldE (dv := val0) valL_len (hs.hp hH4) underlying56 rfl rfl rfl (by omega)) <| RL.new rfl hH4 (f := fun b => (.pointer (some ⟨b, 0, none⟩))) (run_alloc zero_val) <| fun b9 w7 hH8 => RL.set hH8 (i := 0) rfl (run_stW (c' := (valL _).toArray) rfl rfl rfl (valL_one _) (hH8.blk (i := 0) rfl) rfl) <| fun w10 hH11 => ?_
  simp only [z2] at hH11
  refine RL.nil <| SR <| V (run_ldA (cs := [B _, _]) underlying65 rfl rfl e2_4 (rangeAt_cells (hH11.blk (i := 1) rfl))) <| V (fA underlying56 1 rfl sizeOf39 rfl) <| V (run_ldVB underlying39 rfl rfl rfl (hH11.blk (i := 0) rfl)) <| RL.callP rfl hH11 (c_shape_Fits _ _  _ (hsh.mono hH11.kw) (hT.hp hH11)) (run_call2 call38 rfl rfl) <| fun w12 hH13 => V (run_not rfl) <| RL.nil <| CW.cond rfl (fun h16 => ?_) (fun h16 => ?_)
  ·refine SR <| va (v := B false) rfl <| RL.nil <| CW.ret <| outP1 Tryz.results40 (congrArg B ?_) hH13.below
   exact (fits_no h0 ‹k < _› (nt ‹_›)).symm
  ·refine CW.skip <| CW.region <| V (run_add e9_4 rfl (by omega)) <| mI rfl <| RL.nil <| ?_
   refine ⟨k + 1, ?_, fr4.u4.u4.u1.u1.u1, (hH13.sub (sQ sR)), (congrArg I (by rfl)), ?_, ?_, ?_⟩
   ·((try dsimp only); omega)
   ·omega
   ·omega
   ·exact fun j a b => if e : j = k then e ▸ nf ‹_› else hg j a (by omega)
 ·refine CW.exit (id := 0) rfl <| SR <| va (v := B true) rfl <| RL.nil <| CW.ret <| outP1 Tryz.results40 (congrArg B ?_) hH4.below
  exact (fits_all ‹¬ k < _› hg).symm
set_option maxHeartbeats 2000000 in
theorem c_assign_Right (s : Scp) (a : Asg) (w : World) (hs : ScpV (Kw w) s) (ha : AsgV (Kw w) a) (hT : Tab w) : Calls Tryz.prog 17 #[.agg (scpC s), .agg (asgL a).toArray] w (Pure (B (rightA s.sc a.as)) w) := by
 have hm1 := hs.lats.sl.small
 have hm2 := hs.vars.sl.small
 unfold maxLen at hm1 hm2
 have hm3 := ha.labels.small
 have hm4 := ha.rows.small
 unfold maxLen at hm3 hm4
 refine enter Tryz.func17 rfl Tryz.ntmps17 rfl <| have hH := Hp.start w; SR <| RL.new rfl hH (f := fun b => (.pointer (some ⟨b, 0, none⟩))) (run_box (v := .agg _) rfl) <| fun b3 w1 hH2 => RL.new rfl hH2 (f := fun b => (.pointer (some ⟨b, 0, none⟩))) (run_box (v := .agg _) rfl) <| fun b6 w4 hH5 => va (v := B false) rfl <| RL.nil <| CW.seq <| SR <| V (fA underlying32 0 rfl sizeOf29 rfl) <| V (run_ldV (ha.labels.sl.hp hH5) underlying29 rfl rfl (hH5.cell (i := 0) rfl rfl)) <| V (run_lenSl (ha.labels.sl.hp hH5) rfl underlying29 rfl) <| V (fA underlying25 1 rfl sizeOf23 rfl) <| V (run_ldV (hs.vars.sl.hp hH5) underlying23 rfl rfl (hH5.cell (i := 1) rfl rfl)) <| V (run_lenSl (hs.vars.sl.hp hH5) rfl underlying23 rfl) <| V (run_neq rfl rfl) <| mB rfl <| RL.splitP (dj := 15) rfl (fun h8 => ?_) (fun h8 => ?_)
 ·refine gF rfl (bT h8) <| gF rfl (bT h8) <| gF rfl (bT h8) <| gF rfl (bT h8) <| gF rfl (bT h8) <| gF rfl (bT h8) <| gF rfl (bT h8) <| V (run_pickT (bT h8) (v := B true) rfl) <| RL.nil <| CW.condT rfl <| SR <| va (v := B false) rfl <| RL.nil <| CW.ret <| outP1 Tryz.results17 (congrArg B ?_) hH5.below
  exact (right_1 (by omega)).symm
 ·refine gT rfl (bF h8) <| V (fA underlying32 1 rfl sizeOf30 rfl) <| gT rfl (bF h8) <| V (run_ldV (ha.rows.sl.hp hH5) underlying30 rfl rfl (hH5.cell (i := 0) rfl rfl)) <| gT rfl (bF h8) <| V (run_lenSl (ha.rows.sl.hp hH5) rfl underlying30 rfl) <| gT rfl (bF h8) <| V (fA underlying25 1 rfl sizeOf23 rfl) <| gT rfl (bF h8) <| V (run_ldV (hs.vars.sl.hp hH5) underlying23 rfl rfl (hH5.cell (i := 1) rfl rfl)) <| gT rfl (bF h8) <| V (run_lenSl (hs.vars.sl.hp hH5) rfl underlying23 rfl) <| gT rfl (bF h8) <| V (run_neq rfl rfl) <| V (run_pickF (bF h8) (v := B _) rfl) <| RL.nil <| CW.condP rfl (fun h10 => ?_) (fun h10 => ?_)
  ·refine SR <| va (v := B false) rfl <| RL.nil <| CW.ret <| outP1 Tryz.results17 (congrArg B ?_) hH5.below
   exact (right_2 (by omega)).symm
  ·refine CW.skip <| CW.seq <| SR <| V (fA underlying25 1 rfl sizeOf23 rfl) <| V (run_ldV (hs.vars.sl.hp hH5) underlying23 rfl rfl (hH5.cell (i := 1) rfl rfl)) <| V (run_lenSl (hs.vars.sl.hp hH5) rfl underlying23 rfl) <| vm (v := I 0) rfl <| RL.nil <| CW.block <| have e1 : (a.labels.length : Int) = s.vars.length := (by omega); have e2 : (a.rows.length : Int) = s.vars.length := (by omega); CW.loop (G := Int) (fun k s' w' => (Fr (rg 4 4 (rg 27 73 [])) _ s') ∧ (Hp w w' _) ∧ (s' 27 = I k) ∧ (0 ≤ k) ∧ (k ≤ s.vars.length) ∧ (∀ i : Int, 0 ≤ i → i < k → okG s a i = true)) (fun k => (s.vars.length - k).toNat) (0) ⟨Fr.refl _ _, hH5, rfl, (by omega), (by omega), fun j a b => absurd b (by omega)⟩ <| ?_
   rintro k sg11 w11 ⟨fr11, hH11, e27_11, h0, hk, hg⟩
   have e2_11 := fr11.pp 2 rfl rfl
   have e3_11 := fr11.pp 3 rfl rfl
   have e25_11 := (fr11 25 rfl).trans (by conv => lhs; whnf)
   have e26_11 := fr11.ii 26 rfl rfl
   refine SR <| V (run_lss e27_11 e26_11) <| RL.nil <| CW.seq <| CW.condP rfl (fun h13 => ?_) (fun h13 => ?_)
   ·refine CW.skip <| CW.seq <| CW.block <| SR <| vm e27_11 <| V (run_indexAddrS (hs.vars.sl.hp hH11) underlying23 sizeOf69 e25_11 e27_11 (by omega)) <| V (run_ldE (dv := var0) varL_len (hs.vars.sl.hp hH11) underlying69 rfl rfl rfl (by omega)) <| RL.new rfl hH11 (f := fun b => (.pointer (some ⟨b, 0, none⟩))) (run_alloc Tryz.zeroValue69) <| fun b16 w14 hH15 => aI rfl <| RL.set hH15 (i := 0) rfl (run_stW (c' := (varL _).toArray) rfl rfl rfl (by simp [varL, Value.oneCell']) (hH15.blk (i := 0) rfl) rfl) <| fun w17 hH18 => ?_
    simp only [z2] at hH18
    refine RL.nil <| CW.seq <| SR <| V (fA underlying69 2 rfl sizeOf3 rfl) <| V (run_ld underlying3 rfl rfl (hH18.cell (i := 0) rfl (v := I _) rfl)) <| V (run_lss rfl rfl) <| mB rfl <| RL.splitP (dj := 35) rfl (fun h20 => ?_) (fun h20 => ?_)
    ·refine gF rfl (bT h20) <| gF rfl (bT h20) <| gF rfl (bT h20) <| gF rfl (bT h20) <| gF rfl (bT h20) <| gF rfl (bT h20) <| V (run_pickT (bT h20) (v := B true) rfl) <| RL.nil <| CW.condT rfl <| SR <| va (v := B false) rfl <| RL.nil <| CW.ret <| outP1 Tryz.results17 (congrArg B ?_) hH18.below
     exact (right_3 h0 ‹k < _› (ok_n0 (by omega))).symm
    ·refine gT rfl (bF h20) <| V (fA underlying69 2 rfl sizeOf3 rfl) <| gT rfl (bF h20) <| V (run_ld underlying3 rfl rfl (hH18.cell (i := 0) rfl (v := I _) rfl)) <| gT rfl (bF h20) <| V (fA underlying25 0 rfl sizeOf22 e2_11) <| gT rfl (bF h20) <| V (run_ldV (hs.lats.sl.hp hH18) underlying22 rfl rfl (hH18.cell (i := 2) rfl rfl)) <| gT rfl (bF h20) <| V (run_lenSl (hs.lats.sl.hp hH18) rfl underlying22 rfl) <| gT rfl (bF h20) <| V (run_geq rfl rfl) <| V (run_pickF (bF h20) (v := B _) rfl) <| RL.nil <| CW.condP rfl (fun h22 => ?_) (fun h22 => ?_)
     ·refine SR <| va (v := B false) rfl <| RL.nil <| CW.ret <| outP1 Tryz.results17 (congrArg B ?_) hH18.below
      exact (right_3 h0 ‹k < _› (ok_n0 (by omega))).symm
     ·refine CW.skip <| SR <| V (fA underlying25 0 rfl sizeOf22 e2_11) <| V (run_ldV (hs.lats.sl.hp hH18) underlying22 rfl rfl (hH18.cell (i := 2) rfl rfl)) <| V (fA underlying69 2 rfl sizeOf3 rfl) <| V (run_ld underlying3 rfl rfl (hH18.cell (i := 0) rfl (v := I _) rfl)) <| V (run_indexAddrS (hs.lats.sl.hp hH18) underlying22 sizeOf67 rfl rfl (by omega)) <| V (fA underlying67 1 rfl sizeOf65 rfl) <| V (run_ldEA (dv := lat0) (off := 1) (cs := shpL _) latL_len (hs.lats.sl.hp hH18) underlying65 rfl rfl rfl (by omega) (lat_shp _)) <| RL.new rfl hH18 (f := fun b => (.pointer (some ⟨b, 0, none⟩))) (run_alloc Tryz.zeroValue65) <| fun b25 w23 hH24 => RL.set hH24 (i := 0) rfl (run_stShp (hs.at (by omega) (by omega)) rfl rfl rfl (hH24.blk (i := 0) rfl) rfl) <| fun w26 hH27 => ?_
      simp only [z2] at hH27
      refine RL.nil <| SR <| V (fA underlying69 1 rfl sizeOf3 rfl) <| V (run_ld underlying3 rfl rfl (hH27.cell (i := 1) rfl (v := I _) rfl)) <| RL.nil <| CW.block <| SR <| V (run_eql rfl rfl) <| aB rfl <| RL.nil <| CW.condP rfl (fun h29 => ?_) (fun h29 => ?_)
      ·refine CW.seq <| CW.regionD (by kernel_rfl) hH27 <| fun w30 hH31 => have zh31 := hH31.sub sR; AQ 0 rfl zh31 (fA underlying32 1 rfl sizeOf30 e3_11) <| AT 1 rfl zh31 (fun w hS => run_ldV (ha.rows.sl.hp hS) underlying30 rfl rfl (hS.cell (i := 2) rfl rfl)) <| AQ 2 rfl zh31 (mV (I _) rfl) <| AT 3 rfl zh31 (fun w hS => run_indexAddrS (ha.rows.sl.hp hS) underlying30 sizeOf54 rfl rfl (by omega)) <| AT 4 rfl zh31 (fun w hS => run_ld underlying54 rfl rfl ((ha.rows.sl.hp hS).cell _ _ (rowsC_at (by omega)))) <| AT 5 rfl zh31 (fun w hS => run_lenSl ((ha.at (by omega) (by omega)).sl.hp hS) rfl underlying54 rfl) <| AQ 6 rfl zh31 (run_gtr rfl rfl) <| AQ 7 rfl zh31 (mV (B _) rfl) <| AN.splitP (dj := 61) rfl (fun h33 => ?_) (fun h33 => ?_)
       ·refine AK 8 rfl rfl (bT h33) (hH31.sub sR) <| AK 9 rfl rfl (bT h33) (hH31.sub sR) <| AK 10 rfl rfl (bT h33) (hH31.sub sR) <| AK 11 rfl rfl (bT h33) (hH31.sub sR) <| AK 12 rfl rfl (bT h33) (hH31.sub sR) <| AK 13 rfl rfl (bT h33) (hH31.sub sR) <| AK 14 rfl rfl (bT h33) (hH31.sub sR) <| AK 15 rfl rfl (bT h33) (hH31.sub sR) <| AQ 16 rfl zh31 (run_pickT (bT h33) (v := B true) rfl) <| AD <| CW.condT rfl <| SR <| va (v := B false) rfl <| RL.nil <| CW.ret <| outP1 Tryz.results17 (congrArg B ?_) hH31.below
        exact (right_3 h0 ‹k < _› (ok_1a (by omega) (by omega))).symm
       ·refine AG 8 rfl rfl (bF h33) (hH31.sub sR) (fun w hS => run_ldA (cs := [B _, _]) underlying65 rfl rfl rfl (rangeAt_cells (hS.blk (i := 0) rfl))) <| AG 9 rfl rfl (bF h33) (hH31.sub sR) (fun w hS => fA underlying32 0 rfl sizeOf29 e3_11) <| AG 10 rfl rfl (bF h33) (hH31.sub sR) (fun w hS => run_ldV (ha.labels.sl.hp hS) underlying29 rfl rfl (hS.cell (i := 2) rfl rfl)) <| AG 11 rfl rfl (bF h33) (hH31.sub sR) (fun w hS => mV (I _) rfl) <| AG 12 rfl rfl (bF h33) (hH31.sub sR) (fun w hS => run_indexAddrS (ha.labels.sl.hp hS) underlying29 sizeOf39 rfl rfl (by omega)) <| AG 13 rfl rfl (bF h33) (hH31.sub sR) (fun w hS => run_ldElS (ha.labels.sl.hp hS) underlying39 rfl rfl rfl (by omega)) <| A1 14 <| AO.callP rfl (gsome rfl (bF h33)) rfl hH31 sR (c_shape_Fits _ _  _ ((hs.at (by omega) (by omega)).mono hH31.kw) (hT.hp hH31)) (run_call2 call38 rfl rfl) <| fun w34 hH35 => AG 15 rfl rfl (bF h33) (hH35.sub sR) (fun w hS => run_not rfl) <| AQ 16 rfl (hH35.sub sR) (run_pickF (bF h33) (v := B _) rfl) <| AD <| CW.cond rfl (fun h38 => ?_) (fun h38 => ?_)
        ·refine SR <| va (v := B false) rfl <| RL.nil <| CW.ret <| outP1 Tryz.results17 (congrArg B ?_) hH35.below
         exact (right_3 h0 ‹k < _› (ok_1b (by omega) (nt ‹(!fitsS _ _) = true›))).symm
        ·refine CW.skip <| CW.region <| V (run_add e27_11 rfl (by omega)) <| mI rfl <| RL.nil <| ?_
         refine ⟨k + 1, ?_, fr11.u4.u4.u4.u4.u4.u4.u4.u4.u4.u4.u4.u4, (hH35.sub (sQ (sQ sR))), (congrArg I (by rfl)), ?_, ?_, ?_⟩
         ·((try dsimp only); omega)
         ·omega
         ·omega
         ·exact fun i u v => if e : i = k then e ▸ (by exact ok_y1 ⟨by omega, by omega⟩ (by omega) (by omega) (nf ‹(!fitsS _ _) = false›)) else hg i u (by omega)
      ·refine SR <| V (run_eql rfl rfl) <| aB rfl <| RL.nil <| CW.condP rfl (fun h40 => ?_) (fun h40 => ?_)
       ·refine CW.seq <| CW.regionD (by kernel_rfl) hH27 <| fun w41 hH42 => have zh42 := hH42.sub sR; AQ 0 rfl zh42 (fA underlying32 0 rfl sizeOf29 e3_11) <| AT 1 rfl zh42 (fun w hS => run_ldV (ha.labels.sl.hp hS) underlying29 rfl rfl (hS.cell (i := 2) rfl rfl)) <| AQ 2 rfl zh42 (mV (I _) rfl) <| AT 3 rfl zh42 (fun w hS => run_indexAddrS (ha.labels.sl.hp hS) underlying29 sizeOf39 rfl rfl (by omega)) <| AT 4 rfl zh42 (fun w hS => run_ldElS (ha.labels.sl.hp hS) underlying39 rfl rfl rfl (by omega)) <| AQ 5 rfl zh42 (run_bld (vs := []) rfl (built_el0)) <| AQ 6 rfl zh42 (run_neqEl elT_fact rfl rfl) <| AQ 7 rfl zh42 (mV (B _) rfl) <| AN.split (dj := 80) rfl (fun h44 => ?_) (fun h44 => ?_)
        ·refine AK 8 rfl rfl (bR (c := true) h44) (hH42.sub sR) <| AK 9 rfl rfl (bR (c := true) h44) (hH42.sub sR) <| AK 10 rfl rfl (bR (c := true) h44) (hH42.sub sR) <| AK 11 rfl rfl (bR (c := true) h44) (hH42.sub sR) <| AK 12 rfl rfl (bR (c := true) h44) (hH42.sub sR) <| AK 13 rfl rfl (bR (c := true) h44) (hH42.sub sR) <| AK 14 rfl rfl (bR (c := true) h44) (hH42.sub sR) <| AQ 15 rfl zh42 (run_pickT (bR (c := true) h44) (v := B true) rfl) <| AQ 16 rfl zh42 (mV (B _) rfl) <| AK 17 rfl rfl rfl (hH42.sub sR) <| AK 18 rfl rfl rfl (hH42.sub sR) <| AK 19 rfl rfl rfl (hH42.sub sR) <| AK 20 rfl rfl rfl (hH42.sub sR) <| AK 21 rfl rfl rfl (hH42.sub sR) <| AK 22 rfl rfl rfl (hH42.sub sR) <| AK 23 rfl rfl rfl (hH42.sub sR) <| AK 24 rfl rfl rfl (hH42.sub sR) <| AQ 25 rfl zh42 (run_pickT rfl (v := B true) rfl) <| AD <| CW.condT rfl <| SR <| va (v := B false) rfl <| RL.nil <| CW.ret <| outP1 Tryz.results17 (congrArg B ?_) hH42.below
         exact (right_3 h0 ‹k < _› (ok_2a (by omega) (nt ‹(!decide (eqE _ _)) = true›))).symm
        ·refine AG 8 rfl rfl (bR (c := false) h44) (hH42.sub sR) (fun w hS => fA underlying32 1 rfl sizeOf30 e3_11) <| AG 9 rfl rfl (bR (c := false) h44) (hH42.sub sR) (fun w hS => run_ldV (ha.rows.sl.hp hS) underlying30 rfl rfl (hS.cell (i := 2) rfl rfl)) <| AG 10 rfl rfl (bR (c := false) h44) (hH42.sub sR) (fun w hS => mV (I _) rfl) <| AG 11 rfl rfl (bR (c := false) h44) (hH42.sub sR) (fun w hS => run_indexAddrS (ha.rows.sl.hp hS) underlying30 sizeOf54 rfl rfl (by omega)) <| AG 12 rfl rfl (bR (c := false) h44) (hH42.sub sR) (fun w hS => run_ld underlying54 rfl rfl ((ha.rows.sl.hp hS).cell _ _ (rowsC_at (by omega)))) <| A1 13 <| AO.callP rfl (gsome rfl (bR (c := false) h44)) rfl hH42 sR (c_assign_ordered _ _  _ ((ha.at (by omega) (by omega)).sl.hp hH42)) (run_call1 call39 rfl) <| fun w45 hH46 => AG 14 rfl rfl (bR (c := false) h44) (hH46.sub sR) (fun w hS => run_not rfl) <| have zh46 := hH46.sub sR; AQ 15 rfl zh46 (run_pickF (bR (c := false) h44) (v := B _) rfl) <| AQ 16 rfl zh46 (mV (B _) rfl) <| AN.split (dj := 89) rfl (fun h49 => ?_) (fun h49 => ?_)
         ·refine AK 17 rfl rfl (bR (c := true) h49) (hH46.sub sR) <| AK 18 rfl rfl (bR (c := true) h49) (hH46.sub sR) <| AK 19 rfl rfl (bR (c := true) h49) (hH46.sub sR) <| AK 20 rfl rfl (bR (c := true) h49) (hH46.sub sR) <| AK 21 rfl rfl (bR (c := true) h49) (hH46.sub sR) <| AK 22 rfl rfl (bR (c := true) h49) (hH46.sub sR) <| AK 23 rfl rfl (bR (c := true) h49) (hH46.sub sR) <| AK 24 rfl rfl (bR (c := true) h49) (hH46.sub sR) <| AQ 25 rfl zh46 (run_pickT (bR (c := true) h49) (v := B true) rfl) <| AD <| CW.condT rfl <| SR <| va (v := B false) rfl <| RL.nil <| CW.ret <| outP1 Tryz.results17 (congrArg B ?_) hH46.below
          exact (right_3 h0 ‹k < _› (ok_2b (by omega) (nt ‹(!orderedF _) = true›))).symm
         ·refine AG 17 rfl rfl (bR (c := false) h49) (hH46.sub sR) (fun w hS => run_ldA (cs := [B _, _]) underlying65 rfl rfl rfl (rangeAt_cells (hS.blk (i := 0) rfl))) <| AG 18 rfl rfl (bR (c := false) h49) (hH46.sub sR) (fun w hS => fA underlying32 1 rfl sizeOf30 e3_11) <| AG 19 rfl rfl (bR (c := false) h49) (hH46.sub sR) (fun w hS => run_ldV (ha.rows.sl.hp hS) underlying30 rfl rfl (hS.cell (i := 2) rfl rfl)) <| AG 20 rfl rfl (bR (c := false) h49) (hH46.sub sR) (fun w hS => mV (I _) rfl) <| AG 21 rfl rfl (bR (c := false) h49) (hH46.sub sR) (fun w hS => run_indexAddrS (ha.rows.sl.hp hS) underlying30 sizeOf54 rfl rfl (by omega)) <| AG 22 rfl rfl (bR (c := false) h49) (hH46.sub sR) (fun w hS => run_ld underlying54 rfl rfl ((ha.rows.sl.hp hS).cell _ _ (rowsC_at (by omega)))) <| A1 23 <| AO.callP rfl (gsome rfl (bR (c := false) h49)) rfl hH46 sR (c_assign_fits _ _ _  _ ((ha.at (by omega) (by omega)).sl.hp hH46) ((hs.at (by omega) (by omega)).mono hH46.kw) (hT.hp hH46)) (run_call2 call40 rfl rfl) <| fun w50 hH51 => AG 24 rfl rfl (bR (c := false) h49) (hH51.sub sR) (fun w hS => run_not rfl) <| AQ 25 rfl (hH51.sub sR) (run_pickF (bR (c := false) h49) (v := B _) rfl) <| AD <| CW.cond rfl (fun h54 => ?_) (fun h54 => ?_)
          ·refine SR <| va (v := B false) rfl <| RL.nil <| CW.ret <| outP1 Tryz.results17 (congrArg B ?_) hH51.below
           exact (right_3 h0 ‹k < _› (ok_2c (by omega) (nt ‹(!fitsF _ _) = true›))).symm
          ·refine CW.skip <| CW.region <| V (run_add e27_11 rfl (by omega)) <| mI rfl <| RL.nil <| ?_
           refine ⟨k + 1, ?_, fr11.u4.u4.u4.u4.u4.u4.u4.u4.u4.u4.u4.u4.u4.u4.u1.u1.u1, (hH51.sub (sQ (sQ sR))), (congrArg I (by rfl)), ?_, ?_, ?_⟩
           ·((try dsimp only); omega)
           ·omega
           ·omega
           ·exact fun i u v => if e : i = k then e ▸ (by exact ok_y2 ⟨by omega, by omega⟩ (by omega) (nf ‹(!decide (eqE _ _)) = false›) (nf ‹(!orderedF _) = false›) (nf ‹(!fitsF _ _) = false›)) else hg i u (by omega)
       ·refine SR <| va (v := B false) rfl <| RL.nil <| CW.ret <| outP1 Tryz.results17 (congrArg B ?_) hH27.below
        exact (right_3 h0 ‹k < _› (ok_x (by omega) (by omega))).symm
   ·refine CW.exit (id := 0) rfl <| SR <| va (v := B true) rfl <| RL.nil <| CW.ret <| outP1 Tryz.results17 (congrArg B ?_) hH11.below
    exact (right_y e1 e2 ‹¬ k < _› hg).symm
theorem c_clearancelaw18_Big (a : Asg) (hbd : ∀ r ∈ a.rows, r.l.length ≤ 1759218604390) (w : World) (ha : AsgV (Kw w) a) : Calls Tryz.prog 6 #[.agg (asgL a).toArray] w (Pure (B (bigA a)) w) := by
 have hm1 := ha.labels.small
 have hm2 := ha.rows.small
 unfold maxLen at hm1 hm2
 refine enter Tryz.func6 rfl Tryz.ntmps6 rfl <| have hH := Hp.start w; SR <| RL.new rfl hH (f := fun b => (.pointer (some ⟨b, 0, none⟩))) (run_box (v := .agg _) rfl) <| fun b3 w1 hH2 => va (v := B false) rfl <| RL.nil <| CW.seq <| SR <| V (fA underlying32 0 rfl sizeOf29 rfl) <| V (run_ldV (ha.labels.sl.hp hH2) underlying29 rfl rfl (hH2.cell (i := 0) rfl rfl)) <| V (run_lenSl (ha.labels.sl.hp hH2) rfl underlying29 rfl) <| V (run_gtr rfl rfl) <| mB rfl <| RL.splitP (dj := 12) rfl (fun h5 => ?_) (fun h5 => ?_)
 ·refine gF rfl (bT h5) <| gF rfl (bT h5) <| gF rfl (bT h5) <| gF rfl (bT h5) <| V (run_pickT (bT h5) (v := B true) rfl) <| RL.nil <| CW.condT rfl <| SR <| va (v := B true) rfl <| RL.nil <| CW.ret <| outP1 Tryz.results6 (congrArg B ?_) hH2.below
  (rw [bigA, decide_eq_true (by omega)]; rfl)
 ·refine gT rfl (bF h5) <| V (fA underlying32 1 rfl sizeOf30 rfl) <| gT rfl (bF h5) <| V (run_ldV (ha.rows.sl.hp hH2) underlying30 rfl rfl (hH2.cell (i := 0) rfl rfl)) <| gT rfl (bF h5) <| V (run_lenSl (ha.rows.sl.hp hH2) rfl underlying30 rfl) <| gT rfl (bF h5) <| V (run_gtr rfl rfl) <| V (run_pickF (bF h5) (v := B _) rfl) <| RL.nil <| CW.condP rfl (fun h7 => ?_) (fun h7 => ?_)
  ·refine SR <| va (v := B true) rfl <| RL.nil <| CW.ret <| outP1 Tryz.results6 (congrArg B ?_) hH2.below
   (rw [bigA, decide_eq_true (by omega)]; rfl)
  ·refine CW.skip <| SR <| va (v := I 0) rfl <| RL.nil <| CW.seq <| SR <| V (fA underlying32 1 rfl sizeOf30 rfl) <| V (run_ldV (ha.rows.sl.hp hH2) underlying30 rfl rfl (hH2.cell (i := 0) rfl rfl)) <| V (run_lenSl (ha.rows.sl.hp hH2) rfl underlying30 rfl) <| vm (v := I 0) rfl <| RL.nil <| CW.block <| have hno : ¬ (100 < a.labels.length ∨ 100 < a.rows.length) := (by omega); CW.loop (G := Int) (fun k s' w' => (Fr (2 :: 3 :: (5 :: (7 :: (rg 21 20 [])))) _ s') ∧ (Hp w w' _) ∧ (s' 3 = I (rsum (a.rows.take k.toNat))) ∧ (s' 21 = I k) ∧ (0 ≤ k) ∧ (k ≤ a.rows.length) ∧ (∀ i : Int, 0 ≤ i → i < k → bigR (a.rows.getD i.toNat vr0) = false)) (fun k => (a.rows.length - k).toNat) (0) ⟨Fr.refl _ _, hH2, rfl, rfl, (by omega), (by omega), fun j a b => absurd b (by omega)⟩ <| ?_
   rintro k sg8 w8 ⟨fr8, hH8, e3_8, e21_8, h0, hk, hg⟩
   have e19_8 := (fr8 19 rfl).trans (by conv => lhs; whnf)
   have e20_8 := fr8.ii 20 rfl rfl
   refine SR <| V (run_lss e21_8 e20_8) <| RL.nil <| CW.seq <| CW.condP rfl (fun h10 => ?_) (fun h10 => ?_)
   ·refine CW.skip <| CW.seq <| CW.block <| SR <| V (run_indexAddrS (ha.rows.sl.hp hH8) underlying30 sizeOf54 e19_8 e21_8 (by omega)) <| V (run_ld underlying54 rfl rfl ((ha.rows.sl.hp hH8).cell _ _ (rowsC_at (by omega)))) <| ?_
    refine V (run_assign (by conv => lhs; whnf)) ?_
    refine RL.nil <| SR <| vm e3_8 <| ?_
    refine V (run_move (by conv => lhs; whnf)) ?_
    refine V (run_lenSl ((ha.at (by omega) (by omega)).sl.hp hH8) rfl underlying54 rfl) <| V (run_add rfl rfl (by have hb2 := hbd _ (List.mem_of_getElem? (getD_at (d := vr0) h0 ‹k < _›)); have hb3 := rsum_bd hbd h0 (show k ≤ 100 by omega); omega)) <| aI rfl <| RL.nil <| SR <| ?_
    refine V (run_move (by conv => lhs; whnf)) ?_
    refine V (run_lenSl ((ha.at (by omega) (by omega)).sl.hp hH8) rfl underlying54 rfl) <| vm (v := I 0) rfl <| RL.nil <| CW.block <| have hm5 := (ha.at h0 (by omega)).small; ?_
    unfold maxLen at hm5
    refine CW.loop (G := Int) (fun q s' w' => (Fr (2 :: (7 :: (rg 31 9 []))) _ s') ∧ (Hp w w' _) ∧ (s' 31 = I q) ∧ (0 ≤ q) ∧ (q ≤ (a.rows.getD k.toNat vr0).l.length) ∧ (∀ i : Int, 0 ≤ i → i < q → bigNm ((a.rows.getD k.toNat vr0).l.getD i.toNat val0) = false)) (fun q => ((a.rows.getD k.toNat vr0).l.length - q).toNat) (0) ⟨Fr.refl _ _, hH8, rfl, (by omega), (by omega), fun j a b => absurd b (by omega)⟩ ?_
    rintro q sg11 w11 ⟨fr11, hH11, e31_11, q0, qk, hq⟩
    have e3_11 := fr11.ii 3 rfl rfl
    have e21_11 := (fr11 21 rfl).trans e21_8
    have e29_11 := (fr11 29 rfl).trans (by conv => lhs; whnf)
    have e30_11 := fr11.ii 30 rfl rfl
    refine SR <| V (run_lss e31_11 e30_11) <| RL.nil <| CW.seq <| CW.condP rfl (fun h13 => ?_) (fun h13 => ?_)
    ·refine CW.skip <| CW.seq <| CW.block <| SR <| V (run_indexAddrS ((ha.at (by omega) (by omega)).sl.hp hH11) underlying54 sizeOf56 e29_11 e31_11 (by omega)) <| V (run_ldE (dv := val0) valL_len ((ha.at (by omega) (by omega)).sl.hp hH11) underlying56 rfl rfl rfl (by omega)) <| RL.new rfl hH11 (f := fun b => (.pointer (some ⟨b, 0, none⟩))) (run_alloc zero_val) <| fun b16 w14 hH15 => RL.set hH15 (i := 0) rfl (run_stW (c' := (valL _).toArray) rfl rfl rfl (valL_one _) (hH15.blk (i := 0) rfl) rfl) <| fun w17 hH18 => ?_
     simp only [z2] at hH18
     refine RL.nil <| SR <| V (fA underlying56 0 rfl sizeOf9 rfl) <| V (run_ld underlying9 rfl rfl (hH18.cell (i := 0) rfl (v := .string _) rfl)) <| V (run_lenStr rfl underlying9 rfl) <| V (run_gtr rfl rfl) <| RL.nil <| CW.condP rfl (fun h20 => ?_) (fun h20 => ?_)
     ·refine SR <| va (v := B true) rfl <| RL.nil <| CW.ret <| outP1 Tryz.results6 (congrArg B ?_) hH18.below
      (rw [bigA, any_yes (d := vr0) (P := bigR) h0 ‹k < _› (any_yes (d := val0) (P := bigNm) q0 ‹q < _› (decide_eq_true (by omega)))]; simp; done)
     ·refine CW.skip <| CW.region <| V (run_add e31_11 rfl (by omega)) <| mI rfl <| RL.nil <| ?_
      refine ⟨q + 1, ?_, fr11.u4.u4.u1.u1, (hH18.sub (sQ sR)), (congrArg I (by rfl)), ?_, ?_, ?_⟩
      ·((try dsimp only); omega)
      ·omega
      ·omega
      ·exact fun i u v => if e : i = q then e ▸ decide_eq_false (by omega) else hq i u (by omega)
    ·refine CW.exit (id := 2) rfl <| CW.region <| V (run_add e21_11 rfl (by omega)) <| mI rfl <| RL.nil <| ?_
     refine ⟨k + 1, ?_, (((fr8.u4.u4.u4).t fr11 rfl)).u1.u1.u1, hH11, (Eq.trans e3_11 (congrArg I (rsum_next h0 ‹k < _›).symm)), (congrArg I (by rfl)), ?_, ?_, ?_⟩
     ·((try dsimp only); omega)
     ·omega
     ·omega
     ·exact fun i u v => if e : i = k then e ▸ any_no (d := val0) ‹¬ q < _› hq else hg i u (by omega)
   ·refine CW.exit (id := 0) rfl <| SR <| vm e3_8 <| V (run_gtr rfl rfl) <| aB rfl <| RL.nil <| CW.ret <| outP1 Tryz.results6 (congrArg B ?_) hH8.below
    (rw [bigA, decide_eq_false hno, any_no (d := vr0) (P := bigR) ‹¬ k < _› hg, rsum_all ‹¬ k < _›]; rfl)
theorem c_clearancelaw13_Big (s : Scp) (w : World) (hs : ScpV (Kw w) s) : Calls Tryz.prog 18 #[.agg (scpC s)] w (Pure (B (bigScp s)) w) := by
 have hm1 := hs.lats.sl.small
 have hm2 := hs.vars.sl.small
 unfold maxLen at hm1 hm2
 refine enter Tryz.func18 rfl Tryz.ntmps18 rfl <| have hH := Hp.start w; SR <| RL.new rfl hH (f := fun b => (.pointer (some ⟨b, 0, none⟩))) (run_box (v := .agg _) rfl) <| fun b3 w1 hH2 => va (v := B false) rfl <| RL.nil <| CW.seq <| SR <| V (fA underlying25 0 rfl sizeOf22 rfl) <| V (run_ldV (hs.lats.sl.hp hH2) underlying22 rfl rfl (hH2.cell (i := 0) rfl rfl)) <| V (run_lenSl (hs.lats.sl.hp hH2) rfl underlying22 rfl) <| V (run_gtr rfl rfl) <| mB rfl <| RL.splitP (dj := 11) rfl (fun h5 => ?_) (fun h5 => ?_)
 ·refine gF rfl (bT h5) <| gF rfl (bT h5) <| gF rfl (bT h5) <| gF rfl (bT h5) <| V (run_pickT (bT h5) (v := B true) rfl) <| RL.nil <| CW.condT rfl <| SR <| va (v := B true) rfl <| RL.nil <| CW.ret <| outP1 Tryz.results18 (congrArg B ?_) hH2.below
  (rw [bigScp, decide_eq_true (by omega)]; rfl)
 ·refine gT rfl (bF h5) <| V (fA underlying25 1 rfl sizeOf23 rfl) <| gT rfl (bF h5) <| V (run_ldV (hs.vars.sl.hp hH2) underlying23 rfl rfl (hH2.cell (i := 0) rfl rfl)) <| gT rfl (bF h5) <| V (run_lenSl (hs.vars.sl.hp hH2) rfl underlying23 rfl) <| gT rfl (bF h5) <| V (run_gtr rfl rfl) <| V (run_pickF (bF h5) (v := B _) rfl) <| RL.nil <| CW.condP rfl (fun h7 => ?_) (fun h7 => ?_)
  ·refine SR <| va (v := B true) rfl <| RL.nil <| CW.ret <| outP1 Tryz.results18 (congrArg B ?_) hH2.below
   (rw [bigScp, decide_eq_true (by omega)]; rfl)
  ·refine CW.skip <| CW.seq <| SR <| V (fA underlying25 0 rfl sizeOf22 rfl) <| V (run_ldV (hs.lats.sl.hp hH2) underlying22 rfl rfl (hH2.cell (i := 0) rfl rfl)) <| V (run_lenSl (hs.lats.sl.hp hH2) rfl underlying22 rfl) <| vm (v := I 0) rfl <| RL.nil <| CW.block <| have hno : ¬ (20 < s.lats.length ∨ 80 < s.vars.length) := (by omega); CW.loop (G := Int) (fun k s' w' => (Fr (2 :: (4 :: (rg 20 14 []))) _ s') ∧ (Hp w w' _) ∧ (s' 20 = I k) ∧ (0 ≤ k) ∧ (k ≤ s.lats.length) ∧ (∀ j : Int, 0 ≤ j → j < k → bigL (s.lats.getD j.toNat lat0) = false)) (fun k => (s.lats.length - k).toNat) (0) ⟨Fr.refl _ _, hH2, rfl, (by omega), (by omega), fun j a b => absurd b (by omega)⟩ <| ?_
   rintro k sg8 w8 ⟨fr8, hH8, e20_8, h0, hk, hg⟩
   have e1_8 := fr8.pp 1 rfl rfl
   have e18_8 := (fr8 18 rfl).trans (by conv => lhs; whnf)
   have e19_8 := fr8.ii 19 rfl rfl
   refine SR <| V (run_lss e20_8 e19_8) <| RL.nil <| CW.seq <| CW.condP rfl (fun h10 => ?_) (fun h10 => ?_)
   ·refine CW.skip <| CW.seq <| CW.block <| SR <| V (run_indexAddrS (hs.lats.sl.hp hH8) underlying22 sizeOf67 e18_8 e20_8 (by omega)) <| V (run_ldE (dv := lat0) latL_len (hs.lats.sl.hp hH8) underlying67 rfl rfl rfl (by omega)) <| RL.new rfl hH8 (f := fun b => (.pointer (some ⟨b, 0, none⟩))) (run_alloc zero_lat) <| fun b13 w11 hH12 => RL.set hH12 (i := 0) rfl (run_stW (c' := (latL _).toArray) rfl rfl rfl (latL_one (hs.at (by omega) (by omega))) (hH12.blk (i := 0) rfl) rfl) <| fun w14 hH15 => ?_
    simp only [z2] at hH15
    refine RL.nil <| SR <| V (fA underlying67 1 rfl sizeOf65 rfl) <| V (run_ldSub (sub := shpL _) underlying65 rfl rfl rfl (hH15.blk (i := 0) rfl) rfl) <| RL.callP rfl hH15 (c_clearancelaw07_Big _  _ ((hs.at (by omega) (by omega)).mono hH15.kw)) (run_call1 call41 rfl) <| fun w16 hH17 => mB rfl <| RL.split (dj := 27) rfl (fun h19 => ?_) (fun h19 => ?_)
    ·refine gF rfl (bR (c := true) h19) <| gF rfl (bR (c := true) h19) <| gF rfl (bR (c := true) h19) <| gF rfl (bR (c := true) h19) <| V (run_pickT (bR (c := true) h19) (v := B true) rfl) <| RL.nil <| CW.condT rfl <| SR <| va (v := B true) rfl <| RL.nil <| CW.ret <| outP1 Tryz.results18 (congrArg B ?_) hH17.below
     (rw [bigScp, any_yes (d := lat0) (P := bigL) h0 ‹k < _› (by rw [bigL, Bool.or_eq_true]; exact .inl ‹_›)]; simp)
    ·refine gT rfl (bR (c := false) h19) <| V (fA underlying67 0 rfl sizeOf9 rfl) <| gT rfl (bR (c := false) h19) <| V (run_ld underlying9 rfl rfl (hH17.cell (i := 0) rfl (v := .string _) rfl)) <| gT rfl (bR (c := false) h19) <| V (run_lenStr rfl underlying9 rfl) <| gT rfl (bR (c := false) h19) <| V (run_gtr rfl rfl) <| V (run_pickF (bR (c := false) h19) (v := B _) rfl) <| RL.nil <| CW.condP rfl (fun h21 => ?_) (fun h21 => ?_)
     ·refine SR <| va (v := B true) rfl <| RL.nil <| CW.ret <| outP1 Tryz.results18 (congrArg B ?_) hH17.below
      (rw [bigScp, any_yes (d := lat0) (P := bigL) h0 ‹k < _› (by rw [bigL, Bool.or_eq_true]; exact .inr (decide_eq_true (by omega)))]; simp)
     ·refine CW.skip <| CW.region <| V (run_add e20_8 rfl (by omega)) <| mI rfl <| RL.nil <| ?_
      refine ⟨k + 1, ?_, fr8.u4.u4.u4.u1.u1.u1, (hH17.sub (sQ sR)), (congrArg I (by rfl)), ?_, ?_, ?_⟩
      ·((try dsimp only); omega)
      ·omega
      ·omega
      ·exact fun j a b => if e : j = k then e ▸ (by rw [bigL, Bool.or_eq_false_iff]; exact ⟨‹_›, decide_eq_false (by omega)⟩) else hg j a (by omega)
   ·refine CW.exit (id := 0) rfl <| CW.seq <| SR <| V (fA underlying25 1 rfl sizeOf23 e1_8) <| V (run_ldV (hs.vars.sl.hp hH8) underlying23 rfl rfl (hH8.cell (i := 0) rfl rfl)) <| V (run_lenSl (hs.vars.sl.hp hH8) rfl underlying23 rfl) <| vm (v := I 0) rfl <| RL.nil <| CW.block <| have hla : s.lats.any bigL = false := any_no (d := lat0) ‹_› hg; CW.loop (G := Int) (fun j s' w' => (Fr (2 :: (6 :: (rg 37 9 []))) _ s') ∧ (Hp w w' _) ∧ (s' 37 = I j) ∧ (0 ≤ j) ∧ (j ≤ s.vars.length) ∧ (∀ i : Int, 0 ≤ i → i < j → bigV (s.vars.getD i.toNat var0) = false)) (fun j => (s.vars.length - j).toNat) (0) ⟨Fr.refl _ _, hH8, rfl, (by omega), (by omega), fun j a b => absurd b (by omega)⟩ <| ?_
    rintro j sg22 w22 ⟨fr22, hH22, e37_22, j0, jk, hv⟩
    have e35_22 := (fr22 35 rfl).trans (by conv => lhs; whnf)
    have e36_22 := fr22.ii 36 rfl rfl
    refine SR <| V (run_lss e37_22 e36_22) <| RL.nil <| CW.seq <| CW.condP rfl (fun h24 => ?_) (fun h24 => ?_)
    ·refine CW.skip <| CW.seq <| CW.block <| SR <| V (run_indexAddrS (hs.vars.sl.hp hH22) underlying23 sizeOf69 e35_22 e37_22 (by omega)) <| V (run_ldE (dv := var0) varL_len (hs.vars.sl.hp hH22) underlying69 rfl rfl rfl (by omega)) <| RL.new rfl hH22 (f := fun b => (.pointer (some ⟨b, 0, none⟩))) (run_alloc Tryz.zeroValue69) <| fun b27 w25 hH26 => RL.set hH26 (i := 0) rfl (run_stW (c' := (varL _).toArray) rfl rfl rfl (by simp [varL, Value.oneCell']) (hH26.blk (i := 0) rfl) rfl) <| fun w28 hH29 => ?_
     simp only [z2] at hH29
     refine RL.nil <| SR <| V (fA underlying69 0 rfl sizeOf9 rfl) <| V (run_ld underlying9 rfl rfl (hH29.cell (i := 0) rfl (v := .string _) rfl)) <| V (run_lenStr rfl underlying9 rfl) <| V (run_gtr rfl rfl) <| RL.nil <| CW.condP rfl (fun h31 => ?_) (fun h31 => ?_)
     ·refine SR <| va (v := B true) rfl <| RL.nil <| CW.ret <| outP1 Tryz.results18 (congrArg B ?_) hH29.below
      (rw [bigScp, any_yes (d := var0) (P := bigV) j0 ‹j < _› (decide_eq_true (by omega))]; simp)
     ·refine CW.skip <| CW.region <| V (run_add e37_22 rfl (by omega)) <| mI rfl <| RL.nil <| ?_
      refine ⟨j + 1, ?_, fr22.u4.u4.u1.u1, (hH29.sub (sQ sR)), (congrArg I (by rfl)), ?_, ?_, ?_⟩
      ·((try dsimp only); omega)
      ·omega
      ·omega
      ·exact fun i a b => if e : i = j then e ▸ (decide_eq_false (by omega)) else hv i a (by omega)
    ·refine CW.exit (id := 2) rfl <| SR <| va (v := B false) rfl <| RL.nil <| CW.ret <| outP1 Tryz.results18 (congrArg B ?_) hH22.below
     (rw [bigScp, hla, any_no (d := var0) ‹_› hv, decide_eq_false hno]; rfl)
theorem c_clearanceref13_Right (s : Scp) (w : World) (hs : ScpV (Kw w) s) : Calls Tryz.prog 16 #[.agg (scpC s)] w (Pure (B (rightS s)) w) := by
 have hm1 := hs.lats.sl.small
 have hm2 := hs.vars.sl.small
 unfold maxLen at hm1 hm2
 refine enter Tryz.func16 rfl Tryz.ntmps16 rfl <| have hH := Hp.start w; SR <| RL.new rfl hH (f := fun b => (.pointer (some ⟨b, 0, none⟩))) (run_box (v := .agg _) rfl) <| fun b3 w1 hH2 => va (v := B false) rfl <| RL.nil <| SR <| va (v := .slice none 0 0) rfl <| have hH4 := hH2.nilRow 9 1; RL.nil <| CW.seq <| SR <| V (fA underlying25 0 rfl sizeOf22 rfl) <| V (run_ldV (hs.lats.sl.hp hH4) underlying22 rfl rfl (hH4.cell (i := 1) rfl rfl)) <| V (run_lenSl (hs.lats.sl.hp hH4) rfl underlying22 rfl) <| V (run_gtr rfl rfl) <| mB rfl <| RL.splitP (dj := 12) rfl (fun h6 => ?_) (fun h6 => ?_)
 ·refine gF rfl (bT h6) <| gF rfl (bT h6) <| gF rfl (bT h6) <| gF rfl (bT h6) <| V (run_pickT (bT h6) (v := B true) rfl) <| RL.nil <| CW.condT rfl <| SR <| va (v := B false) rfl <| RL.nil <| CW.ret <| outP1 Tryz.results16 (congrArg B ?_) hH4.below
  exact (right_no1 (by omega)).symm
 ·refine gT rfl (bF h6) <| V (fA underlying25 1 rfl sizeOf23 rfl) <| gT rfl (bF h6) <| V (run_ldV (hs.vars.sl.hp hH4) underlying23 rfl rfl (hH4.cell (i := 1) rfl rfl)) <| gT rfl (bF h6) <| V (run_lenSl (hs.vars.sl.hp hH4) rfl underlying23 rfl) <| gT rfl (bF h6) <| V (run_gtr rfl rfl) <| V (run_pickF (bF h6) (v := B _) rfl) <| RL.nil <| CW.condP rfl (fun h8 => ?_) (fun h8 => ?_)
  ·refine SR <| va (v := B false) rfl <| RL.nil <| CW.ret <| outP1 Tryz.results16 (congrArg B ?_) hH4.below
   exact (right_no1 (by omega)).symm
  ·refine CW.skip <| CW.seq <| SR <| va (v := I 0) rfl <| RL.nil <| CW.block <| have hsz : s.lats.length ≤ 16 ∧ s.vars.length ≤ 64 := (by omega); have hnl : (namesS s).length = s.lats.length + s.vars.length := (by simp [namesS]); CW.loop (G := Int × (List Tx) × Value) (fun ⟨k, m, v3⟩ s' w' => (Fr (rg 2 3 (rg 18 24 [])) _ s') ∧ (Hp w w' (.row v3 9 1 (m.length) (txL m) :: _)) ∧ (s' 3 = v3) ∧ (s' 4 = I k) ∧ (0 ≤ k) ∧ (k ≤ s.lats.length) ∧ (m = (s.lats.take k.toNat).map LatR.name) ∧ ((m.length : Int) = k) ∧ (∀ j : Int, 0 ≤ j → j < k → shR (s.lats.getD j.toNat lat0).shp.sh = true)) (fun ⟨k, m, v3⟩ => (s.lats.length - k).toNat) ((0, [], (.slice none 0 0 : Value))) ⟨Fr.refl _ _, hH4, rfl, rfl, (by omega), (by omega), rfl, rfl, fun j a b => absurd b (by omega)⟩ <| ?_
   rintro ⟨k, m, v3⟩ sg9 w9 ⟨fr9, hH9, e3_9, e4_9, h0, hk, hm, hml, hg⟩
   have e1_9 := fr9.pp 1 rfl rfl
   refine CW.seq <| SR <| vm e4_9 <| V (fA underlying25 0 rfl sizeOf22 e1_9) <| V (run_ldV (hs.lats.sl.hp hH9) underlying22 rfl rfl (hH9.cell (i := 1) rfl rfl)) <| V (run_lenSl (hs.lats.sl.hp hH9) rfl underlying22 rfl) <| V (run_lss rfl rfl) <| RL.nil <| CW.condP rfl (fun h11 => ?_) (fun h11 => ?_)
   ·refine CW.skip <| CW.seq <| CW.block <| CW.seq <| SR <| V (fA underlying25 0 rfl sizeOf22 e1_9) <| V (run_ldV (hs.lats.sl.hp hH9) underlying22 rfl rfl (hH9.cell (i := 1) rfl rfl)) <| vm e4_9 <| V (run_indexAddrS (hs.lats.sl.hp hH9) underlying22 sizeOf67 rfl rfl (by omega)) <| V (fA underlying67 1 rfl sizeOf65 rfl) <| V (run_ldEA (dv := lat0) (off := 1) (cs := shpL _) latL_len (hs.lats.sl.hp hH9) underlying65 rfl rfl rfl (by omega) (lat_shp _)) <| RL.callP rfl hH9 (c_clearanceref07_Right _  _ ((hs.at (by omega) (by omega)).mono hH9.kw)) (run_call1 call35 rfl) <| fun w12 hH13 => V (run_not rfl) <| RL.nil <| CW.cond rfl (fun h16 => ?_) (fun h16 => ?_)
    ·refine SR <| va (v := B false) rfl <| RL.nil <| CW.ret <| outP1 Tryz.results16 (congrArg B ?_) hH13.below
     exact (right_no2 h0 ‹k < _› (by rw [latOk, nt ‹(!shR _) = true›, Bool.and_false])).symm
    ·refine CW.skip <| CW.region <| vm e3_9 <| V (fA underlying25 0 rfl sizeOf22 e1_9) <| V (run_ldV (hs.lats.sl.hp hH13) underlying22 rfl rfl (hH13.cell (i := 1) rfl rfl)) <| vm e4_9 <| V (run_indexAddrS (hs.lats.sl.hp hH13) underlying22 sizeOf67 rfl rfl (by omega)) <| V (fA underlying67 0 rfl sizeOf9 rfl) <| V (run_ldE1 (dv := lat0) (off := 0) latL_len (hs.lats.sl.hp hH13) underlying9 rfl rfl (by omega) rfl) <| RL.new rfl hH13 (f := fun b => (.slice (some ⟨b, 0, none⟩) 1 1)) (run_mkL underlying57 rfl rfl (sz := 1) (vs := [.string _]) rfl rfl (by decide) (by decide) rfl rfl) <| fun b19 w17 hH18 => ?_
     (try simp only [clX] at hH18)
     refine RL.app rfl hH18 (i := 1) rfl (hH18.slBlk (i := 0) (n := 1) (sz := 1) rfl rfl (by decide)) rfl rfl underlying57 rfl rfl (size := 1) (bytes := 16) rfl rfl rfl (by decide) (by simp [Value.oneCell']) (by omega) (by simp only [maxLen]; omega) <| fun v20 w21 hH22 => ?_
     simp only [z2] at hH22
     refine V (run_assign (by conv => lhs; whnf)) ?_
     refine RL.nil <| CW.region <| vm e4_9 <| V (run_add rfl rfl (by omega)) <| aI rfl <| RL.nil <| ?_
     refine ⟨(k + 1, m ++ [(s.lats.getD k.toNat lat0).name], v20), ?_, fr9.u4.u4.u4.u4.u4.u4.u1.u1, (Hp.conv (hH22.sub (sQ sR)) (by simp)), rfl, (congrArg I (by rfl)), ?_, ?_, ?_, ?_, ?_⟩
     ·((try dsimp only); omega)
     ·omega
     ·omega
     ·rw [lnames_next h0 ‹k < _›, ← hm]
     ·simp only [List.length_append, List.length_singleton]; omega
     ·exact fun j a b => if e : j = k then e ▸ nf ‹(!shR _) = false› else hg j a (by omega)
   ·refine CW.exit (id := 0) rfl <| CW.seq <| SR <| va (v := I 0) rfl <| RL.nil <| CW.block <| CW.loop (G := Int × (List Tx) × Value) (fun ⟨j, m2, v3⟩ s' w' => (Fr (2 :: 3 :: (5 :: 6 :: (rg 42 38 []))) _ s') ∧ (Hp w w' (.row v3 9 1 (m2.length) (txL m2) :: _)) ∧ (s' 3 = v3) ∧ (s' 5 = I j) ∧ (0 ≤ j) ∧ (j ≤ s.vars.length) ∧ (m2 = m ++ (s.vars.take j.toNat).map VarR.name) ∧ ((m2.length : Int) = k + j) ∧ (∀ i : Int, 0 ≤ i → i < j → ((s.vars.getD i.toNat var0).kind = 1 ∨ (s.vars.getD i.toNat var0).kind = 2) ∧ 0 ≤ (s.vars.getD i.toNat var0).lat ∧ (s.vars.getD i.toNat var0).lat < s.lats.length)) (fun ⟨j, m2, v3⟩ => (s.vars.length - j).toNat) ((0, m, (v3 : Value))) ⟨Fr.refl _ _, hH9, e3_9, rfl, (by omega), (by omega), (List.append_nil m).symm, (by omega), fun j a b => absurd b (by omega)⟩ <| ?_
    rintro ⟨j, m2, v3⟩ sg23 w23 ⟨fr23, hH23, e3_23, e5_23, j0, hj, hm2, hml2, hv⟩
    have e1_23 := (fr23 1 rfl).trans e1_9
    refine CW.seq <| SR <| vm e5_23 <| V (fA underlying25 1 rfl sizeOf23 e1_23) <| V (run_ldV (hs.vars.sl.hp hH23) underlying23 rfl rfl (hH23.cell (i := 1) rfl rfl)) <| V (run_lenSl (hs.vars.sl.hp hH23) rfl underlying23 rfl) <| V (run_lss rfl rfl) <| RL.nil <| CW.condP rfl (fun h25 => ?_) (fun h25 => ?_)
    ·refine CW.skip <| CW.seq <| CW.block <| SR <| V (fA underlying25 1 rfl sizeOf23 e1_23) <| V (run_ldV (hs.vars.sl.hp hH23) underlying23 rfl rfl (hH23.cell (i := 1) rfl rfl)) <| vm e5_23 <| V (run_indexAddrS (hs.vars.sl.hp hH23) underlying23 sizeOf69 rfl rfl (by omega)) <| V (run_ldE (dv := var0) varL_len (hs.vars.sl.hp hH23) underlying69 rfl rfl rfl (by omega)) <| RL.new rfl hH23 (f := fun b => (.pointer (some ⟨b, 0, none⟩))) (run_alloc Tryz.zeroValue69) <| fun b28 w26 hH27 => RL.set hH27 (i := 0) rfl (run_stW (c' := (varL _).toArray) rfl rfl rfl (by simp [varL, Value.oneCell']) (hH27.blk (i := 0) rfl) rfl) <| fun w29 hH30 => ?_
     simp only [z2] at hH30
     refine RL.nil <| CW.seq <| SR <| V (fA underlying69 1 rfl sizeOf3 rfl) <| V (run_ld underlying3 rfl rfl (hH30.cell (i := 0) rfl (v := I _) rfl)) <| V (run_neq rfl rfl) <| mB rfl <| RL.splitP (dj := 57) rfl (fun h32 => ?_) (fun h32 => ?_)
     ·refine gT rfl (bT h32) <| V (fA underlying69 1 rfl sizeOf3 rfl) <| gT rfl (bT h32) <| V (run_ld underlying3 rfl rfl (hH30.cell (i := 0) rfl (v := I _) rfl)) <| gT rfl (bT h32) <| V (run_neq rfl rfl) <| V (run_pickT (bT h32) (v := B _) rfl) <| mB rfl <| RL.splitP (dj := 62) rfl (fun h34 => ?_) (fun h34 => ?_)
      ·refine gF rfl (bT h34) <| gF rfl (bT h34) <| gF rfl (bT h34) <| V (run_pickT (bT h34) (v := B true) rfl) <| mB rfl <| gF rfl rfl <| gF rfl rfl <| gF rfl rfl <| gF rfl rfl <| gF rfl rfl <| gF rfl rfl <| V (run_pickT rfl (v := B true) rfl) <| RL.nil <| CW.condT rfl <| SR <| va (v := B false) rfl <| RL.nil <| CW.ret <| outP1 Tryz.results16 (congrArg B ?_) hH30.below
       exact (right_no3 j0 ‹j < _› (by rw [varOk, decide_eq_false (by omega), Bool.and_false])).symm
      ·refine gT rfl (bF h34) <| V (fA underlying69 2 rfl sizeOf3 rfl) <| gT rfl (bF h34) <| V (run_ld underlying3 rfl rfl (hH30.cell (i := 0) rfl (v := I _) rfl)) <| gT rfl (bF h34) <| V (run_lss rfl rfl) <| V (run_pickF (bF h34) (v := B _) rfl) <| mB rfl <| RL.splitP (dj := 67) rfl (fun h36 => ?_) (fun h36 => ?_)
       ·refine gF rfl (bT h36) <| gF rfl (bT h36) <| gF rfl (bT h36) <| gF rfl (bT h36) <| gF rfl (bT h36) <| gF rfl (bT h36) <| V (run_pickT (bT h36) (v := B true) rfl) <| RL.nil <| CW.condT rfl <| SR <| va (v := B false) rfl <| RL.nil <| CW.ret <| outP1 Tryz.results16 (congrArg B ?_) hH30.below
        exact (right_no3 j0 ‹j < _› (by rw [varOk, decide_eq_false (by omega), Bool.and_false])).symm
       ·refine gT rfl (bF h36) <| V (fA underlying69 2 rfl sizeOf3 rfl) <| gT rfl (bF h36) <| V (run_ld underlying3 rfl rfl (hH30.cell (i := 0) rfl (v := I _) rfl)) <| gT rfl (bF h36) <| V (fA underlying25 0 rfl sizeOf22 e1_23) <| gT rfl (bF h36) <| V (run_ldV (hs.lats.sl.hp hH30) underlying22 rfl rfl (hH30.cell (i := 2) rfl rfl)) <| gT rfl (bF h36) <| V (run_lenSl (hs.lats.sl.hp hH30) rfl underlying22 rfl) <| gT rfl (bF h36) <| V (run_geq rfl rfl) <| V (run_pickF (bF h36) (v := B _) rfl) <| RL.nil <| CW.condP rfl (fun h38 => ?_) (fun h38 => ?_)
        ·refine SR <| va (v := B false) rfl <| RL.nil <| CW.ret <| outP1 Tryz.results16 (congrArg B ?_) hH30.below
         exact (right_no3 j0 ‹j < _› (by rw [varOk, decide_eq_false (by omega), Bool.and_false])).symm
        ·refine CW.skip <| CW.region <| vm e3_23 <| V (fA underlying69 0 rfl sizeOf9 rfl) <| V (run_ld underlying9 rfl rfl (hH30.cell (i := 0) rfl (v := .string _) rfl)) <| RL.new rfl hH30 (f := fun b => (.slice (some ⟨b, 0, none⟩) 1 1)) (run_mkL underlying57 rfl rfl (sz := 1) (vs := [.string _]) rfl rfl (by decide) (by decide) rfl rfl) <| fun b41 w39 hH40 => ?_
         (try simp only [clX] at hH40)
         refine RL.app rfl hH40 (i := 2) rfl (hH40.slBlk (i := 0) (n := 1) (sz := 1) rfl rfl (by decide)) rfl rfl underlying57 rfl rfl (size := 1) (bytes := 16) rfl rfl rfl (by decide) (by simp [Value.oneCell']) (by omega) (by simp only [maxLen]; omega) <| fun v42 w43 hH44 => ?_
         simp only [z2] at hH44
         refine V (run_assign (by conv => lhs; whnf)) ?_
         refine RL.nil <| CW.region <| vm e5_23 <| V (run_add rfl rfl (by omega)) <| aI rfl <| RL.nil <| ?_
         refine ⟨(j + 1, m2 ++ [(s.vars.getD j.toNat var0).name], v42), ?_, fr23.u4.u4.u4.u4.u4.u4.u4.u4.u4.u4.u1, (Hp.conv (hH44.sub (sQ (sQ sR))) (by simp)), rfl, (congrArg I (by rfl)), ?_, ?_, ?_, ?_, ?_⟩
         ·((try dsimp only); omega)
         ·omega
         ·omega
         ·rw [vnames_next j0 ‹j < _›, hm2, List.append_assoc]
         ·simp only [List.length_append, List.length_singleton]; omega
         ·exact fun i a b => if e : i = j then e ▸ (by omega) else hv i a (by omega)
     ·refine gF rfl (bF h32) <| gF rfl (bF h32) <| gF rfl (bF h32) <| V (run_pickF (bF h32) (v := B false) rfl) <| mB rfl <| gT rfl rfl <| V (fA underlying69 2 rfl sizeOf3 rfl) <| gT rfl rfl <| V (run_ld underlying3 rfl rfl (hH30.cell (i := 0) rfl (v := I _) rfl)) <| gT rfl rfl <| V (run_lss rfl rfl) <| V (run_pickF rfl (v := B _) rfl) <| mB rfl <| RL.splitP (dj := 67) rfl (fun h46 => ?_) (fun h46 => ?_)
      ·refine gF rfl (bT h46) <| gF rfl (bT h46) <| gF rfl (bT h46) <| gF rfl (bT h46) <| gF rfl (bT h46) <| gF rfl (bT h46) <| V (run_pickT (bT h46) (v := B true) rfl) <| RL.nil <| CW.condT rfl <| SR <| va (v := B false) rfl <| RL.nil <| CW.ret <| outP1 Tryz.results16 (congrArg B ?_) hH30.below
       exact (right_no3 j0 ‹j < _› (by rw [varOk, decide_eq_false (by omega), Bool.and_false])).symm
      ·refine gT rfl (bF h46) <| V (fA underlying69 2 rfl sizeOf3 rfl) <| gT rfl (bF h46) <| V (run_ld underlying3 rfl rfl (hH30.cell (i := 0) rfl (v := I _) rfl)) <| gT rfl (bF h46) <| V (fA underlying25 0 rfl sizeOf22 e1_23) <| gT rfl (bF h46) <| V (run_ldV (hs.lats.sl.hp hH30) underlying22 rfl rfl (hH30.cell (i := 2) rfl rfl)) <| gT rfl (bF h46) <| V (run_lenSl (hs.lats.sl.hp hH30) rfl underlying22 rfl) <| gT rfl (bF h46) <| V (run_geq rfl rfl) <| V (run_pickF (bF h46) (v := B _) rfl) <| RL.nil <| CW.condP rfl (fun h48 => ?_) (fun h48 => ?_)
       ·refine SR <| va (v := B false) rfl <| RL.nil <| CW.ret <| outP1 Tryz.results16 (congrArg B ?_) hH30.below
        exact (right_no3 j0 ‹j < _› (by rw [varOk, decide_eq_false (by omega), Bool.and_false])).symm
       ·refine CW.skip <| CW.region <| vm e3_23 <| V (fA underlying69 0 rfl sizeOf9 rfl) <| V (run_ld underlying9 rfl rfl (hH30.cell (i := 0) rfl (v := .string _) rfl)) <| RL.new rfl hH30 (f := fun b => (.slice (some ⟨b, 0, none⟩) 1 1)) (run_mkL underlying57 rfl rfl (sz := 1) (vs := [.string _]) rfl rfl (by decide) (by decide) rfl rfl) <| fun b51 w49 hH50 => ?_
        (try simp only [clX] at hH50)
        refine RL.app rfl hH50 (i := 2) rfl (hH50.slBlk (i := 0) (n := 1) (sz := 1) rfl rfl (by decide)) rfl rfl underlying57 rfl rfl (size := 1) (bytes := 16) rfl rfl rfl (by decide) (by simp [Value.oneCell']) (by omega) (by simp only [maxLen]; omega) <| fun v52 w53 hH54 => ?_
        simp only [z2] at hH54
        refine V (run_assign (by conv => lhs; whnf)) ?_
        refine RL.nil <| CW.region <| vm e5_23 <| V (run_add rfl rfl (by omega)) <| aI rfl <| RL.nil <| ?_
        refine ⟨(j + 1, m2 ++ [(s.vars.getD j.toNat var0).name], v52), ?_, fr23.u4.u4.u4.u4.u4.u4.u4.u4.u4.u4.u1, (Hp.conv (hH54.sub (sQ (sQ sR))) (by simp)), rfl, (congrArg I (by rfl)), ?_, ?_, ?_, ?_, ?_⟩
        ·((try dsimp only); omega)
        ·omega
        ·omega
        ·rw [vnames_next j0 ‹j < _›, hm2, List.append_assoc]
        ·simp only [List.length_append, List.length_singleton]; omega
        ·exact fun i a b => if e : i = j then e ▸ (by omega) else hv i a (by omega)
    ·refine CW.exit (id := 2) rfl <| CW.seq <| SR <| va (v := I 0) rfl <| RL.nil <| CW.block <| have hnm : m2 = namesS s := (by rw [hm2, hm, List.take_of_length_le (by omega), List.take_of_length_le (by omega)]; rfl); CW.loop (G := Int) (fun i s' w' => (Fr (2 :: (7 :: (rg 80 12 []))) _ s') ∧ (Hp w w' _) ∧ (s' 7 = I i) ∧ (0 ≤ i) ∧ (i ≤ m2.length) ∧ (∀ x : Int, 0 ≤ x → x < i → nameR (m2.getD x.toNat tx0) = true)) (fun i => (m2.length - i).toNat) (0) ⟨Fr.refl _ _, hH23, rfl, (by omega), (by omega), fun j a b => absurd b (by omega)⟩ <| ?_
     rintro i sg55 w55 ⟨fr55, hH55, e7_55, i0, i1, hn⟩
     have e3_55 := (fr55 3 rfl).trans e3_23
     refine CW.seq <| SR <| vm e7_55 <| vm e3_55 <| V (run_lenSl (hH55.sl (i := 0) rfl) rfl underlying57 rfl) <| V (run_lss rfl rfl) <| RL.nil <| CW.condP rfl (fun h57 => ?_) (fun h57 => ?_)
     ·refine CW.skip <| CW.seq <| CW.block <| SR <| vm e3_55 <| vm e7_55 <| V (run_indexAddrS (hH55.sl (i := 0) rfl) underlying57 sizeOf9 rfl rfl (by omega)) <| V (run_ld underlying9 rfl rfl ((hH55.sl (i := 0) rfl).cell _ _ (txL_at (by omega)))) <| RL.callP rfl hH55 (c_clearanceref02_Right _  _) (run_call1 call36 rfl) <| fun w58 hH59 => V (run_not rfl) <| RL.nil <| CW.cond rfl (fun h62 => ?_) (fun h62 => ?_)
      ·refine SR <| va (v := B false) rfl <| RL.nil <| CW.ret <| outP1 Tryz.results16 (congrArg B ?_) hH59.below
       exact (right_name i0 (by rw [hnm] at *; omega) (by rw [← hnm]; exact nt ‹(!nameR _) = true›)).symm
      ·refine CW.skip <| CW.region <| vm e7_55 <| V (run_add rfl rfl (by omega)) <| aI rfl <| RL.nil <| ?_
       refine ⟨i + 1, ?_, fr55.u4.u4.u4.u1, hH59, (congrArg I (by rfl)), ?_, ?_, ?_⟩
       ·((try dsimp only); omega)
       ·omega
       ·omega
       ·exact fun x a b => if e : x = i then e ▸ nf ‹(!nameR _) = false› else hn x a (by omega)
     ·refine CW.exit (id := 4) rfl <| SR <| vm e3_55 <| RL.callP rfl hH55 (c_clearanceref02_Twice _ _  _ (hH55.sl (i := 0) rfl)) (run_call1 call37 rfl) <| fun w63 hH64 => V (run_lss rfl rfl) <| aB rfl <| RL.nil <| CW.ret <| outP1 Tryz.results16 (congrArg B ?_) hH64.below
      (rw [hnm] at *; exact (right_all hk hj hsz ‹¬ k < _› hg ‹¬ j < _› hv ‹¬ i < _› hn).symm)
theorem c_code_Right (v : Value) (l : List InsR) (w : World) (hs : Sl w v 10 l.length (l.flatMap insL)) : Calls Tryz.prog 44 #[v] w (Pure (B (rightC l)) w) := by
 have hm := hs.small
 unfold maxLen at hm
 refine enter Tryz.func44 rfl Tryz.ntmps44 rfl <| have hH := Hp.start w; SR <| va (v := B false) rfl <| RL.nil <| SR <| va (v := I 0) rfl <| RL.nil <| CW.seq <| SR <| ?_
 refine V (run_move (by conv => lhs; whnf)) ?_
 refine V (run_lenSl (hs.hp hH) rfl underlying36 rfl) <| vm (v := I 0) rfl <| RL.nil <| CW.block <| CW.loop (G := Int × Int) (fun ⟨k, d⟩ s' w' => (Fr (2 :: 3 :: (5 :: (rg 8 29 []))) _ s') ∧ (Hp w w' _) ∧ (s' 3 = I d) ∧ (s' 8 = I k) ∧ (0 ≤ k) ∧ (k ≤ l.length) ∧ (deepTo l k = some d)) (fun ⟨k, d⟩ => (l.length - k).toNat) ((0, 0)) ⟨Fr.refl _ _, hH, rfl, rfl, (by omega), (by omega), deep_zero l⟩ <| ?_
 rintro ⟨k, d⟩ sg1 w1 ⟨fr1, hH1, e3_1, e8_1, h0, hk, hd⟩
 have e6_1 := (fr1 6 rfl).trans (by conv => lhs; whnf)
 have e7_1 := fr1.ii 7 rfl rfl
 have hdb := deep_bd h0 hk hd
 refine SR <| V (run_lss e8_1 e7_1) <| RL.nil <| CW.seq <| CW.condP rfl (fun h3 => ?_) (fun h3 => ?_)
 ·refine CW.skip <| CW.seq <| CW.block <| SR <| V (run_indexAddrS (hs.hp hH1) underlying36 sizeOf91 e6_1 e8_1 (by omega)) <| V (run_ldE (dv := ins0) insL_len (hs.hp hH1) underlying91 rfl rfl rfl (by omega)) <| RL.new rfl hH1 (f := fun b => (.pointer (some ⟨b, 0, none⟩))) (run_alloc zero_ins) <| fun b6 w4 hH5 => RL.set hH5 (i := 0) rfl (run_stW (c' := (insL _).toArray) rfl rfl rfl (insL_one _) (hH5.blk (i := 0) rfl) rfl) <| fun w7 hH8 => ?_
  simp only [z2] at hH8
  refine RL.nil <| SR <| V (fA underlying91 0 rfl sizeOf3 rfl) <| V (run_ld underlying3 rfl rfl (hH8.cell (i := 0) rfl (v := I _) rfl)) <| RL.nil <| CW.block <| CW.seq <| SR <| V (run_eql rfl rfl) <| aB rfl <| RL.nil <| CW.condP rfl (fun h10 => ?_) (fun h10 => ?_)
  ·refine CW.skip <| CW.condT (bT h10) <| CW.region <| vm e3_1 <| V (run_add rfl rfl (by omega)) <| aI rfl <| RL.nil <| CW.region <| V (run_add e8_1 rfl (by omega)) <| mI rfl <| RL.nil <| ?_
   refine ⟨(k + 1, d + 1), ?_, fr1.u4.u4.u4.u1, (hH8.sub (sQ sR)), (congrArg I (by rfl)), (congrArg I (by rfl)), ?_, ?_, ?_⟩
   ·((try dsimp only); omega)
   ·omega
   ·omega
   ·rw [deep_next h0 ‹k < _›, hd]; exact st_push (.inl ‹_›)
  ·refine CW.region <| V (run_eql rfl rfl) <| aB rfl <| RL.nil <| CW.condP rfl (fun h12 => ?_) (fun h12 => ?_)
   ·refine CW.region <| vm e3_1 <| V (run_add rfl rfl (by omega)) <| aI rfl <| RL.nil <| CW.region <| V (run_add e8_1 rfl (by omega)) <| mI rfl <| RL.nil <| ?_
    refine ⟨(k + 1, d + 1), ?_, fr1.u4.u4.u4.u1.u1.u1, (hH8.sub (sQ sR)), (congrArg I (by rfl)), (congrArg I (by rfl)), ?_, ?_, ?_⟩
    ·((try dsimp only); omega)
    ·omega
    ·omega
    ·rw [deep_next h0 ‹k < _›, hd]; exact st_push (.inr ‹_›)
   ·refine CW.seq <| SR <| V (run_eql rfl rfl) <| aB rfl <| RL.nil <| CW.condP rfl (fun h14 => ?_) (fun h14 => ?_)
    ·refine CW.skip <| CW.condT (bT h14) <| CW.seq <| SR <| V (fA underlying91 1 rfl sizeOf3 rfl) <| V (run_ld underlying3 rfl rfl (hH8.cell (i := 0) rfl (v := I _) rfl)) <| V (run_lss rfl rfl) <| mB rfl <| RL.splitP (dj := 25) rfl (fun h16 => ?_) (fun h16 => ?_)
     ·refine gF rfl (bT h16) <| gF rfl (bT h16) <| gF rfl (bT h16) <| gF rfl (bT h16) <| V (run_pickT (bT h16) (v := B true) rfl) <| RL.nil <| CW.condT rfl <| SR <| va (v := B false) rfl <| RL.nil <| CW.ret <| outP1 Tryz.results44 (congrArg B ?_) hH8.below
      exact (rc_no h0 ‹k < _› hd (st_bad (by omega) (by omega))).symm
     ·refine gT rfl (bF h16) <| V (fA underlying91 1 rfl sizeOf3 rfl) <| gT rfl (bF h16) <| V (run_ld underlying3 rfl rfl (hH8.cell (i := 0) rfl (v := I _) rfl)) <| gT rfl (bF h16) <| vm e3_1 <| gT rfl (bF h16) <| V (run_gtr rfl rfl) <| V (run_pickF (bF h16) (v := B _) rfl) <| RL.nil <| CW.condP rfl (fun h18 => ?_) (fun h18 => ?_)
      ·refine SR <| va (v := B false) rfl <| RL.nil <| CW.ret <| outP1 Tryz.results44 (congrArg B ?_) hH8.below
       exact (rc_no h0 ‹k < _› hd (st_bad (by omega) (by omega))).symm
      ·refine CW.skip <| CW.region <| vm e3_1 <| V (fA underlying91 1 rfl sizeOf3 rfl) <| V (run_ld underlying3 rfl rfl (hH8.cell (i := 0) rfl (v := I _) rfl)) <| V (run_sub rfl rfl (by omega)) <| V (run_sub rfl rfl (by omega)) <| aI rfl <| RL.nil <| CW.region <| V (run_add e8_1 rfl (by omega)) <| mI rfl <| RL.nil <| ?_
       refine ⟨(k + 1, d - (l.getD k.toNat ins0).n + 1), ?_, fr1.u4.u4.u4.u4.u4.u4.u4.u1, (hH8.sub (sQ sR)), (congrArg I (by omega)), (congrArg I (by rfl)), ?_, ?_, ?_⟩
       ·((try dsimp only); omega)
       ·omega
       ·omega
       ·rw [deep_next h0 ‹k < _›, hd]; exact st_pop (by omega) (by omega) (by omega)
    ·refine CW.region <| V (run_eql rfl rfl) <| aB rfl <| RL.nil <| CW.condP rfl (fun h20 => ?_) (fun h20 => ?_)
     ·refine CW.seq <| SR <| V (fA underlying91 1 rfl sizeOf3 rfl) <| V (run_ld underlying3 rfl rfl (hH8.cell (i := 0) rfl (v := I _) rfl)) <| V (run_lss rfl rfl) <| mB rfl <| RL.splitP (dj := 25) rfl (fun h22 => ?_) (fun h22 => ?_)
      ·refine gF rfl (bT h22) <| gF rfl (bT h22) <| gF rfl (bT h22) <| gF rfl (bT h22) <| V (run_pickT (bT h22) (v := B true) rfl) <| RL.nil <| CW.condT rfl <| SR <| va (v := B false) rfl <| RL.nil <| CW.ret <| outP1 Tryz.results44 (congrArg B ?_) hH8.below
       exact (rc_no h0 ‹k < _› hd (st_bad (by omega) (by omega))).symm
      ·refine gT rfl (bF h22) <| V (fA underlying91 1 rfl sizeOf3 rfl) <| gT rfl (bF h22) <| V (run_ld underlying3 rfl rfl (hH8.cell (i := 0) rfl (v := I _) rfl)) <| gT rfl (bF h22) <| vm e3_1 <| gT rfl (bF h22) <| V (run_gtr rfl rfl) <| V (run_pickF (bF h22) (v := B _) rfl) <| RL.nil <| CW.condP rfl (fun h24 => ?_) (fun h24 => ?_)
       ·refine SR <| va (v := B false) rfl <| RL.nil <| CW.ret <| outP1 Tryz.results44 (congrArg B ?_) hH8.below
        exact (rc_no h0 ‹k < _› hd (st_bad (by omega) (by omega))).symm
       ·refine CW.skip <| CW.region <| vm e3_1 <| V (fA underlying91 1 rfl sizeOf3 rfl) <| V (run_ld underlying3 rfl rfl (hH8.cell (i := 0) rfl (v := I _) rfl)) <| V (run_sub rfl rfl (by omega)) <| V (run_sub rfl rfl (by omega)) <| aI rfl <| RL.nil <| CW.region <| V (run_add e8_1 rfl (by omega)) <| mI rfl <| RL.nil <| ?_
        refine ⟨(k + 1, d - (l.getD k.toNat ins0).n + 1), ?_, fr1.u4.u4.u4.u4.u4.u4.u4.u1.u1.u1, (hH8.sub (sQ sR)), (congrArg I (by omega)), (congrArg I (by rfl)), ?_, ?_, ?_⟩
        ·((try dsimp only); omega)
        ·omega
        ·omega
        ·rw [deep_next h0 ‹k < _›, hd]; exact st_pop (by omega) (by omega) (by omega)
     ·refine SR <| va (v := B false) rfl <| RL.nil <| CW.ret <| outP1 Tryz.results44 (congrArg B ?_) hH8.below
      exact (rc_no h0 ‹k < _› hd (st_none (by omega) (by omega))).symm
 ·refine CW.exit (id := 0) rfl <| SR <| vm e3_1 <| V (run_eql rfl rfl) <| aB rfl <| RL.nil <| CW.ret <| outP1 Tryz.results44 (congrArg B ?_) hH1.below
  exact (rc_end hk ‹¬ k < _› hd).symm
theorem c_holds_atom (t : AtomR) (a : Asg) (w : World) (ha : AsgV (Kw w) a) : Calls Tryz.prog 23 #[.agg (atomL t).toArray, .agg (asgL a).toArray] w (Pure (.tuple #[.agg (elC (atomF a.as t).1), B (atomF a.as t).2]) w) := by
 have hm1 := ha.labels.small
 have hm2 := ha.rows.small
 unfold maxLen at hm1 hm2
 refine enter Tryz.func23 rfl Tryz.ntmps23 rfl <| have hH := Hp.start w; SR <| RL.new rfl hH (f := fun b => (.pointer (some ⟨b, 0, none⟩))) (run_box (v := .agg _) rfl) <| fun b3 w1 hH2 => RL.new rfl hH2 (f := fun b => (.pointer (some ⟨b, 0, none⟩))) (run_box (v := .agg _) rfl) <| fun b6 w4 hH5 => RL.new rfl hH5 (f := fun b => (.pointer (some ⟨b, 0, none⟩))) (run_alloc zero_el) <| fun b9 w7 hH8 => va (v := B false) rfl <| RL.nil <| CW.seq <| SR <| V (fA underlying41 0 rfl sizeOf3 rfl) <| V (run_ld underlying3 rfl rfl (hH8.cell (i := 2) rfl (v := I _) rfl)) <| V (run_lss rfl rfl) <| RL.nil <| CW.condP rfl (fun h11 => ?_) (fun h11 => ?_)
 ·refine SR <| V (fA underlying41 1 rfl sizeOf39 rfl) <| V (run_ldElR underlying39 rfl rfl rfl (hH8.blk (i := 2) rfl) (atom_elB _)) <| RL.set hH8 (i := 0) rfl (run_stEl rfl rfl rfl (hH8.blk (i := 0) rfl)) <| fun w12 hH13 => ?_
  simp only [z2] at hH13
  refine va (v := B true) rfl <| RL.nil <| CW.ret <| outCT Tryz.results23 rfl rfl hH13 (i := 0) rfl underlying39 rfl (by rw [elC_size]; rfl) ⟨?_, hH13.below⟩
  (rw [atm_1 ‹t.var < 0›]; rfl)
 ·refine CW.skip <| CW.seq <| SR <| V (fA underlying41 0 rfl sizeOf3 rfl) <| V (run_ld underlying3 rfl rfl (hH8.cell (i := 2) rfl (v := I _) rfl)) <| V (fA underlying32 0 rfl sizeOf29 rfl) <| V (run_ldV (ha.labels.sl.hp hH8) underlying29 rfl rfl (hH8.cell (i := 1) rfl rfl)) <| V (run_lenSl (ha.labels.sl.hp hH8) rfl underlying29 rfl) <| V (run_geq rfl rfl) <| RL.nil <| CW.condP rfl (fun h15 => ?_) (fun h15 => ?_)
  ·refine SR <| V (run_bld (vs := []) rfl (built_el0)) <| RL.set hH8 (i := 0) rfl (run_stEl rfl rfl rfl (hH8.blk (i := 0) rfl)) <| fun w16 hH17 => ?_
   simp only [z2] at hH17
   refine va (v := B false) rfl <| RL.nil <| CW.ret <| outCT Tryz.results23 rfl rfl hH17 (i := 0) rfl underlying39 rfl (by rw [elC_size]; rfl) ⟨?_, hH17.below⟩
   (rw [atm_3 ‹¬ t.var < 0› (show ¬ t.var < a.as.labels.length by show ¬ t.var < a.labels.length; omega)]; rfl)
  ·refine CW.skip <| SR <| V (fA underlying32 0 rfl sizeOf29 rfl) <| V (run_ldV (ha.labels.sl.hp hH8) underlying29 rfl rfl (hH8.cell (i := 1) rfl rfl)) <| V (fA underlying41 0 rfl sizeOf3 rfl) <| V (run_ld underlying3 rfl rfl (hH8.cell (i := 2) rfl (v := I _) rfl)) <| V (run_indexAddrS (ha.labels.sl.hp hH8) underlying29 sizeOf39 rfl rfl (by omega)) <| V (run_ldElS (ha.labels.sl.hp hH8) underlying39 rfl rfl rfl (by omega)) <| RL.set hH8 (i := 0) rfl (run_stEl rfl rfl rfl (hH8.blk (i := 0) rfl)) <| fun w18 hH19 => ?_
   simp only [z2] at hH19
   refine va (v := B true) rfl <| RL.nil <| CW.ret <| outCT Tryz.results23 rfl rfl hH19 (i := 0) rfl underlying39 rfl (by rw [elC_size]; rfl) ⟨?_, hH19.below⟩
   (rw [atm_2 ‹¬ t.var < 0› (show t.var < a.as.labels.length by show t.var < a.labels.length; omega)]; rfl)
theorem c_fit_is (s : Scp) (v kd lat : Int) (w : World) (hs : ScpV (Kw w) s) : Calls Tryz.prog 57 #[.agg (scpC s), I v, I kd, I lat] w (Pure (B (kdOk s v kd lat)) w) := by
 have hm1 := hs.lats.sl.small
 have hm2 := hs.vars.sl.small
 unfold maxLen at hm1 hm2
 refine enter Tryz.func57 rfl Tryz.ntmps57 rfl <| have hH := Hp.start w; SR <| RL.new rfl hH (f := fun b => (.pointer (some ⟨b, 0, none⟩))) (run_box (v := .agg _) rfl) <| fun b3 w1 hH2 => va (v := B false) rfl <| RL.nil <| SR <| mI rfl <| V (run_geq rfl rfl) <| mB rfl <| RL.splitP (dj := 11) rfl (fun h5 => ?_) (fun h5 => ?_)
 ·refine gT rfl (bT h5) <| mI rfl <| gT rfl (bT h5) <| V (fA underlying25 1 rfl sizeOf23 rfl) <| gT rfl (bT h5) <| V (run_ldV (hs.vars.sl.hp hH2) underlying23 rfl rfl (hH2.cell (i := 0) rfl rfl)) <| gT rfl (bT h5) <| V (run_lenSl (hs.vars.sl.hp hH2) rfl underlying23 rfl) <| gT rfl (bT h5) <| V (run_lss rfl rfl) <| V (run_pickT (bT h5) (v := B _) rfl) <| mB rfl <| RL.splitP (dj := 18) rfl (fun h7 => ?_) (fun h7 => ?_)
  ·refine gT rfl (bT h7) <| V (fA underlying25 1 rfl sizeOf23 rfl) <| gT rfl (bT h7) <| V (run_ldV (hs.vars.sl.hp hH2) underlying23 rfl rfl (hH2.cell (i := 0) rfl rfl)) <| gT rfl (bT h7) <| mI rfl <| gT rfl (bT h7) <| V (run_indexAddrS (hs.vars.sl.hp hH2) underlying23 sizeOf69 rfl rfl (by omega)) <| gT rfl (bT h7) <| V (fA underlying69 1 rfl sizeOf3 rfl) <| gT rfl (bT h7) <| V (run_ldE1 (dv := var0) (off := 1) varL_len (hs.vars.sl.hp hH2) underlying3 rfl rfl (by omega) rfl) <| gT rfl (bT h7) <| mI rfl <| gT rfl (bT h7) <| V (run_eql rfl rfl) <| V (run_pickT (bT h7) (v := B _) rfl) <| mB rfl <| RL.splitP (dj := 28) rfl (fun h9 => ?_) (fun h9 => ?_)
   ·refine gT rfl (bT h9) <| V (fA underlying25 1 rfl sizeOf23 rfl) <| gT rfl (bT h9) <| V (run_ldV (hs.vars.sl.hp hH2) underlying23 rfl rfl (hH2.cell (i := 0) rfl rfl)) <| gT rfl (bT h9) <| mI rfl <| gT rfl (bT h9) <| V (run_indexAddrS (hs.vars.sl.hp hH2) underlying23 sizeOf69 rfl rfl (by omega)) <| gT rfl (bT h9) <| V (fA underlying69 2 rfl sizeOf3 rfl) <| gT rfl (bT h9) <| V (run_ldE1 (dv := var0) (off := 2) varL_len (hs.vars.sl.hp hH2) underlying3 rfl rfl (by omega) rfl) <| gT rfl (bT h9) <| mI rfl <| gT rfl (bT h9) <| V (run_eql rfl rfl) <| V (run_pickT (bT h9) (v := B _) rfl) <| aB rfl <| RL.nil <| CW.ret <| outP1 Tryz.results57 (congrArg B ?_) hH2.below
    (rw [kind_yes ⟨by omega, by omega⟩ ‹(List.getD s.vars _ _).kind = kd›]; done)
   ·refine gF rfl (bF h9) <| gF rfl (bF h9) <| gF rfl (bF h9) <| gF rfl (bF h9) <| gF rfl (bF h9) <| gF rfl (bF h9) <| gF rfl (bF h9) <| gF rfl (bF h9) <| V (run_pickF (bF h9) (v := B false) rfl) <| aB rfl <| RL.nil <| CW.ret <| outP1 Tryz.results57 (congrArg B ?_) hH2.below
    (rw [kind_no2 ‹¬ (List.getD s.vars _ _).kind = kd›]; done)
  ·refine gF rfl (bF h7) <| gF rfl (bF h7) <| gF rfl (bF h7) <| gF rfl (bF h7) <| gF rfl (bF h7) <| gF rfl (bF h7) <| gF rfl (bF h7) <| gF rfl (bF h7) <| V (run_pickF (bF h7) (v := B false) rfl) <| mB rfl <| gF rfl rfl <| gF rfl rfl <| gF rfl rfl <| gF rfl rfl <| gF rfl rfl <| gF rfl rfl <| gF rfl rfl <| gF rfl rfl <| V (run_pickF rfl (v := B false) rfl) <| aB rfl <| RL.nil <| CW.ret <| outP1 Tryz.results57 (congrArg B ?_) hH2.below
   (rw [kind_no1 (by omega)]; done)
 ·refine gF rfl (bF h5) <| gF rfl (bF h5) <| gF rfl (bF h5) <| gF rfl (bF h5) <| gF rfl (bF h5) <| V (run_pickF (bF h5) (v := B false) rfl) <| mB rfl <| gF rfl rfl <| gF rfl rfl <| gF rfl rfl <| gF rfl rfl <| gF rfl rfl <| gF rfl rfl <| gF rfl rfl <| gF rfl rfl <| V (run_pickF rfl (v := B false) rfl) <| mB rfl <| gF rfl rfl <| gF rfl rfl <| gF rfl rfl <| gF rfl rfl <| gF rfl rfl <| gF rfl rfl <| gF rfl rfl <| gF rfl rfl <| V (run_pickF rfl (v := B false) rfl) <| aB rfl <| RL.nil <| CW.ret <| outP1 Tryz.results57 (congrArg B ?_) hH2.below
  (rw [kind_no1 (by omega)]; done)
theorem c_fit_isAtom (s : Scp) (lat : Int) (t : AtomR) (hlat : 0 ≤ lat ∧ lat < s.lats.length) (w : World) (hs : ScpV (Kw w) s) (hT : Tab w) : Calls Tryz.prog 60 #[.agg (scpC s), I lat, .agg (atomL t).toArray] w (Pure (B (atomOk s lat t)) w) := by
 have hm1 := hs.lats.sl.small
 have hm2 := hs.vars.sl.small
 unfold maxLen at hm1 hm2
 refine enter Tryz.func60 rfl Tryz.ntmps60 rfl <| have hH := Hp.start w; SR <| RL.new rfl hH (f := fun b => (.pointer (some ⟨b, 0, none⟩))) (run_box (v := .agg _) rfl) <| fun b3 w1 hH2 => RL.new rfl hH2 (f := fun b => (.pointer (some ⟨b, 0, none⟩))) (run_box (v := .agg _) rfl) <| fun b6 w4 hH5 => va (v := B false) rfl <| RL.nil <| CW.seq <| SR <| V (fA underlying41 0 rfl sizeOf3 rfl) <| V (run_ld underlying3 rfl rfl (hH5.cell (i := 0) rfl (v := I _) rfl)) <| V (run_lss rfl rfl) <| RL.nil <| CW.condP rfl (fun h8 => ?_) (fun h8 => ?_)
 ·refine CW.seq <| CW.regionD (by kernel_rfl) hH5 <| fun w9 hH10 => have zh10 := hH10.sub sR; AQ 0 rfl zh10 (fA underlying25 0 rfl sizeOf22 rfl) <| AT 1 rfl zh10 (fun w hS => run_ldV (hs.lats.sl.hp hS) underlying22 rfl rfl (hS.cell (i := 1) rfl rfl)) <| AQ 2 rfl zh10 (mV (I _) rfl) <| AT 3 rfl zh10 (fun w hS => run_indexAddrS (hs.lats.sl.hp hS) underlying22 sizeOf67 rfl rfl (by omega)) <| AQ 4 rfl zh10 (fA underlying67 1 rfl sizeOf65 rfl) <| AT 5 rfl zh10 (fun w hS => run_ldEA (dv := lat0) (off := 1) (cs := shpL _) latL_len (hs.lats.sl.hp hS) underlying65 rfl rfl rfl (by omega) (lat_shp _)) <| AQ 6 rfl zh10 (fA underlying41 1 rfl sizeOf39 rfl) <| AT 7 rfl zh10 (fun w hS => run_ldElR underlying39 rfl rfl rfl (hS.blk (i := 0) rfl) (atom_elB _)) <| A1 8 <| AO.callP rfl gnone rfl hH10 sR (c_shape_Fits _ _  _ ((hs.at (by omega) (by omega)).mono hH10.kw) (hT.hp hH10)) (run_call2 call38 rfl rfl) <| fun w11 hH12 => AQ 9 rfl (hH12.sub sR) (aV (B _) rfl) <| AD <| CW.ret <| outP1 Tryz.results60 (congrArg B ?_) hH12.below
  (rw [atom_1 ‹t.var < 0›]; rfl)
 ·refine CW.skip <| SR <| V (run_ldA (cs := scpL _) underlying25 rfl rfl rfl (rangeAt_cells (hH5.blk (i := 1) rfl))) <| V (fA underlying41 0 rfl sizeOf3 rfl) <| V (run_ld underlying3 rfl rfl (hH5.cell (i := 0) rfl (v := I _) rfl)) <| mI rfl <| RL.callP rfl hH5 (c_fit_is _ _ _ _  _ (hs.mono hH5.kw)) (run_call4 call57 rfl rfl (show _ = I 1 from rfl) rfl) <| fun w14 hH15 => aB rfl <| RL.nil <| CW.ret <| outP1 Tryz.results60 (congrArg B ?_) hH15.below
  (rw [atom_2 ‹¬ t.var < 0›]; done)
theorem c_fit_isRow (s : Scp) (lat : Int) (r : RowR) (hlat : 0 ≤ lat ∧ lat < s.lats.length) (w : World) (hs : ScpV (Kw w) s) (hr : RowV (Kw w) r) (hT : Tab w) : Calls Tryz.prog 58 #[.agg (scpC s), I lat, .agg (rtmL r).toArray] w (Pure (B (rowOk s lat r)) w) := by
 have hm1 := hs.lats.sl.small
 have hm2 := hs.vars.sl.small
 unfold maxLen at hm1 hm2
 have hm3 := hr.fields.small
 unfold maxLen at hm3
 refine enter Tryz.func58 rfl Tryz.ntmps58 rfl <| have hH := Hp.start w; SR <| RL.new rfl hH (f := fun b => (.pointer (some ⟨b, 0, none⟩))) (run_box (v := .agg _) rfl) <| fun b3 w1 hH2 => RL.new rfl hH2 (f := fun b => (.pointer (some ⟨b, 0, none⟩))) (run_box (v := .agg _) rfl) <| fun b6 w4 hH5 => va (v := B false) rfl <| RL.nil <| CW.seq <| SR <| V (fA underlying44 0 rfl sizeOf42 rfl) <| V (run_ldV (hr.fields.sl.hp hH5) underlying42 rfl rfl (hH5.cell (i := 0) rfl rfl)) <| V (run_lenSl (hr.fields.sl.hp hH5) rfl underlying42 rfl) <| V (run_gtr rfl rfl) <| mB rfl <| RL.splitP (dj := 14) rfl (fun h8 => ?_) (fun h8 => ?_)
 ·refine gF rfl (bT h8) <| gF rfl (bT h8) <| gF rfl (bT h8) <| gF rfl (bT h8) <| RL.gU rfl rfl rfl <| RL.gU rfl rfl rfl <| RL.gU rfl rfl rfl <| RL.gU rfl rfl rfl <| RL.gU rfl rfl rfl <| RL.gU rfl rfl rfl <| gF rfl (bT h8) <| V (run_pickT (bT h8) (v := B true) rfl) <| RL.nil <| CW.condT rfl <| SR <| va (v := B false) rfl <| RL.nil <| CW.ret <| outP1 Tryz.results58 (congrArg B ?_) hH5.below
  exact (row_no1 (by omega)).symm
 ·refine gT rfl (bF h8) <| V (fA underlying44 1 rfl sizeOf3 rfl) <| gT rfl (bF h8) <| V (run_ld underlying3 rfl rfl (hH5.cell (i := 0) rfl (v := I _) rfl)) <| gT rfl (bF h8) <| V (run_geq rfl rfl) <| gT rfl (bF h8) <| mB rfl <| RL.splitP (dj := 18) rfl (fun h10 => ?_) (fun h10 => ?_)
  ·refine gT rfl (bT h10) <| V (run_ldA (cs := scpL _) underlying25 rfl rfl rfl (rangeAt_cells (hH5.blk (i := 1) rfl))) <| gT rfl (bT h10) <| V (fA underlying44 1 rfl sizeOf3 rfl) <| gT rfl (bT h10) <| V (run_ld underlying3 rfl rfl (hH5.cell (i := 0) rfl (v := I _) rfl)) <| gT rfl (bT h10) <| mI rfl <| gT rfl (bT h10) <| RL.callP rfl hH5 (c_fit_is _ _ _ _  _ (hs.mono hH5.kw)) (run_call4 call57 rfl rfl (show _ = I 2 from rfl) rfl) <| fun w11 hH12 => gT rfl (bT h10) <| V (run_not rfl) <| gT rfl (bF h8) <| V (run_pickT (bT h10) (v := B _) rfl) <| V (run_pickF (bF h8) (v := B _) rfl) <| RL.nil <| CW.cond rfl (fun h15 => ?_) (fun h15 => ?_)
   ·refine SR <| va (v := B false) rfl <| RL.nil <| CW.ret <| outP1 Tryz.results58 (congrArg B ?_) hH12.below
    exact (row_no2 (by omega) (nt ‹(!kdOk s r.tail 2 lat) = true›)).symm
   ·refine CW.skip <| SR <| va (v := .slice none 0 0) rfl <| have hH16 := hH12.nilRow 9 1; RL.nil <| CW.seq <| SR <| V (fA underlying44 0 rfl sizeOf42 rfl) <| V (run_ldV (hr.fields.sl.hp hH16) underlying42 rfl rfl (hH16.cell (i := 1) rfl rfl)) <| V (run_lenSl (hr.fields.sl.hp hH16) rfl underlying42 rfl) <| vm (v := I 0) rfl <| RL.nil <| CW.block <| have hsz : r.fields.length ≤ 16 := (by omega); have htl : r.tail < 0 ∨ kdOk s r.tail 2 lat = true := (by exact .inr (nf ‹(!kdOk s r.tail 2 lat) = false›)); CW.loop (G := Int × (List Tx) × Value) (fun ⟨k, m, v7⟩ s' w' => (Fr (6 :: 7 :: (9 :: (rg 30 22 []))) _ s') ∧ (Hp w w' (.row v7 9 1 (m.length) (txL m) :: _)) ∧ (s' 7 = v7) ∧ (s' 30 = I k) ∧ (0 ≤ k) ∧ (k ≤ r.fields.length) ∧ (m = (r.fields.take k.toNat).map FieldR.name) ∧ ((m.length : Int) = k) ∧ (∀ j : Int, 0 ≤ j → j < k → fieldOk s lat (r.fields.getD j.toNat field0) = true)) (fun ⟨k, m, v7⟩ => (r.fields.length - k).toNat) ((0, [], (.slice none 0 0 : Value))) ⟨Fr.refl _ _, hH16, rfl, rfl, (by omega), (by omega), rfl, rfl, fun j a b => absurd b (by omega)⟩ <| ?_
    rintro ⟨k, m, v7⟩ sg17 w17 ⟨fr17, hH17, e7_17, e30_17, h0, hk, hm, hml, hg⟩
    have e1_17 := fr17.ii 1 rfl rfl
    have e3_17 := fr17.pp 3 rfl rfl
    have e28_17 := (fr17 28 rfl).trans (by conv => lhs; whnf)
    have e29_17 := fr17.ii 29 rfl rfl
    refine SR <| V (run_lss e30_17 e29_17) <| RL.nil <| CW.seq <| CW.condP rfl (fun h19 => ?_) (fun h19 => ?_)
    ·refine CW.skip <| CW.seq <| CW.block <| SR <| V (run_indexAddrS (hr.fields.sl.hp hH17) underlying42 sizeOf71 e28_17 e30_17 (by omega)) <| V (run_ldE (dv := field0) fieldL_len (hr.fields.sl.hp hH17) underlying71 rfl rfl rfl (by omega)) <| RL.new rfl hH17 (f := fun b => (.pointer (some ⟨b, 0, none⟩))) (run_alloc zero_field) <| fun b22 w20 hH21 => RL.set hH21 (i := 0) rfl (run_stW (c' := (fieldL _).toArray) rfl rfl rfl (fieldL_one _) (hH21.blk (i := 0) rfl) rfl) <| fun w23 hH24 => ?_
     simp only [z2] at hH24
     refine RL.nil <| CW.seq <| SR <| V (fA underlying71 0 rfl sizeOf9 rfl) <| V (run_ld underlying9 rfl rfl (hH24.cell (i := 0) rfl (v := .string _) rfl)) <| RL.callP rfl hH24 (c_name_Right _  _) (run_call1 call54 rfl) <| fun w25 hH26 => V (run_not rfl) <| mB rfl <| RL.split (dj := 38) rfl (fun h29 => ?_) (fun h29 => ?_)
     ·refine gF rfl (bR (c := true) h29) <| gF rfl (bR (c := true) h29) <| gF rfl (bR (c := true) h29) <| gF rfl (bR (c := true) h29) <| gF rfl (bR (c := true) h29) <| gF rfl (bR (c := true) h29) <| V (run_pickT (bR (c := true) h29) (v := B true) rfl) <| RL.nil <| CW.condT rfl <| SR <| va (v := B false) rfl <| RL.nil <| CW.ret <| outP1 Tryz.results58 (congrArg B ?_) hH26.below
      exact (row_no3 h0 ‹k < _› (field_no1 (nt ‹(!nameR _) = true›))).symm
     ·refine gT rfl (bR (c := false) h29) <| V (run_ldA (cs := scpL _) underlying25 rfl rfl e3_17 (rangeAt_cells (hH26.blk (i := 3) rfl))) <| gT rfl (bR (c := false) h29) <| vm e1_17 <| gT rfl (bR (c := false) h29) <| V (fA underlying71 1 rfl sizeOf41 rfl) <| gT rfl (bR (c := false) h29) <| V (run_ldSub (sub := atomL _) underlying41 rfl rfl rfl (hH26.blk (i := 0) rfl) (field_atB _)) <| gT rfl (bR (c := false) h29) <| RL.callP rfl hH26 (c_fit_isAtom _ _ _ (by omega) _ (hs.mono hH26.kw) (hT.hp hH26)) (run_call3 call60 rfl rfl rfl) <| fun w30 hH31 => gT rfl (bR (c := false) h29) <| V (run_not rfl) <| V (run_pickF (bR (c := false) h29) (v := B _) rfl) <| RL.nil <| CW.cond rfl (fun h34 => ?_) (fun h34 => ?_)
      ·refine SR <| va (v := B false) rfl <| RL.nil <| CW.ret <| outP1 Tryz.results58 (congrArg B ?_) hH31.below
       exact (row_no3 h0 ‹k < _› (field_no2 (nt ‹(!atomOk s lat _) = true›))).symm
      ·refine CW.skip <| CW.region <| vm e7_17 <| V (fA underlying71 0 rfl sizeOf9 rfl) <| V (run_ld underlying9 rfl rfl (hH31.cell (i := 0) rfl (v := .string _) rfl)) <| RL.new rfl hH31 (f := fun b => (.slice (some ⟨b, 0, none⟩) 1 1)) (run_mkL underlying57 rfl rfl (sz := 1) (vs := [.string _]) rfl rfl (by decide) (by decide) rfl rfl) <| fun b37 w35 hH36 => ?_
       (try simp only [clX] at hH36)
       refine RL.app rfl hH36 (i := 2) rfl (hH36.slBlk (i := 0) (n := 1) (sz := 1) rfl rfl (by decide)) rfl rfl underlying57 rfl rfl (size := 1) (bytes := 16) rfl rfl rfl (by decide) (by simp [Value.oneCell']) (by omega) (by simp only [maxLen]; omega) <| fun v38 w39 hH40 => ?_
       simp only [z2] at hH40
       refine V (run_assign (by conv => lhs; whnf)) ?_
       refine RL.nil <| CW.region <| V (run_add e30_17 rfl (by omega)) <| mI rfl <| RL.nil <| ?_
       refine ⟨(k + 1, m ++ [(r.fields.getD k.toNat field0).name], v38), ?_, fr17.u4.u4.u4.u4.u4.u4, (Hp.conv (hH40.sub (sQ (sQ sR))) (by simp)), rfl, (congrArg I (by rfl)), ?_, ?_, ?_, ?_, ?_⟩
       ·((try dsimp only); omega)
       ·omega
       ·omega
       ·rw [fnames_next h0 ‹k < _›, ← hm]
       ·simp only [List.length_append, List.length_singleton]; omega
       ·exact fun j a b => if e : j = k then e ▸ field_yes (nf ‹(!nameR _) = false›) (nf ‹(!atomOk s lat _) = false›) else hg j a (by omega)
    ·refine CW.exit (id := 0) rfl <| SR <| vm e7_17 <| RL.callP rfl hH17 (c_name_Twice _ _  _ (hH17.sl (i := 0) rfl)) (run_call1 call56 rfl) <| fun w41 hH42 => V (run_lss rfl rfl) <| aB rfl <| RL.nil <| CW.ret <| outP1 Tryz.results58 (congrArg B ?_) hH42.below
     (rw [row_yes hsz htl ‹¬ k < _› hg, show m = fnames r by rw [hm, List.take_of_length_le (by omega)]; rfl])
  ·refine gF rfl (bF h10) <| gF rfl (bF h10) <| gF rfl (bF h10) <| gF rfl (bF h10) <| gF rfl (bF h10) <| gF rfl (bF h10) <| gT rfl (bF h8) <| V (run_pickF (bF h10) (v := B false) rfl) <| V (run_pickF (bF h8) (v := B _) rfl) <| RL.nil <| CW.condF rfl <| CW.skip <| SR <| va (v := .slice none 0 0) rfl <| have hH44 := hH5.nilRow 9 1; RL.nil <| CW.seq <| SR <| V (fA underlying44 0 rfl sizeOf42 rfl) <| V (run_ldV (hr.fields.sl.hp hH44) underlying42 rfl rfl (hH44.cell (i := 1) rfl rfl)) <| V (run_lenSl (hr.fields.sl.hp hH44) rfl underlying42 rfl) <| vm (v := I 0) rfl <| RL.nil <| CW.block <| have hsz : r.fields.length ≤ 16 := (by omega); have htl : r.tail < 0 ∨ kdOk s r.tail 2 lat = true := (by exact .inl (by omega)); CW.loop (G := Int × (List Tx) × Value) (fun ⟨k, m, v7⟩ s' w' => (Fr (6 :: 7 :: (9 :: (rg 30 22 []))) _ s') ∧ (Hp w w' (.row v7 9 1 (m.length) (txL m) :: _)) ∧ (s' 7 = v7) ∧ (s' 30 = I k) ∧ (0 ≤ k) ∧ (k ≤ r.fields.length) ∧ (m = (r.fields.take k.toNat).map FieldR.name) ∧ ((m.length : Int) = k) ∧ (∀ j : Int, 0 ≤ j → j < k → fieldOk s lat (r.fields.getD j.toNat field0) = true)) (fun ⟨k, m, v7⟩ => (r.fields.length - k).toNat) ((0, [], (.slice none 0 0 : Value))) ⟨Fr.refl _ _, hH44, rfl, rfl, (by omega), (by omega), rfl, rfl, fun j a b => absurd b (by omega)⟩ <| ?_
   rintro ⟨k, m, v7⟩ sg45 w45 ⟨fr45, hH45, e7_45, e30_45, h0, hk, hm, hml, hg⟩
   have e1_45 := fr45.ii 1 rfl rfl
   have e3_45 := fr45.pp 3 rfl rfl
   have e28_45 := (fr45 28 rfl).trans (by conv => lhs; whnf)
   have e29_45 := fr45.ii 29 rfl rfl
   refine SR <| V (run_lss e30_45 e29_45) <| RL.nil <| CW.seq <| CW.condP rfl (fun h47 => ?_) (fun h47 => ?_)
   ·refine CW.skip <| CW.seq <| CW.block <| SR <| V (run_indexAddrS (hr.fields.sl.hp hH45) underlying42 sizeOf71 e28_45 e30_45 (by omega)) <| V (run_ldE (dv := field0) fieldL_len (hr.fields.sl.hp hH45) underlying71 rfl rfl rfl (by omega)) <| RL.new rfl hH45 (f := fun b => (.pointer (some ⟨b, 0, none⟩))) (run_alloc zero_field) <| fun b50 w48 hH49 => RL.set hH49 (i := 0) rfl (run_stW (c' := (fieldL _).toArray) rfl rfl rfl (fieldL_one _) (hH49.blk (i := 0) rfl) rfl) <| fun w51 hH52 => ?_
    simp only [z2] at hH52
    refine RL.nil <| CW.seq <| SR <| V (fA underlying71 0 rfl sizeOf9 rfl) <| V (run_ld underlying9 rfl rfl (hH52.cell (i := 0) rfl (v := .string _) rfl)) <| RL.callP rfl hH52 (c_name_Right _  _) (run_call1 call54 rfl) <| fun w53 hH54 => V (run_not rfl) <| mB rfl <| RL.split (dj := 38) rfl (fun h57 => ?_) (fun h57 => ?_)
    ·refine gF rfl (bR (c := true) h57) <| gF rfl (bR (c := true) h57) <| gF rfl (bR (c := true) h57) <| gF rfl (bR (c := true) h57) <| gF rfl (bR (c := true) h57) <| gF rfl (bR (c := true) h57) <| V (run_pickT (bR (c := true) h57) (v := B true) rfl) <| RL.nil <| CW.condT rfl <| SR <| va (v := B false) rfl <| RL.nil <| CW.ret <| outP1 Tryz.results58 (congrArg B ?_) hH54.below
     exact (row_no3 h0 ‹k < _› (field_no1 (nt ‹(!nameR _) = true›))).symm
    ·refine gT rfl (bR (c := false) h57) <| V (run_ldA (cs := scpL _) underlying25 rfl rfl e3_45 (rangeAt_cells (hH54.blk (i := 3) rfl))) <| gT rfl (bR (c := false) h57) <| vm e1_45 <| gT rfl (bR (c := false) h57) <| V (fA underlying71 1 rfl sizeOf41 rfl) <| gT rfl (bR (c := false) h57) <| V (run_ldSub (sub := atomL _) underlying41 rfl rfl rfl (hH54.blk (i := 0) rfl) (field_atB _)) <| gT rfl (bR (c := false) h57) <| RL.callP rfl hH54 (c_fit_isAtom _ _ _ (by omega) _ (hs.mono hH54.kw) (hT.hp hH54)) (run_call3 call60 rfl rfl rfl) <| fun w58 hH59 => gT rfl (bR (c := false) h57) <| V (run_not rfl) <| V (run_pickF (bR (c := false) h57) (v := B _) rfl) <| RL.nil <| CW.cond rfl (fun h62 => ?_) (fun h62 => ?_)
     ·refine SR <| va (v := B false) rfl <| RL.nil <| CW.ret <| outP1 Tryz.results58 (congrArg B ?_) hH59.below
      exact (row_no3 h0 ‹k < _› (field_no2 (nt ‹(!atomOk s lat _) = true›))).symm
     ·refine CW.skip <| CW.region <| vm e7_45 <| V (fA underlying71 0 rfl sizeOf9 rfl) <| V (run_ld underlying9 rfl rfl (hH59.cell (i := 0) rfl (v := .string _) rfl)) <| RL.new rfl hH59 (f := fun b => (.slice (some ⟨b, 0, none⟩) 1 1)) (run_mkL underlying57 rfl rfl (sz := 1) (vs := [.string _]) rfl rfl (by decide) (by decide) rfl rfl) <| fun b65 w63 hH64 => ?_
      (try simp only [clX] at hH64)
      refine RL.app rfl hH64 (i := 2) rfl (hH64.slBlk (i := 0) (n := 1) (sz := 1) rfl rfl (by decide)) rfl rfl underlying57 rfl rfl (size := 1) (bytes := 16) rfl rfl rfl (by decide) (by simp [Value.oneCell']) (by omega) (by simp only [maxLen]; omega) <| fun v66 w67 hH68 => ?_
      simp only [z2] at hH68
      refine V (run_assign (by conv => lhs; whnf)) ?_
      refine RL.nil <| CW.region <| V (run_add e30_45 rfl (by omega)) <| mI rfl <| RL.nil <| ?_
      refine ⟨(k + 1, m ++ [(r.fields.getD k.toNat field0).name], v66), ?_, fr45.u4.u4.u4.u4.u4.u4, (Hp.conv (hH68.sub (sQ (sQ sR))) (by simp)), rfl, (congrArg I (by rfl)), ?_, ?_, ?_, ?_, ?_⟩
      ·((try dsimp only); omega)
      ·omega
      ·omega
      ·rw [fnames_next h0 ‹k < _›, ← hm]
      ·simp only [List.length_append, List.length_singleton]; omega
      ·exact fun j a b => if e : j = k then e ▸ field_yes (nf ‹(!nameR _) = false›) (nf ‹(!atomOk s lat _) = false›) else hg j a (by omega)
   ·refine CW.exit (id := 0) rfl <| SR <| vm e7_45 <| RL.callP rfl hH45 (c_name_Twice _ _  _ (hH45.sl (i := 0) rfl)) (run_call1 call56 rfl) <| fun w69 hH70 => V (run_lss rfl rfl) <| aB rfl <| RL.nil <| CW.ret <| outP1 Tryz.results58 (congrArg B ?_) hH70.below
    (rw [row_yes hsz htl ‹¬ k < _› hg, show m = fnames r by rw [hm, List.take_of_length_le (by omega)]; rfl])
theorem c_fit_isCode (s : Scp) (lat : Int) (v : Value) (l : List InsR) (hlat : 0 ≤ lat ∧ lat < s.lats.length) (w : World) (hc : Sl w v 10 l.length (l.flatMap insL)) (hs : ScpV (Kw w) s) (hT : Tab w) : Calls Tryz.prog 59 #[.agg (scpC s), I lat, v] w (Pure (B (codeOk s lat l)) w) := by
 have hm1 := hs.lats.sl.small
 have hm2 := hs.vars.sl.small
 unfold maxLen at hm1 hm2
 have hm3 := hc.small
 unfold maxLen at hm3
 refine enter Tryz.func59 rfl Tryz.ntmps59 rfl <| have hH := Hp.start w; SR <| RL.new rfl hH (f := fun b => (.pointer (some ⟨b, 0, none⟩))) (run_box (v := .agg _) rfl) <| fun b3 w1 hH2 => va (v := B false) rfl <| RL.nil <| CW.seq <| SR <| ?_
 refine V (run_move (by conv => lhs; whnf)) ?_
 refine V (run_lenSl (hc.hp hH2) rfl underlying36 rfl) <| vm (v := I 0) rfl <| RL.nil <| CW.block <| CW.loop (G := Int) (fun k s' w' => (Fr (6 :: (8 :: (rg 11 31 []))) _ s') ∧ (Hp w w' _) ∧ (s' 11 = I k) ∧ (0 ≤ k) ∧ (k ≤ l.length) ∧ (∀ j : Int, 0 ≤ j → j < k → insOk s lat (l.getD j.toNat ins0) = true)) (fun k => (l.length - k).toNat) (0) ⟨Fr.refl _ _, hH2, rfl, (by omega), (by omega), fun j a b => absurd b (by omega)⟩ <| ?_
 rintro k sg4 w4 ⟨fr4, hH4, e11_4, h0, hk, hg⟩
 have e1_4 := fr4.ii 1 rfl rfl
 have e2_4 := (fr4 2 rfl).trans (by conv => lhs; whnf)
 have e3_4 := fr4.pp 3 rfl rfl
 have e9_4 := (fr4 9 rfl).trans (by conv => lhs; whnf)
 have e10_4 := fr4.ii 10 rfl rfl
 refine SR <| V (run_lss e11_4 e10_4) <| RL.nil <| CW.seq <| CW.condP rfl (fun h6 => ?_) (fun h6 => ?_)
 ·refine CW.skip <| CW.seq <| CW.block <| SR <| V (run_indexAddrS (hc.hp hH4) underlying36 sizeOf91 e9_4 e11_4 (by omega)) <| V (run_ldE (dv := ins0) insL_len (hc.hp hH4) underlying91 rfl rfl rfl (by omega)) <| RL.new rfl hH4 (f := fun b => (.pointer (some ⟨b, 0, none⟩))) (run_alloc zero_ins) <| fun b9 w7 hH8 => RL.set hH8 (i := 0) rfl (run_stW (c' := (insL _).toArray) rfl rfl rfl (insL_one _) (hH8.blk (i := 0) rfl) rfl) <| fun w10 hH11 => ?_
  simp only [z2] at hH11
  refine RL.nil <| CW.seq <| SR <| V (fA underlying91 0 rfl sizeOf3 rfl) <| V (run_ld underlying3 rfl rfl (hH11.cell (i := 0) rfl (v := I _) rfl)) <| V (run_eql rfl rfl) <| mB rfl <| RL.splitP (dj := 18) rfl (fun h13 => ?_) (fun h13 => ?_)
  ·refine gT rfl (bT h13) <| V (run_ldA (cs := scpL _) underlying25 rfl rfl e3_4 (rangeAt_cells (hH11.blk (i := 1) rfl))) <| gT rfl (bT h13) <| V (fA underlying91 1 rfl sizeOf3 rfl) <| gT rfl (bT h13) <| V (run_ld underlying3 rfl rfl (hH11.cell (i := 0) rfl (v := I _) rfl)) <| gT rfl (bT h13) <| vm e1_4 <| gT rfl (bT h13) <| RL.callP rfl hH11 (c_fit_is _ _ _ _  _ (hs.mono hH11.kw)) (run_call4 call57 rfl rfl (show _ = I 1 from rfl) rfl) <| fun w14 hH15 => gT rfl (bT h13) <| V (run_not rfl) <| V (run_pickT (bT h13) (v := B _) rfl) <| RL.nil <| CW.cond rfl (fun h18 => ?_) (fun h18 => ?_)
   ·refine SR <| va (v := B false) rfl <| RL.nil <| CW.ret <| outP1 Tryz.results59 (congrArg B ?_) hH15.below
    exact (code_no1 h0 ‹k < _› (ins_no1 ‹(List.getD l _ _).op = 1› (nt ‹(!kdOk s _ 1 lat) = true›))).symm
   ·refine CW.skip <| CW.seq <| CW.regionD (by kernel_rfl) hH15 <| fun w19 hH20 => have zh20 := hH20.sub sR; AQ 0 rfl zh20 (fA underlying91 0 rfl sizeOf3 rfl) <| AT 1 rfl zh20 (fun w hS => run_ld underlying3 rfl rfl (hS.cell (i := 0) rfl (v := I _) rfl)) <| AQ 2 rfl zh20 (run_eql rfl rfl) <| AQ 3 rfl zh20 (mV (B _) rfl) <| AN.splitP (dj := 29) rfl (fun h22 => ?_) (fun h22 => ?_)
    ·refine AG 4 rfl rfl (bT h22) (hH20.sub sR) (fun w hS => fA underlying25 0 rfl sizeOf22 e3_4) <| AG 5 rfl rfl (bT h22) (hH20.sub sR) (fun w hS => run_ldV (hs.lats.sl.hp hS) underlying22 rfl rfl (hS.cell (i := 1) rfl rfl)) <| AG 6 rfl rfl (bT h22) (hH20.sub sR) (fun w hS => run_move e1_4) <| AG 7 rfl rfl (bT h22) (hH20.sub sR) (fun w hS => run_indexAddrS (hs.lats.sl.hp hS) underlying22 sizeOf67 rfl rfl (by omega)) <| AG 8 rfl rfl (bT h22) (hH20.sub sR) (fun w hS => fA underlying67 1 rfl sizeOf65 rfl) <| AG 9 rfl rfl (bT h22) (hH20.sub sR) (fun w hS => run_ldEA (dv := lat0) (off := 1) (cs := shpL _) latL_len (hs.lats.sl.hp hS) underlying65 rfl rfl rfl (by omega) (lat_shp _)) <| AG 10 rfl rfl (bT h22) (hH20.sub sR) (fun w hS => fA underlying91 2 rfl sizeOf39 rfl) <| AG 11 rfl rfl (bT h22) (hH20.sub sR) (fun w hS => run_ldElR underlying39 rfl rfl rfl (hS.blk (i := 0) rfl) (ins_elB _)) <| A1 12 <| AO.callP rfl (gsome rfl (bT h22)) rfl hH20 sR (c_shape_Fits _ _  _ ((hs.at (by omega) (by omega)).mono hH20.kw) (hT.hp hH20)) (run_call2 call38 rfl rfl) <| fun w23 hH24 => AG 13 rfl rfl (bT h22) (hH24.sub sR) (fun w hS => run_not rfl) <| AQ 14 rfl (hH24.sub sR) (run_pickT (bT h22) (v := B _) rfl) <| AD <| CW.cond rfl (fun h27 => ?_) (fun h27 => ?_)
     ·refine SR <| va (v := B false) rfl <| RL.nil <| CW.ret <| outP1 Tryz.results59 (congrArg B ?_) hH24.below
      exact (code_no1 h0 ‹k < _› (ins_no2 ‹(List.getD l _ _).op = 2› (nt ‹(!fitsS _ _) = true›))).symm
     ·refine CW.skip <| CW.region <| V (run_add e11_4 rfl (by omega)) <| mI rfl <| RL.nil <| ?_
      refine ⟨k + 1, ?_, fr4.u4.u4.u4.u4.u4.u4.u4.u4, (hH24.sub (sQ sR)), (congrArg I (by rfl)), ?_, ?_, ?_⟩
      ·((try dsimp only); omega)
      ·omega
      ·omega
      ·exact fun j a b => if e : j = k then e ▸ ins_yes (by exact .inr (nf ‹(!kdOk s _ 1 lat) = false›)) (by exact .inr (nf ‹(!fitsS _ _) = false›)) else hg j a (by omega)
    ·refine AK 4 rfl rfl (bF h22) (hH20.sub sR) <| AK 5 rfl rfl (bF h22) (hH20.sub sR) <| AK 6 rfl rfl (bF h22) (hH20.sub sR) <| AK 7 rfl rfl (bF h22) (hH20.sub sR) <| AK 8 rfl rfl (bF h22) (hH20.sub sR) <| AK 9 rfl rfl (bF h22) (hH20.sub sR) <| AK 10 rfl rfl (bF h22) (hH20.sub sR) <| AK 11 rfl rfl (bF h22) (hH20.sub sR) <| AK 12 rfl rfl (bF h22) (hH20.sub sR) <| AK 13 rfl rfl (bF h22) (hH20.sub sR) <| AQ 14 rfl zh20 (run_pickF (bF h22) (v := B false) rfl) <| AD <| CW.condF rfl <| CW.skip <| CW.region <| V (run_add e11_4 rfl (by omega)) <| mI rfl <| RL.nil <| ?_
     refine ⟨k + 1, ?_, fr4.u4.u4.u4.u4.u4.u4.u4.u4, (hH20.sub (sQ sR)), (congrArg I (by rfl)), ?_, ?_, ?_⟩
     ·((try dsimp only); omega)
     ·omega
     ·omega
     ·exact fun j a b => if e : j = k then e ▸ ins_yes (by exact .inr (nf ‹(!kdOk s _ 1 lat) = false›)) (by exact .inl ‹¬ (List.getD l _ _).op = 2›) else hg j a (by omega)
  ·refine gF rfl (bF h13) <| gF rfl (bF h13) <| gF rfl (bF h13) <| gF rfl (bF h13) <| gF rfl (bF h13) <| gF rfl (bF h13) <| V (run_pickF (bF h13) (v := B false) rfl) <| RL.nil <| CW.condF rfl <| CW.skip <| CW.seq <| CW.regionD (by kernel_rfl) hH11 <| fun w28 hH29 => have zh29 := hH29.sub sR; AQ 0 rfl zh29 (fA underlying91 0 rfl sizeOf3 rfl) <| AT 1 rfl zh29 (fun w hS => run_ld underlying3 rfl rfl (hS.cell (i := 0) rfl (v := I _) rfl)) <| AQ 2 rfl zh29 (run_eql rfl rfl) <| AQ 3 rfl zh29 (mV (B _) rfl) <| AN.splitP (dj := 29) rfl (fun h31 => ?_) (fun h31 => ?_)
   ·refine AG 4 rfl rfl (bT h31) (hH29.sub sR) (fun w hS => fA underlying25 0 rfl sizeOf22 e3_4) <| AG 5 rfl rfl (bT h31) (hH29.sub sR) (fun w hS => run_ldV (hs.lats.sl.hp hS) underlying22 rfl rfl (hS.cell (i := 1) rfl rfl)) <| AG 6 rfl rfl (bT h31) (hH29.sub sR) (fun w hS => run_move e1_4) <| AG 7 rfl rfl (bT h31) (hH29.sub sR) (fun w hS => run_indexAddrS (hs.lats.sl.hp hS) underlying22 sizeOf67 rfl rfl (by omega)) <| AG 8 rfl rfl (bT h31) (hH29.sub sR) (fun w hS => fA underlying67 1 rfl sizeOf65 rfl) <| AG 9 rfl rfl (bT h31) (hH29.sub sR) (fun w hS => run_ldEA (dv := lat0) (off := 1) (cs := shpL _) latL_len (hs.lats.sl.hp hS) underlying65 rfl rfl rfl (by omega) (lat_shp _)) <| AG 10 rfl rfl (bT h31) (hH29.sub sR) (fun w hS => fA underlying91 2 rfl sizeOf39 rfl) <| AG 11 rfl rfl (bT h31) (hH29.sub sR) (fun w hS => run_ldElR underlying39 rfl rfl rfl (hS.blk (i := 0) rfl) (ins_elB _)) <| A1 12 <| AO.callP rfl (gsome rfl (bT h31)) rfl hH29 sR (c_shape_Fits _ _  _ ((hs.at (by omega) (by omega)).mono hH29.kw) (hT.hp hH29)) (run_call2 call38 rfl rfl) <| fun w32 hH33 => AG 13 rfl rfl (bT h31) (hH33.sub sR) (fun w hS => run_not rfl) <| AQ 14 rfl (hH33.sub sR) (run_pickT (bT h31) (v := B _) rfl) <| AD <| CW.cond rfl (fun h36 => ?_) (fun h36 => ?_)
    ·refine SR <| va (v := B false) rfl <| RL.nil <| CW.ret <| outP1 Tryz.results59 (congrArg B ?_) hH33.below
     exact (code_no1 h0 ‹k < _› (ins_no2 ‹(List.getD l _ _).op = 2› (nt ‹(!fitsS _ _) = true›))).symm
    ·refine CW.skip <| CW.region <| V (run_add e11_4 rfl (by omega)) <| mI rfl <| RL.nil <| ?_
     refine ⟨k + 1, ?_, fr4.u4.u4.u4.u4.u4.u4.u4.u4, (hH33.sub (sQ sR)), (congrArg I (by rfl)), ?_, ?_, ?_⟩
     ·((try dsimp only); omega)
     ·omega
     ·omega
     ·exact fun j a b => if e : j = k then e ▸ ins_yes (by exact .inl ‹¬ (List.getD l _ _).op = 1›) (by exact .inr (nf ‹(!fitsS _ _) = false›)) else hg j a (by omega)
   ·refine AK 4 rfl rfl (bF h31) (hH29.sub sR) <| AK 5 rfl rfl (bF h31) (hH29.sub sR) <| AK 6 rfl rfl (bF h31) (hH29.sub sR) <| AK 7 rfl rfl (bF h31) (hH29.sub sR) <| AK 8 rfl rfl (bF h31) (hH29.sub sR) <| AK 9 rfl rfl (bF h31) (hH29.sub sR) <| AK 10 rfl rfl (bF h31) (hH29.sub sR) <| AK 11 rfl rfl (bF h31) (hH29.sub sR) <| AK 12 rfl rfl (bF h31) (hH29.sub sR) <| AK 13 rfl rfl (bF h31) (hH29.sub sR) <| AQ 14 rfl zh29 (run_pickF (bF h31) (v := B false) rfl) <| AD <| CW.condF rfl <| CW.skip <| CW.region <| V (run_add e11_4 rfl (by omega)) <| mI rfl <| RL.nil <| ?_
    refine ⟨k + 1, ?_, fr4.u4.u4.u4.u4.u4.u4.u4.u4, (hH29.sub (sQ sR)), (congrArg I (by rfl)), ?_, ?_, ?_⟩
    ·((try dsimp only); omega)
    ·omega
    ·omega
    ·exact fun j a b => if e : j = k then e ▸ ins_yes (by exact .inl ‹¬ (List.getD l _ _).op = 1›) (by exact .inl ‹¬ (List.getD l _ _).op = 2›) else hg j a (by omega)
 ·refine CW.exit (id := 0) rfl <| SR <| vm e2_4 <| RL.callP rfl hH4 (c_code_Right _ _  _ (hc.hp hH4)) (run_call1 call44 rfl) <| fun w37 hH38 => aB rfl <| RL.nil <| CW.ret <| outP1 Tryz.results59 (congrArg B ?_) hH38.below
  (rw [code_yes ‹¬ k < _› hg])
theorem c_fit_Right (s : Scp) (x : AssR) (w : World) (hs : ScpV (Kw w) s) (hx : AssV (Kw w) x) (hT : Tab w) : Calls Tryz.prog 33 #[.agg (scpC s), .agg (assL x).toArray] w (Pure (B (assOk s x)) w) := by
 have hm1 := hs.lats.sl.small
 have hm2 := hs.vars.sl.small
 unfold maxLen at hm1 hm2
 have hm3 := hx.code.small
 unfold maxLen at hm3
 refine enter Tryz.func33 rfl Tryz.ntmps33 rfl <| have hH := Hp.start w; SR <| RL.new rfl hH (f := fun b => (.pointer (some ⟨b, 0, none⟩))) (run_box (v := .agg _) rfl) <| fun b3 w1 hH2 => RL.new rfl hH2 (f := fun b => (.pointer (some ⟨b, 0, none⟩))) (run_box (v := .agg _) rfl) <| fun b6 w4 hH5 => va (v := B false) rfl <| RL.nil <| SR <| V (fA underlying46 1 rfl sizeOf3 rfl) <| V (run_ld underlying3 rfl rfl (hH5.cell (i := 0) rfl (v := I _) rfl)) <| V (run_geq rfl rfl) <| mB rfl <| RL.splitP (dj := 9) rfl (fun h8 => ?_) (fun h8 => ?_)
 ·refine gT rfl (bT h8) <| V (fA underlying46 1 rfl sizeOf3 rfl) <| gT rfl (bT h8) <| V (run_ld underlying3 rfl rfl (hH5.cell (i := 0) rfl (v := I _) rfl)) <| gT rfl (bT h8) <| V (fA underlying25 0 rfl sizeOf22 rfl) <| gT rfl (bT h8) <| V (run_ldV (hs.lats.sl.hp hH5) underlying22 rfl rfl (hH5.cell (i := 1) rfl rfl)) <| gT rfl (bT h8) <| V (run_lenSl (hs.lats.sl.hp hH5) rfl underlying22 rfl) <| gT rfl (bT h8) <| V (run_lss rfl rfl) <| V (run_pickT (bT h8) (v := B _) rfl) <| aB rfl <| RL.nil <| CW.seq <| SR <| V (fA underlying46 0 rfl sizeOf3 rfl) <| V (run_ld underlying3 rfl rfl (hH5.cell (i := 0) rfl (v := I _) rfl)) <| RL.nil <| CW.block <| SR <| V (run_eql rfl rfl) <| aB rfl <| RL.nil <| CW.condP rfl (fun h11 => ?_) (fun h11 => ?_)
  ·refine SR <| V (run_ldA (cs := scpL _) underlying25 rfl rfl rfl (rangeAt_cells (hH5.blk (i := 1) rfl))) <| V (fA underlying46 16 rfl sizeOf3 rfl) <| V (run_ld underlying3 rfl rfl (hH5.cell (i := 0) rfl (v := I _) rfl)) <| V (fA underlying46 1 rfl sizeOf3 rfl) <| V (run_ld underlying3 rfl rfl (hH5.cell (i := 0) rfl (v := I _) rfl)) <| RL.callP rfl hH5 (c_fit_is _ _ _ _  _ (hs.mono hH5.kw)) (run_call4 call57 rfl rfl (show _ = I 2 from rfl) rfl) <| fun w12 hH13 => mB rfl <| RL.split (dj := 27) rfl (fun h15 => ?_) (fun h15 => ?_)
   ·refine gT rfl (bR (c := true) h15) <| V (fA underlying46 17 rfl sizeOf9 rfl) <| gT rfl (bR (c := true) h15) <| V (run_ld underlying9 rfl rfl (hH13.cell (i := 0) rfl (v := .string _) rfl)) <| gT rfl (bR (c := true) h15) <| RL.callP rfl hH13 (c_name_Right _  _) (run_call1 call54 rfl) <| fun w16 hH17 => V (run_pickT (bR (c := true) h15) (v := B _) rfl) <| aB rfl <| RL.nil <| CW.ret <| outP1 Tryz.results33 (congrArg B ?_) hH17.below
    (rw [ass_10 ‹x.op = 10›, ‹kdOk s x.var 2 x.lat = true›, Bool.true_and]; done)
   ·refine gF rfl (bR (c := false) h15) <| gF rfl (bR (c := false) h15) <| gF rfl (bR (c := false) h15) <| V (run_pickF (bR (c := false) h15) (v := B false) rfl) <| aB rfl <| RL.nil <| CW.ret <| outP1 Tryz.results33 (congrArg B ?_) hH13.below
    (rw [ass_10 ‹x.op = 10›, ‹kdOk s x.var 2 x.lat = false›, Bool.false_and]; done)
  ·refine SR <| V (run_eql rfl rfl) <| aB rfl <| RL.nil <| CW.condP rfl (fun h20 => ?_) (fun h20 => ?_)
   ·refine SR <| mB rfl <| mB rfl <| RL.splitP (dj := 35) rfl (fun h21 => ?_) (fun h21 => ?_)
    ·refine gT rfl (bT h21) <| V (run_ldA (cs := scpL _) underlying25 rfl rfl rfl (rangeAt_cells (hH5.blk (i := 1) rfl))) <| gT rfl (bT h21) <| V (fA underlying46 1 rfl sizeOf3 rfl) <| gT rfl (bT h21) <| V (run_ld underlying3 rfl rfl (hH5.cell (i := 0) rfl (v := I _) rfl)) <| gT rfl (bT h21) <| V (fA underlying46 12 rfl sizeOf44 rfl) <| gT rfl (bT h21) <| V (run_ldSub (sub := rtmL _) underlying44 rfl rfl rfl (hH5.blk (i := 0) rfl) (ass_aB _)) <| gT rfl (bT h21) <| RL.callP rfl hH5 (c_fit_isRow _ _ _ (by omega) _ (hs.mono hH5.kw) (hx.a.mono hH5.kw) (hT.hp hH5)) (run_call3 call58 rfl rfl rfl) <| fun w22 hH23 => V (run_pickT (bT h21) (v := B _) rfl) <| mB rfl <| RL.split (dj := 43) rfl (fun h25 => ?_) (fun h25 => ?_)
     ·refine gT rfl (bR (c := true) h25) <| V (run_ldA (cs := scpL _) underlying25 rfl rfl rfl (rangeAt_cells (hH23.blk (i := 1) rfl))) <| gT rfl (bR (c := true) h25) <| V (fA underlying46 1 rfl sizeOf3 rfl) <| gT rfl (bR (c := true) h25) <| V (run_ld underlying3 rfl rfl (hH23.cell (i := 0) rfl (v := I _) rfl)) <| gT rfl (bR (c := true) h25) <| V (fA underlying46 14 rfl sizeOf44 rfl) <| gT rfl (bR (c := true) h25) <| V (run_ldSub (sub := rtmL _) underlying44 rfl rfl rfl (hH23.blk (i := 0) rfl) (ass_bB _)) <| gT rfl (bR (c := true) h25) <| RL.callP rfl hH23 (c_fit_isRow _ _ _ (by omega) _ (hs.mono hH23.kw) (hx.b.mono hH23.kw) (hT.hp hH23)) (run_call3 call58 rfl rfl rfl) <| fun w26 hH27 => V (run_pickT (bR (c := true) h25) (v := B _) rfl) <| aB rfl <| RL.nil <| CW.ret <| outP1 Tryz.results33 (congrArg B ?_) hH27.below
      (rw [ass_9 ‹x.op = 9› (show 0 ≤ x.lat ∧ x.lat < s.lats.length by omega), ‹rowOk s x.lat x.a = true›, Bool.true_and]; done)
     ·refine gF rfl (bR (c := false) h25) <| gF rfl (bR (c := false) h25) <| gF rfl (bR (c := false) h25) <| gF rfl (bR (c := false) h25) <| gF rfl (bR (c := false) h25) <| gF rfl (bR (c := false) h25) <| V (run_pickF (bR (c := false) h25) (v := B false) rfl) <| aB rfl <| RL.nil <| CW.ret <| outP1 Tryz.results33 (congrArg B ?_) hH23.below
      (rw [ass_9 ‹x.op = 9› (show 0 ≤ x.lat ∧ x.lat < s.lats.length by omega), ‹rowOk s x.lat x.a = false›, Bool.false_and]; done)
    ·refine gF rfl (bF h21) <| gF rfl (bF h21) <| gF rfl (bF h21) <| gF rfl (bF h21) <| gF rfl (bF h21) <| gF rfl (bF h21) <| V (run_pickF (bF h21) (v := B false) rfl) <| mB rfl <| gF rfl rfl <| gF rfl rfl <| gF rfl rfl <| gF rfl rfl <| gF rfl rfl <| gF rfl rfl <| V (run_pickF rfl (v := B false) rfl) <| aB rfl <| RL.nil <| CW.ret <| outP1 Tryz.results33 (congrArg B ?_) hH5.below
     (rw [ass_no (by omega) (by omega)]; done)
   ·refine SR <| V (run_eql rfl rfl) <| aB rfl <| RL.nil <| CW.condP rfl (fun h30 => ?_) (fun h30 => ?_)
    ·refine SR <| mB rfl <| mB rfl <| RL.splitP (dj := 54) rfl (fun h31 => ?_) (fun h31 => ?_)
     ·refine gT rfl (bT h31) <| V (run_ldA (cs := scpL _) underlying25 rfl rfl rfl (rangeAt_cells (hH5.blk (i := 1) rfl))) <| gT rfl (bT h31) <| V (fA underlying46 1 rfl sizeOf3 rfl) <| gT rfl (bT h31) <| V (run_ld underlying3 rfl rfl (hH5.cell (i := 0) rfl (v := I _) rfl)) <| gT rfl (bT h31) <| V (fA underlying46 2 rfl sizeOf36 rfl) <| gT rfl (bT h31) <| V (run_ldV (hx.code.sl.hp hH5) underlying36 rfl rfl (hH5.cell (i := 0) rfl rfl)) <| gT rfl (bT h31) <| RL.callP rfl hH5 (c_fit_isCode _ _ _ _ (by omega) _ (hx.code.sl.hp hH5) (hs.mono hH5.kw) (hT.hp hH5)) (run_call3 call59 rfl rfl rfl) <| fun w32 hH33 => V (run_pickT (bT h31) (v := B _) rfl) <| mB rfl <| RL.split (dj := 62) rfl (fun h35 => ?_) (fun h35 => ?_)
      ·refine gT rfl (bR (c := true) h35) <| V (run_ldA (cs := scpL _) underlying25 rfl rfl rfl (rangeAt_cells (hH33.blk (i := 1) rfl))) <| gT rfl (bR (c := true) h35) <| V (fA underlying46 1 rfl sizeOf3 rfl) <| gT rfl (bR (c := true) h35) <| V (run_ld underlying3 rfl rfl (hH33.cell (i := 0) rfl (v := I _) rfl)) <| gT rfl (bR (c := true) h35) <| V (fA underlying46 3 rfl sizeOf41 rfl) <| gT rfl (bR (c := true) h35) <| V (run_ldSub (sub := atomL _) underlying41 rfl rfl rfl (hH33.blk (i := 0) rfl) (ass_toB _)) <| gT rfl (bR (c := true) h35) <| RL.callP rfl hH33 (c_fit_isAtom _ _ _ (by omega) _ (hs.mono hH33.kw) (hT.hp hH33)) (run_call3 call60 rfl rfl rfl) <| fun w36 hH37 => V (run_pickT (bR (c := true) h35) (v := B _) rfl) <| aB rfl <| RL.nil <| CW.ret <| outP1 Tryz.results33 (congrArg B ?_) hH37.below
       (rw [ass_8 ‹x.op = 8› (show 0 ≤ x.lat ∧ x.lat < s.lats.length by omega), ‹codeOk s x.lat x.code = true›, Bool.true_and]; done)
      ·refine gF rfl (bR (c := false) h35) <| gF rfl (bR (c := false) h35) <| gF rfl (bR (c := false) h35) <| gF rfl (bR (c := false) h35) <| gF rfl (bR (c := false) h35) <| gF rfl (bR (c := false) h35) <| V (run_pickF (bR (c := false) h35) (v := B false) rfl) <| aB rfl <| RL.nil <| CW.ret <| outP1 Tryz.results33 (congrArg B ?_) hH33.below
       (rw [ass_8 ‹x.op = 8› (show 0 ≤ x.lat ∧ x.lat < s.lats.length by omega), ‹codeOk s x.lat x.code = false›, Bool.false_and]; done)
     ·refine gF rfl (bF h31) <| gF rfl (bF h31) <| gF rfl (bF h31) <| gF rfl (bF h31) <| gF rfl (bF h31) <| gF rfl (bF h31) <| V (run_pickF (bF h31) (v := B false) rfl) <| mB rfl <| gF rfl rfl <| gF rfl rfl <| gF rfl rfl <| gF rfl rfl <| gF rfl rfl <| gF rfl rfl <| V (run_pickF rfl (v := B false) rfl) <| aB rfl <| RL.nil <| CW.ret <| outP1 Tryz.results33 (congrArg B ?_) hH5.below
      (rw [ass_no (by omega) (by omega)]; done)
    ·refine CW.skip <| SR <| va (v := B false) rfl <| RL.nil <| CW.ret <| outP1 Tryz.results33 (congrArg B ?_) hH5.below
     (rw [ass_x (by omega) (by omega) (by omega)]; done)
 ·refine gF rfl (bF h8) <| gF rfl (bF h8) <| gF rfl (bF h8) <| gF rfl (bF h8) <| gF rfl (bF h8) <| gF rfl (bF h8) <| V (run_pickF (bF h8) (v := B false) rfl) <| aB rfl <| RL.nil <| CW.seq <| SR <| V (fA underlying46 0 rfl sizeOf3 rfl) <| V (run_ld underlying3 rfl rfl (hH5.cell (i := 0) rfl (v := I _) rfl)) <| RL.nil <| CW.block <| SR <| V (run_eql rfl rfl) <| aB rfl <| RL.nil <| CW.condP rfl (fun h40 => ?_) (fun h40 => ?_)
  ·refine SR <| V (run_ldA (cs := scpL _) underlying25 rfl rfl rfl (rangeAt_cells (hH5.blk (i := 1) rfl))) <| V (fA underlying46 16 rfl sizeOf3 rfl) <| V (run_ld underlying3 rfl rfl (hH5.cell (i := 0) rfl (v := I _) rfl)) <| V (fA underlying46 1 rfl sizeOf3 rfl) <| V (run_ld underlying3 rfl rfl (hH5.cell (i := 0) rfl (v := I _) rfl)) <| RL.callP rfl hH5 (c_fit_is _ _ _ _  _ (hs.mono hH5.kw)) (run_call4 call57 rfl rfl (show _ = I 2 from rfl) rfl) <| fun w41 hH42 => mB rfl <| RL.split (dj := 27) rfl (fun h44 => ?_) (fun h44 => ?_)
   ·refine gT rfl (bR (c := true) h44) <| V (fA underlying46 17 rfl sizeOf9 rfl) <| gT rfl (bR (c := true) h44) <| V (run_ld underlying9 rfl rfl (hH42.cell (i := 0) rfl (v := .string _) rfl)) <| gT rfl (bR (c := true) h44) <| RL.callP rfl hH42 (c_name_Right _  _) (run_call1 call54 rfl) <| fun w45 hH46 => V (run_pickT (bR (c := true) h44) (v := B _) rfl) <| aB rfl <| RL.nil <| CW.ret <| outP1 Tryz.results33 (congrArg B ?_) hH46.below
    (rw [ass_10 ‹x.op = 10›, ‹kdOk s x.var 2 x.lat = true›, Bool.true_and]; done)
   ·refine gF rfl (bR (c := false) h44) <| gF rfl (bR (c := false) h44) <| gF rfl (bR (c := false) h44) <| V (run_pickF (bR (c := false) h44) (v := B false) rfl) <| aB rfl <| RL.nil <| CW.ret <| outP1 Tryz.results33 (congrArg B ?_) hH42.below
    (rw [ass_10 ‹x.op = 10›, ‹kdOk s x.var 2 x.lat = false›, Bool.false_and]; done)
  ·refine SR <| V (run_eql rfl rfl) <| aB rfl <| RL.nil <| CW.condP rfl (fun h49 => ?_) (fun h49 => ?_)
   ·refine SR <| mB rfl <| mB rfl <| gF rfl rfl <| gF rfl rfl <| gF rfl rfl <| gF rfl rfl <| gF rfl rfl <| gF rfl rfl <| V (run_pickF rfl (v := B false) rfl) <| mB rfl <| gF rfl rfl <| gF rfl rfl <| gF rfl rfl <| gF rfl rfl <| gF rfl rfl <| gF rfl rfl <| V (run_pickF rfl (v := B false) rfl) <| aB rfl <| RL.nil <| CW.ret <| outP1 Tryz.results33 (congrArg B ?_) hH5.below
    (rw [ass_no (by omega) (by omega)]; done)
   ·refine SR <| V (run_eql rfl rfl) <| aB rfl <| RL.nil <| CW.condP rfl (fun h51 => ?_) (fun h51 => ?_)
    ·refine SR <| mB rfl <| mB rfl <| gF rfl rfl <| gF rfl rfl <| gF rfl rfl <| gF rfl rfl <| gF rfl rfl <| gF rfl rfl <| V (run_pickF rfl (v := B false) rfl) <| mB rfl <| gF rfl rfl <| gF rfl rfl <| gF rfl rfl <| gF rfl rfl <| gF rfl rfl <| gF rfl rfl <| V (run_pickF rfl (v := B false) rfl) <| aB rfl <| RL.nil <| CW.ret <| outP1 Tryz.results33 (congrArg B ?_) hH5.below
     (rw [ass_no (by omega) (by omega)]; done)
    ·refine CW.skip <| SR <| va (v := B false) rfl <| RL.nil <| CW.ret <| outP1 Tryz.results33 (congrArg B ?_) hH5.below
     (rw [ass_no (by omega) (by omega)]; done)
theorem c_scope_Right (s : Scp) (w : World) (hs : ScpV (Kw w) s) (hT : Tab w) : Calls Tryz.prog 32 #[.agg (scpC s)] w (Pure (B (rightS s)) w) := by
 have hm1 := hs.lats.sl.small
 have hm2 := hs.vars.sl.small
 unfold maxLen at hm1 hm2
 refine enter Tryz.func32 rfl Tryz.ntmps32 rfl <| have hH := Hp.start w; SR <| RL.new rfl hH (f := fun b => (.pointer (some ⟨b, 0, none⟩))) (run_box (v := .agg _) rfl) <| fun b3 w1 hH2 => va (v := B false) rfl <| RL.nil <| CW.seq <| SR <| V (fA underlying25 0 rfl sizeOf22 rfl) <| V (run_ldV (hs.lats.sl.hp hH2) underlying22 rfl rfl (hH2.cell (i := 0) rfl rfl)) <| V (run_lenSl (hs.lats.sl.hp hH2) rfl underlying22 rfl) <| V (run_gtr rfl rfl) <| mB rfl <| RL.splitP (dj := 12) rfl (fun h5 => ?_) (fun h5 => ?_)
 ·refine gF rfl (bT h5) <| gF rfl (bT h5) <| gF rfl (bT h5) <| gF rfl (bT h5) <| V (run_pickT (bT h5) (v := B true) rfl) <| RL.nil <| CW.condT rfl <| SR <| va (v := B false) rfl <| RL.nil <| CW.ret <| outP1 Tryz.results32 (congrArg B ?_) hH2.below
  exact (right_no1 (by omega)).symm
 ·refine gT rfl (bF h5) <| V (fA underlying25 1 rfl sizeOf23 rfl) <| gT rfl (bF h5) <| V (run_ldV (hs.vars.sl.hp hH2) underlying23 rfl rfl (hH2.cell (i := 0) rfl rfl)) <| gT rfl (bF h5) <| V (run_lenSl (hs.vars.sl.hp hH2) rfl underlying23 rfl) <| gT rfl (bF h5) <| V (run_gtr rfl rfl) <| V (run_pickF (bF h5) (v := B _) rfl) <| RL.nil <| CW.condP rfl (fun h7 => ?_) (fun h7 => ?_)
  ·refine SR <| va (v := B false) rfl <| RL.nil <| CW.ret <| outP1 Tryz.results32 (congrArg B ?_) hH2.below
   exact (right_no1 (by omega)).symm
  ·refine CW.skip <| SR <| va (v := .slice none 0 0) rfl <| have hH8 := hH2.nilRow 9 1; RL.nil <| CW.seq <| SR <| V (fA underlying25 0 rfl sizeOf22 rfl) <| V (run_ldV (hs.lats.sl.hp hH8) underlying22 rfl rfl (hH8.cell (i := 1) rfl rfl)) <| V (run_lenSl (hs.lats.sl.hp hH8) rfl underlying22 rfl) <| vm (v := I 0) rfl <| RL.nil <| CW.block <| have hsz : s.lats.length ≤ 16 ∧ s.vars.length ≤ 64 := (by omega); CW.loop (G := Int × (List Tx) × Value) (fun ⟨k, m, v3⟩ s' w' => (Fr (2 :: 3 :: (5 :: (rg 21 20 []))) _ s') ∧ (Hp w w' (.row v3 9 1 (m.length) (txL m) :: _)) ∧ (s' 3 = v3) ∧ (s' 21 = I k) ∧ (0 ≤ k) ∧ (k ≤ s.lats.length) ∧ (m = (s.lats.take k.toNat).map LatR.name) ∧ ((m.length : Int) = k) ∧ (∀ j : Int, 0 ≤ j → j < k → latOk (s.lats.getD j.toNat lat0) = true)) (fun ⟨k, m, v3⟩ => (s.lats.length - k).toNat) ((0, [], (.slice none 0 0 : Value))) ⟨Fr.refl _ _, hH8, rfl, rfl, (by omega), (by omega), rfl, rfl, fun j a b => absurd b (by omega)⟩ <| ?_
   rintro ⟨k, m, v3⟩ sg9 w9 ⟨fr9, hH9, e3_9, e21_9, h0, hk, hm, hml, hg⟩
   have e1_9 := fr9.pp 1 rfl rfl
   have e19_9 := (fr9 19 rfl).trans (by conv => lhs; whnf)
   have e20_9 := fr9.ii 20 rfl rfl
   refine SR <| V (run_lss e21_9 e20_9) <| RL.nil <| CW.seq <| CW.condP rfl (fun h11 => ?_) (fun h11 => ?_)
   ·refine CW.skip <| CW.seq <| CW.block <| SR <| V (run_indexAddrS (hs.lats.sl.hp hH9) underlying22 sizeOf67 e19_9 e21_9 (by omega)) <| V (run_ldE (dv := lat0) latL_len (hs.lats.sl.hp hH9) underlying67 rfl rfl rfl (by omega)) <| RL.new rfl hH9 (f := fun b => (.pointer (some ⟨b, 0, none⟩))) (run_alloc zero_lat) <| fun b14 w12 hH13 => RL.set hH13 (i := 0) rfl (run_stW (c' := (latL _).toArray) rfl rfl rfl (latL_one (hs.at (by omega) (by omega))) (hH13.blk (i := 0) rfl) rfl) <| fun w15 hH16 => ?_
    simp only [z2] at hH16
    refine RL.nil <| CW.seq <| SR <| V (fA underlying67 0 rfl sizeOf9 rfl) <| V (run_ld underlying9 rfl rfl (hH16.cell (i := 0) rfl (v := .string _) rfl)) <| RL.callP rfl hH16 (c_name_Right _  _) (run_call1 call54 rfl) <| fun w17 hH18 => V (run_not rfl) <| mB rfl <| RL.split (dj := 29) rfl (fun h21 => ?_) (fun h21 => ?_)
    ·refine gF rfl (bR (c := true) h21) <| gF rfl (bR (c := true) h21) <| gF rfl (bR (c := true) h21) <| gF rfl (bR (c := true) h21) <| V (run_pickT (bR (c := true) h21) (v := B true) rfl) <| RL.nil <| CW.condT rfl <| SR <| va (v := B false) rfl <| RL.nil <| CW.ret <| outP1 Tryz.results32 (congrArg B ?_) hH18.below
     exact (right_no2 h0 ‹k < _› (by rw [latOk, nt ‹(!nameR _) = true›]; rfl)).symm
    ·refine gT rfl (bR (c := false) h21) <| V (fA underlying67 1 rfl sizeOf65 rfl) <| gT rfl (bR (c := false) h21) <| V (run_ldSub (sub := shpL _) underlying65 rfl rfl rfl (hH18.blk (i := 0) rfl) rfl) <| gT rfl (bR (c := false) h21) <| RL.callP rfl hH18 (c_shape_Right _  _ ((hs.at (by omega) (by omega)).mono hH18.kw) (hT.hp hH18)) (run_call1 call55 rfl) <| fun w22 hH23 => gT rfl (bR (c := false) h21) <| V (run_not rfl) <| V (run_pickF (bR (c := false) h21) (v := B _) rfl) <| RL.nil <| CW.cond rfl (fun h26 => ?_) (fun h26 => ?_)
     ·refine SR <| va (v := B false) rfl <| RL.nil <| CW.ret <| outP1 Tryz.results32 (congrArg B ?_) hH23.below
      exact (right_no2 h0 ‹k < _› (by rw [latOk, nt ‹(!shR _) = true›, Bool.and_false])).symm
     ·refine CW.skip <| CW.region <| vm e3_9 <| V (fA underlying67 0 rfl sizeOf9 rfl) <| V (run_ld underlying9 rfl rfl (hH23.cell (i := 0) rfl (v := .string _) rfl)) <| RL.new rfl hH23 (f := fun b => (.slice (some ⟨b, 0, none⟩) 1 1)) (run_mkL underlying57 rfl rfl (sz := 1) (vs := [.string _]) rfl rfl (by decide) (by decide) rfl rfl) <| fun b29 w27 hH28 => ?_
      (try simp only [clX] at hH28)
      refine RL.app rfl hH28 (i := 2) rfl (hH28.slBlk (i := 0) (n := 1) (sz := 1) rfl rfl (by decide)) rfl rfl underlying57 rfl rfl (size := 1) (bytes := 16) rfl rfl rfl (by decide) (by simp [Value.oneCell']) (by omega) (by simp only [maxLen]; omega) <| fun v30 w31 hH32 => ?_
      simp only [z2] at hH32
      refine V (run_assign (by conv => lhs; whnf)) ?_
      refine RL.nil <| CW.region <| V (run_add e21_9 rfl (by omega)) <| mI rfl <| RL.nil <| ?_
      refine ⟨(k + 1, m ++ [(s.lats.getD k.toNat lat0).name], v30), ?_, fr9.u4.u4.u4.u4.u4.u1.u1, (Hp.conv (hH32.sub (sQ (sQ sR))) (by simp)), rfl, (congrArg I (by rfl)), ?_, ?_, ?_, ?_, ?_⟩
      ·((try dsimp only); omega)
      ·omega
      ·omega
      ·rw [lnames_next h0 ‹k < _›, ← hm]
      ·simp only [List.length_append, List.length_singleton]; omega
      ·exact fun j a b => if e : j = k then e ▸ (by rw [latOk, nf ‹(!nameR _) = false›, nf ‹(!shR _) = false›]; rfl) else hg j a (by omega)
   ·refine CW.exit (id := 0) rfl <| CW.seq <| SR <| V (fA underlying25 1 rfl sizeOf23 e1_9) <| V (run_ldV (hs.vars.sl.hp hH9) underlying23 rfl rfl (hH9.cell (i := 1) rfl rfl)) <| V (run_lenSl (hs.vars.sl.hp hH9) rfl underlying23 rfl) <| vm (v := I 0) rfl <| RL.nil <| CW.block <| CW.loop (G := Int × (List Tx) × Value) (fun ⟨j, m2, v3⟩ s' w' => (Fr (2 :: 3 :: (7 :: (rg 44 37 []))) _ s') ∧ (Hp w w' (.row v3 9 1 (m2.length) (txL m2) :: _)) ∧ (s' 3 = v3) ∧ (s' 44 = I j) ∧ (0 ≤ j) ∧ (j ≤ s.vars.length) ∧ (m2 = m ++ (s.vars.take j.toNat).map VarR.name) ∧ ((m2.length : Int) = k + j) ∧ (∀ i : Int, 0 ≤ i → i < j → varOk s.lats.length (s.vars.getD i.toNat var0) = true)) (fun ⟨j, m2, v3⟩ => (s.vars.length - j).toNat) ((0, m, (v3 : Value))) ⟨Fr.refl _ _, hH9, e3_9, rfl, (by omega), (by omega), (List.append_nil m).symm, (by omega), fun j a b => absurd b (by omega)⟩ <| ?_
    rintro ⟨j, m2, v3⟩ sg33 w33 ⟨fr33, hH33, e3_33, e44_33, j0, hj, hm2, hml2, hv⟩
    have e1_33 := (fr33 1 rfl).trans e1_9
    have e42_33 := (fr33 42 rfl).trans (by conv => lhs; whnf)
    have e43_33 := fr33.ii 43 rfl rfl
    refine SR <| V (run_lss e44_33 e43_33) <| RL.nil <| CW.seq <| CW.condP rfl (fun h35 => ?_) (fun h35 => ?_)
    ·refine CW.skip <| CW.seq <| CW.block <| SR <| V (run_indexAddrS (hs.vars.sl.hp hH33) underlying23 sizeOf69 e42_33 e44_33 (by omega)) <| V (run_ldE (dv := var0) varL_len (hs.vars.sl.hp hH33) underlying69 rfl rfl rfl (by omega)) <| RL.new rfl hH33 (f := fun b => (.pointer (some ⟨b, 0, none⟩))) (run_alloc Tryz.zeroValue69) <| fun b38 w36 hH37 => RL.set hH37 (i := 0) rfl (run_stW (c' := (varL _).toArray) rfl rfl rfl (by simp [varL, Value.oneCell']) (hH37.blk (i := 0) rfl) rfl) <| fun w39 hH40 => ?_
     simp only [z2] at hH40
     refine RL.nil <| CW.seq <| SR <| V (fA underlying69 0 rfl sizeOf9 rfl) <| V (run_ld underlying9 rfl rfl (hH40.cell (i := 0) rfl (v := .string _) rfl)) <| RL.callP rfl hH40 (c_name_Right _  _) (run_call1 call54 rfl) <| fun w41 hH42 => V (run_not rfl) <| mB rfl <| RL.split (dj := 52) rfl (fun h45 => ?_) (fun h45 => ?_)
     ·refine gF rfl (bR (c := true) h45) <| gF rfl (bR (c := true) h45) <| gF rfl (bR (c := true) h45) <| gF rfl (bR (c := true) h45) <| RL.gU rfl rfl rfl <| RL.gU rfl rfl rfl <| RL.gU rfl rfl rfl <| gF rfl (bR (c := true) h45) <| V (run_pickT (bR (c := true) h45) (v := B true) rfl) <| mB rfl <| gF rfl rfl <| gF rfl rfl <| gF rfl rfl <| V (run_pickT rfl (v := B true) rfl) <| mB rfl <| gF rfl rfl <| gF rfl rfl <| gF rfl rfl <| gF rfl rfl <| gF rfl rfl <| gF rfl rfl <| V (run_pickT rfl (v := B true) rfl) <| RL.nil <| CW.condT rfl <| SR <| va (v := B false) rfl <| RL.nil <| CW.ret <| outP1 Tryz.results32 (congrArg B ?_) hH42.below
      exact (right_no3 j0 ‹j < _› (by rw [varOk, nt ‹(!nameR _) = true›]; rfl)).symm
     ·refine gT rfl (bR (c := false) h45) <| V (fA underlying69 1 rfl sizeOf3 rfl) <| gT rfl (bR (c := false) h45) <| V (run_ld underlying3 rfl rfl (hH42.cell (i := 0) rfl (v := I _) rfl)) <| gT rfl (bR (c := false) h45) <| V (run_neq rfl rfl) <| gT rfl (bR (c := false) h45) <| mB rfl <| RL.splitP (dj := 56) rfl (fun h47 => ?_) (fun h47 => ?_)
      ·refine gT rfl (bT h47) <| V (fA underlying69 1 rfl sizeOf3 rfl) <| gT rfl (bT h47) <| V (run_ld underlying3 rfl rfl (hH42.cell (i := 0) rfl (v := I _) rfl)) <| gT rfl (bT h47) <| V (run_neq rfl rfl) <| gT rfl (bR (c := false) h45) <| V (run_pickT (bT h47) (v := B _) rfl) <| V (run_pickF (bR (c := false) h45) (v := B _) rfl) <| mB rfl <| RL.splitP (dj := 62) rfl (fun h49 => ?_) (fun h49 => ?_)
       ·refine gF rfl (bT h49) <| gF rfl (bT h49) <| gF rfl (bT h49) <| V (run_pickT (bT h49) (v := B true) rfl) <| mB rfl <| gF rfl rfl <| gF rfl rfl <| gF rfl rfl <| gF rfl rfl <| gF rfl rfl <| gF rfl rfl <| V (run_pickT rfl (v := B true) rfl) <| RL.nil <| CW.condT rfl <| SR <| va (v := B false) rfl <| RL.nil <| CW.ret <| outP1 Tryz.results32 (congrArg B ?_) hH42.below
        exact (right_no3 j0 ‹j < _› (by rw [varOk, decide_eq_false (by omega), Bool.and_false])).symm
       ·refine gT rfl (bF h49) <| V (fA underlying69 2 rfl sizeOf3 rfl) <| gT rfl (bF h49) <| V (run_ld underlying3 rfl rfl (hH42.cell (i := 0) rfl (v := I _) rfl)) <| gT rfl (bF h49) <| V (run_lss rfl rfl) <| V (run_pickF (bF h49) (v := B _) rfl) <| mB rfl <| RL.splitP (dj := 67) rfl (fun h51 => ?_) (fun h51 => ?_)
        ·refine gF rfl (bT h51) <| gF rfl (bT h51) <| gF rfl (bT h51) <| gF rfl (bT h51) <| gF rfl (bT h51) <| gF rfl (bT h51) <| V (run_pickT (bT h51) (v := B true) rfl) <| RL.nil <| CW.condT rfl <| SR <| va (v := B false) rfl <| RL.nil <| CW.ret <| outP1 Tryz.results32 (congrArg B ?_) hH42.below
         exact (right_no3 j0 ‹j < _› (by rw [varOk, decide_eq_false (by omega), Bool.and_false])).symm
        ·refine gT rfl (bF h51) <| V (fA underlying69 2 rfl sizeOf3 rfl) <| gT rfl (bF h51) <| V (run_ld underlying3 rfl rfl (hH42.cell (i := 0) rfl (v := I _) rfl)) <| gT rfl (bF h51) <| V (fA underlying25 0 rfl sizeOf22 e1_33) <| gT rfl (bF h51) <| V (run_ldV (hs.lats.sl.hp hH42) underlying22 rfl rfl (hH42.cell (i := 2) rfl rfl)) <| gT rfl (bF h51) <| V (run_lenSl (hs.lats.sl.hp hH42) rfl underlying22 rfl) <| gT rfl (bF h51) <| V (run_geq rfl rfl) <| V (run_pickF (bF h51) (v := B _) rfl) <| RL.nil <| CW.condP rfl (fun h53 => ?_) (fun h53 => ?_)
         ·refine SR <| va (v := B false) rfl <| RL.nil <| CW.ret <| outP1 Tryz.results32 (congrArg B ?_) hH42.below
          exact (right_no3 j0 ‹j < _› (by rw [varOk, decide_eq_false (by omega), Bool.and_false])).symm
         ·refine CW.skip <| CW.region <| vm e3_33 <| V (fA underlying69 0 rfl sizeOf9 rfl) <| V (run_ld underlying9 rfl rfl (hH42.cell (i := 0) rfl (v := .string _) rfl)) <| RL.new rfl hH42 (f := fun b => (.slice (some ⟨b, 0, none⟩) 1 1)) (run_mkL underlying57 rfl rfl (sz := 1) (vs := [.string _]) rfl rfl (by decide) (by decide) rfl rfl) <| fun b56 w54 hH55 => ?_
          (try simp only [clX] at hH55)
          refine RL.app rfl hH55 (i := 2) rfl (hH55.slBlk (i := 0) (n := 1) (sz := 1) rfl rfl (by decide)) rfl rfl underlying57 rfl rfl (size := 1) (bytes := 16) rfl rfl rfl (by decide) (by simp [Value.oneCell']) (by omega) (by simp only [maxLen]; omega) <| fun v57 w58 hH59 => ?_
          simp only [z2] at hH59
          refine V (run_assign (by conv => lhs; whnf)) ?_
          refine RL.nil <| CW.region <| V (run_add e44_33 rfl (by omega)) <| mI rfl <| RL.nil <| ?_
          refine ⟨(j + 1, m2 ++ [(s.vars.getD j.toNat var0).name], v57), ?_, fr33.u4.u4.u4.u4.u4.u4.u4.u4.u4.u1.u1.u1, (Hp.conv (hH59.sub (sQ (sQ sR))) (by simp)), rfl, (congrArg I (by rfl)), ?_, ?_, ?_, ?_, ?_⟩
          ·((try dsimp only); omega)
          ·omega
          ·omega
          ·rw [vnames_next j0 ‹j < _›, hm2, List.append_assoc]
          ·simp only [List.length_append, List.length_singleton]; omega
          ·exact fun i a b => if e : i = j then e ▸ (by rw [varOk, nf ‹(!nameR _) = false›, Bool.true_and, decide_eq_true_eq]; omega) else hv i a (by omega)
      ·refine gF rfl (bF h47) <| gF rfl (bF h47) <| gF rfl (bF h47) <| gT rfl (bR (c := false) h45) <| V (run_pickF (bF h47) (v := B false) rfl) <| V (run_pickF (bR (c := false) h45) (v := B _) rfl) <| mB rfl <| gT rfl rfl <| V (fA underlying69 2 rfl sizeOf3 rfl) <| gT rfl rfl <| V (run_ld underlying3 rfl rfl (hH42.cell (i := 0) rfl (v := I _) rfl)) <| gT rfl rfl <| V (run_lss rfl rfl) <| V (run_pickF rfl (v := B _) rfl) <| mB rfl <| RL.splitP (dj := 67) rfl (fun h61 => ?_) (fun h61 => ?_)
       ·refine gF rfl (bT h61) <| gF rfl (bT h61) <| gF rfl (bT h61) <| gF rfl (bT h61) <| gF rfl (bT h61) <| gF rfl (bT h61) <| V (run_pickT (bT h61) (v := B true) rfl) <| RL.nil <| CW.condT rfl <| SR <| va (v := B false) rfl <| RL.nil <| CW.ret <| outP1 Tryz.results32 (congrArg B ?_) hH42.below
        exact (right_no3 j0 ‹j < _› (by rw [varOk, decide_eq_false (by omega), Bool.and_false])).symm
       ·refine gT rfl (bF h61) <| V (fA underlying69 2 rfl sizeOf3 rfl) <| gT rfl (bF h61) <| V (run_ld underlying3 rfl rfl (hH42.cell (i := 0) rfl (v := I _) rfl)) <| gT rfl (bF h61) <| V (fA underlying25 0 rfl sizeOf22 e1_33) <| gT rfl (bF h61) <| V (run_ldV (hs.lats.sl.hp hH42) underlying22 rfl rfl (hH42.cell (i := 2) rfl rfl)) <| gT rfl (bF h61) <| V (run_lenSl (hs.lats.sl.hp hH42) rfl underlying22 rfl) <| gT rfl (bF h61) <| V (run_geq rfl rfl) <| V (run_pickF (bF h61) (v := B _) rfl) <| RL.nil <| CW.condP rfl (fun h63 => ?_) (fun h63 => ?_)
        ·refine SR <| va (v := B false) rfl <| RL.nil <| CW.ret <| outP1 Tryz.results32 (congrArg B ?_) hH42.below
         exact (right_no3 j0 ‹j < _› (by rw [varOk, decide_eq_false (by omega), Bool.and_false])).symm
        ·refine CW.skip <| CW.region <| vm e3_33 <| V (fA underlying69 0 rfl sizeOf9 rfl) <| V (run_ld underlying9 rfl rfl (hH42.cell (i := 0) rfl (v := .string _) rfl)) <| RL.new rfl hH42 (f := fun b => (.slice (some ⟨b, 0, none⟩) 1 1)) (run_mkL underlying57 rfl rfl (sz := 1) (vs := [.string _]) rfl rfl (by decide) (by decide) rfl rfl) <| fun b66 w64 hH65 => ?_
         (try simp only [clX] at hH65)
         refine RL.app rfl hH65 (i := 2) rfl (hH65.slBlk (i := 0) (n := 1) (sz := 1) rfl rfl (by decide)) rfl rfl underlying57 rfl rfl (size := 1) (bytes := 16) rfl rfl rfl (by decide) (by simp [Value.oneCell']) (by omega) (by simp only [maxLen]; omega) <| fun v67 w68 hH69 => ?_
         simp only [z2] at hH69
         refine V (run_assign (by conv => lhs; whnf)) ?_
         refine RL.nil <| CW.region <| V (run_add e44_33 rfl (by omega)) <| mI rfl <| RL.nil <| ?_
         refine ⟨(j + 1, m2 ++ [(s.vars.getD j.toNat var0).name], v67), ?_, fr33.u4.u4.u4.u4.u4.u4.u4.u4.u4.u1.u1.u1, (Hp.conv (hH69.sub (sQ (sQ sR))) (by simp)), rfl, (congrArg I (by rfl)), ?_, ?_, ?_, ?_, ?_⟩
         ·((try dsimp only); omega)
         ·omega
         ·omega
         ·rw [vnames_next j0 ‹j < _›, hm2, List.append_assoc]
         ·simp only [List.length_append, List.length_singleton]; omega
         ·exact fun i a b => if e : i = j then e ▸ (by rw [varOk, nf ‹(!nameR _) = false›, Bool.true_and, decide_eq_true_eq]; omega) else hv i a (by omega)
    ·refine CW.exit (id := 2) rfl <| SR <| vm e3_33 <| RL.callP rfl hH33 (c_name_Twice _ _  _ (hH33.sl (i := 0) rfl)) (run_call1 call56 rfl) <| fun w70 hH71 => V (run_lss rfl rfl) <| aB rfl <| RL.nil <| CW.ret <| outP1 Tryz.results32 (congrArg B ?_) hH71.below
     (have hnm : m2 = namesS s := (by rw [hm2, hm, List.take_of_length_le (by omega), List.take_of_length_le (by omega)]; rfl); rw [hnm]; exact (right_yes hsz ‹¬ k < _› hg ‹¬ j < _› hv).symm)
theorem c_code_fold (s : Shp) (op : Int) (v : Value) (l : List El) (hne : 1 ≤ l.length) (w : World) (hs : Sl w v 8 l.length (l.flatMap elL)) (hsh : ShpV (Kw w) s) (hT : Tab w) : Calls Tryz.prog 45 #[.agg (shpC s), I op, v] w (Pure (.agg (elC (foldE (opE s.sh op) l))) w) := by
 have hm := hs.small
 unfold maxLen at hm
 refine enter Tryz.func45 rfl Tryz.ntmps45 rfl <| have hH := Hp.start w; SR <| RL.new rfl hH (f := fun b => (.pointer (some ⟨b, 0, none⟩))) (run_box (v := .agg _) rfl) <| fun b3 w1 hH2 => RL.new rfl hH2 (f := fun b => (.pointer (some ⟨b, 0, none⟩))) (run_alloc zero_el) <| fun b6 w4 hH5 => RL.nil <| SR <| ?_
 refine V (run_move (by conv => lhs; whnf)) ?_
 refine V (run_move (by conv => lhs; whnf)) ?_
 refine V (run_lenSl (hs.hp hH5) rfl underlying29 rfl) <| V (run_sub rfl rfl (by omega)) <| V (run_indexAddrS (hs.hp hH5) underlying29 sizeOf39 rfl rfl (by omega)) <| V (run_ldElS (hs.hp hH5) underlying39 rfl rfl rfl (by omega)) <| RL.new rfl hH5 (f := fun b => (.pointer (some ⟨b, 0, none⟩))) (run_alloc zero_el) <| fun b9 w7 hH8 => RL.set hH8 (i := 0) rfl (run_stEl rfl rfl rfl (hH8.blk (i := 0) rfl)) <| fun w10 hH11 => ?_
 simp only [z2] at hH11
 refine RL.nil <| CW.seq <| SR <| ?_
 refine V (run_move (by conv => lhs; whnf)) ?_
 refine V (run_lenSl (hs.hp hH11) rfl underlying29 rfl) <| V (run_sub rfl rfl (by omega)) <| aI rfl <| RL.nil <| CW.block <| CW.loop (G := Int × El) (fun ⟨k, e1⟩ s' w' => (Fr (8 :: (rg 18 19 [])) _ s') ∧ (Hp w w' (.blk b9 (.cells (elC e1) 39 (0, 0)) :: _)) ∧ (s' 8 = I k) ∧ (-1 ≤ k) ∧ (k ≤ (l.length : Int) - 2) ∧ (e1 = foldE (opE s.sh op) (l.drop (k + 1).toNat))) (fun ⟨k, e1⟩ => (k + 1).toNat) (((l.length : Int) - 2, (l.getD ((l.length : Int) - 1).toNat el0))) ⟨Fr.refl _ _, hH11, rfl, (by omega), (by omega), (by rw [show ((l.length : Int) - 2 + 1).toNat = l.length - 1 by omega, foldE_last (by intro h; rw [h] at hne; simp at hne)]; congr 1; omega)⟩ <| ?_
 rintro ⟨k, e1⟩ sg12 w12 ⟨fr12, hH12, e8_12, h0, hk, he⟩
 have e1_12 := fr12.ii 1 rfl rfl
 have e2_12 := (fr12 2 rfl).trans (by conv => lhs; whnf)
 have e3_12 := fr12.pp 3 rfl rfl
 have e6_12 := fr12.pp 6 rfl rfl
 have e7_12 := fr12.pp 7 rfl rfl
 refine CW.seq <| SR <| vm e8_12 <| V (run_geq rfl rfl) <| RL.nil <| CW.condP rfl (fun h14 => ?_) (fun h14 => ?_)
 ·refine CW.skip <| CW.seq <| CW.block <| CW.seq <| SR <| vm e1_12 <| V (run_eql rfl rfl) <| RL.nil <| CW.condP rfl (fun h16 => ?_) (fun h16 => ?_)
  ·refine CW.seq <| CW.regionS (by kernel_rfl) hH12 (sQ sR) <| fun w17 hH18 => have zh18 := hH18.sub (sQ sR); AT 0 rfl zh18 (fun w hS => run_ldA (cs := [B _, _]) underlying65 rfl rfl e3_12 (rangeAt_cells (hS.blk (i := 1) rfl))) <| AQ 1 rfl zh18 (run_move e2_12) <| AQ 2 rfl zh18 (run_move e8_12) <| AT 3 rfl zh18 (fun w hS => run_indexAddrS (hs.hp hS) underlying29 sizeOf39 rfl rfl (by omega)) <| AT 4 rfl zh18 (fun w hS => run_ldElS (hs.hp hS) underlying39 rfl rfl rfl (by omega)) <| A1 5 <| AO.read rfl gnone rfl hH18 (sQ sR) (run_ldEl underlying39 rfl rfl e7_12 (hH18.blk (i := 0) rfl)) <| A1 6 <| AO.callP rfl gnone rfl hH18 (sQ sR) (c_shape_Join _ _ _  _ (hsh.mono hH18.kw) (hT.hp hH18)) (run_call3 call71 rfl rfl rfl) <| fun w21 hH22 => A1 7 <| AO.set rfl gnone hH22 (j := 0) rfl (sQ sR) (run_stEl rfl e7_12 rfl (hH22.blk (i := 0) rfl)) <| fun w25 hH26 => ?_
   simp only [z2] at hH26
   refine AD <| CW.exit (id := 1) rfl <| CW.region <| vm e8_12 <| V (run_sub rfl rfl (by omega)) <| aI rfl <| RL.nil <| ?_
   refine ⟨(k - 1, _), ?_, fr12.u4.u4.u4.u1.u1, hH26, (congrArg I (by rfl)), ?_, ?_, ?_⟩
   ·((try dsimp only); omega)
   ·omega
   ·omega
   ·(rw [show (k - 1 + 1).toNat = k.toNat by omega, foldE_k (by omega) (by omega), ← he]; exact opE_3 ‹op = 3›)
  ·refine CW.skip <| CW.regionS (by kernel_rfl) hH12 (sQ sR) <| fun w27 hH28 => have zh28 := hH28.sub (sQ sR); AQ 0 rfl zh28 (run_move e2_12) <| AQ 1 rfl zh28 (run_move e8_12) <| AT 2 rfl zh28 (fun w hS => run_indexAddrS (hs.hp hS) underlying29 sizeOf39 rfl rfl (by omega)) <| AT 3 rfl zh28 (fun w hS => run_ldElS (hs.hp hS) underlying39 rfl rfl rfl (by omega)) <| A1 4 <| AO.read rfl gnone rfl hH28 (sQ sR) (run_ldEl underlying39 rfl rfl e7_12 (hH28.blk (i := 0) rfl)) <| A1 5 <| AO.callP rfl gnone rfl hH28 (sQ sR) (c_shape_Meet _ _  _) (run_call2 call72 rfl rfl) <| fun w31 hH32 => A1 6 <| AO.set rfl gnone hH32 (j := 0) rfl (sQ sR) (run_stEl rfl e7_12 rfl (hH32.blk (i := 0) rfl)) <| fun w35 hH36 => ?_
   simp only [z2] at hH36
   refine AD <| CW.region <| vm e8_12 <| V (run_sub rfl rfl (by omega)) <| aI rfl <| RL.nil <| ?_
   refine ⟨(k - 1, _), ?_, fr12.u4.u4.u4.u1, hH36, (congrArg I (by rfl)), ?_, ?_, ?_⟩
   ·((try dsimp only); omega)
   ·omega
   ·omega
   ·(rw [show (k - 1 + 1).toNat = k.toNat by omega, foldE_k (by omega) (by omega), ← he]; exact opE_4 ‹¬ op = 3›)
 ·refine CW.exit (id := 0) rfl <| SR <| V (run_ldEl underlying39 rfl rfl e7_12 (hH12.blk (i := 0) rfl)) <| RL.set hH12 (i := 1) rfl (run_stEl rfl e6_12 rfl (hH12.blk (i := 1) rfl)) <| fun w37 hH38 => ?_
  simp only [z2] at hH38
  refine RL.nil <| CW.ret <| outCg Tryz.results45 e6_12 hH38 (i := 1) rfl underlying39 rfl (by rw [elC_size]; rfl) ⟨?_, hH38.below⟩
  (exact congrArg Value.agg (elC_congr (by rw [he, show (k + 1).toNat = 0 by omega]; exact fun _ _ => rfl)))
end Go.Proofs.YtkdbiooamgnfmaaGreatDoor.W
