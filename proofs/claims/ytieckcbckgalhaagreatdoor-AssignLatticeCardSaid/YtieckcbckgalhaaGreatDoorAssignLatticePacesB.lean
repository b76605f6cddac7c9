/-
  The walks of the functions that the laws of this seat reach, part 2: each returns what its plain counterpart tells, and turns nothing that was there.
-/
import Derived.Test.YtieckcbckgalhaaGreatDoorProg
import Derived.Test.YtieckcbckgalhaaGreatDoorEnv
import Derived.Test.YtieckcbckgalhaaGreatDoorPlain
import Derived.Test.YtieckcbckgalhaaGreatDoorBase
import Derived.Test.YtieckcbckgalhaaGreatDoorOrd
import Derived.Test.YtieckcbckgalhaaGreatDoorRel
import Derived.Test.YtieckcbckgalhaaGreatDoorClo
import Derived.Test.YtieckcbckgalhaaGreatDoorCov
import Derived.Test.YtieckcbckgalhaaGreatDoorArr
import Derived.Test.YtieckcbckgalhaaGreatDoorHas
import Derived.Test.YtieckcbckgalhaaGreatDoorGrd
import Derived.Test.YtieckcbckgalhaaGreatDoorStr
import Derived.Test.YtieckcbckgalhaaGreatDoorVu
import Derived.Test.YtieckcbckgalhaaGreatDoorShp
import Derived.Test.YtieckcbckgalhaaGreatDoorShl
import Derived.Test.YtieckcbckgalhaaGreatDoorShq
import Derived.Test.YtieckcbckgalhaaGreatDoorShr
import Derived.Test.YtieckcbckgalhaaGreatDoorCut
import Derived.Test.YtieckcbckgalhaaGreatDoorRec
import Derived.Test.YtieckcbckgalhaaGreatDoorOut
import Derived.Test.YtieckcbckgalhaaGreatDoorScp
import Derived.Test.YtieckcbckgalhaaGreatDoorScq
import Derived.Test.YtieckcbckgalhaaGreatDoorByt
import Derived.Test.YtieckcbckgalhaaGreatDoorNod
import Derived.Test.YtieckcbckgalhaaGreatDoorSpl
import Derived.Test.YtieckcbckgalhaaGreatDoorSpb
import Derived.Test.YtieckcbckgalhaaGreatDoorSpt
import Derived.Test.YtieckcbckgalhaaGreatDoorSpn
import Derived.Test.YtieckcbckgalhaaGreatDoorSpx
import Derived.Test.YtieckcbckgalhaaGreatDoorSpy
import Derived.Test.YtieckcbckgalhaaGreatDoorMk
import Derived.Test.YtieckcbckgalhaaGreatDoorAsn
import Derived.Test.YtieckcbckgalhaaGreatDoorAsp
import Derived.Test.YtieckcbckgalhaaGreatDoorAsr
import Derived.Test.YtieckcbckgalhaaGreatDoorAst
import Derived.Test.YtieckcbckgalhaaGreatDoorRgs
import Derived.Test.YtieckcbckgalhaaGreatDoorMin
import Derived.Test.YtieckcbckgalhaaGreatDoorAssignLatticePacesA
namespace Go.Proofs.YtieckcbckgalhaaGreatDoor.W
open Go Go.RowKit Go.Proofs.YtieckcbckgalhaaGreatDoor.E Go.Proofs.YtieckcbckgalhaaGreatDoor.M
set_option linter.unusedVariables false
set_option linter.unusedSimpArgs false
set_option maxRecDepth 100000
open Tryz
theorem c_clearanceref07_factor (f : Fac) (w : World) (hf : FacV (Kw w) f) : Calls Tryz.prog 71 #[.agg (facC f)] w (Pure (B (factorR f.fc)) w) := by
 have hm := hf.names.sl.small
 unfold maxLen at hm
 refine enter Tryz.func71 rfl Tryz.ntmps71 rfl <| have hH := Hp.start w; SR <| RL.new rfl hH (f := fun b => (.pointer (some ⟨b, 0, none⟩))) (run_box (v := .agg _) rfl) <| fun b3 w1 hH2 => va (v := B false) rfl <| RL.nil <| SR <| V (fA underlying59 1 rfl sizeOf54 rfl) <| V (run_ld underlying54 rfl rfl (hH2.cell (i := 0) rfl rfl)) <| V (run_lenSl (hf.names.sl.hp hH2) rfl underlying54 rfl) <| aI rfl <| RL.nil <| CW.seq <| SR <| mI rfl <| V (run_lss rfl rfl) <| mB rfl <| RL.splitP (dj := 10) rfl (fun h5 => ?_) (fun h5 => ?_)
 ·refine gF rfl (bT h5) <| gF rfl (bT h5) <| V (run_pickT (bT h5) (v := B true) rfl) <| mB rfl <| gF rfl rfl <| gF rfl rfl <| gF rfl rfl <| gF rfl rfl <| V (run_pickT rfl (v := B true) rfl) <| RL.nil <| CW.condT rfl <| SR <| va (v := B false) rfl <| RL.nil <| CW.ret <| outP1 Tryz.results71 (congrArg B ?_) hH2.below
  exact (fac_no (f := f.fc) (named_no1 (by show ¬ (1 ≤ f.names.length ∧ f.names.length ≤ 64); omega))).symm
 ·refine gT rfl (bF h5) <| mI rfl <| gT rfl (bF h5) <| V (run_gtr rfl rfl) <| V (run_pickF (bF h5) (v := B _) rfl) <| mB rfl <| RL.splitP (dj := 14) rfl (fun h7 => ?_) (fun h7 => ?_)
  ·refine gF rfl (bT h7) <| gF rfl (bT h7) <| gF rfl (bT h7) <| gF rfl (bT h7) <| V (run_pickT (bT h7) (v := B true) rfl) <| RL.nil <| CW.condT rfl <| SR <| va (v := B false) rfl <| RL.nil <| CW.ret <| outP1 Tryz.results71 (congrArg B ?_) hH2.below
   exact (fac_no (f := f.fc) (named_no1 (by show ¬ (1 ≤ f.names.length ∧ f.names.length ≤ 64); omega))).symm
  ·refine gT rfl (bF h7) <| V (fA underlying59 1 rfl sizeOf54 rfl) <| gT rfl (bF h7) <| V (run_ld underlying54 rfl rfl (hH2.cell (i := 0) rfl rfl)) <| gT rfl (bF h7) <| RL.callP rfl hH2 (c_clearanceref02_Twice _ _  _ (hf.names.sl.hp hH2)) (run_call1 call50 rfl) <| fun w8 hH9 => gT rfl (bF h7) <| V (run_geq rfl rfl) <| V (run_pickF (bF h7) (v := B _) rfl) <| RL.nil <| CW.condP rfl (fun h11 => ?_) (fun h11 => ?_)
   ·refine SR <| va (v := B false) rfl <| RL.nil <| CW.ret <| outP1 Tryz.results71 (congrArg B ?_) hH9.below
    exact (fac_no (f := f.fc) (named_no2 (by show ¬ twice f.names < 0; omega))).symm
   ·refine CW.skip <| CW.seq <| SR <| va (v := I 0) rfl <| RL.nil <| CW.block <| have hn1 : 1 ≤ f.names.length ∧ f.names.length ≤ 64 := (by omega); have hn2 : twice f.names < 0 := (by omega); CW.loop (G := Int) (fun k s' w' => (Fr (2 :: (4 :: (rg 20 12 []))) _ s') ∧ (Hp w w' _) ∧ (s' 4 = I k) ∧ (0 ≤ k) ∧ (k ≤ f.names.length) ∧ (∀ j : Int, 0 ≤ j → j < k → nameR (f.names.getD j.toNat tx0) = true)) (fun k => (f.names.length - k).toNat) (0) ⟨Fr.refl _ _, hH9, rfl, (by omega), (by omega), fun j a b => absurd b (by omega)⟩ <| ?_
    rintro k sg12 w12 ⟨fr12, hH12, e4_12, h0, hk, hg⟩
    have e1_12 := fr12.pp 1 rfl rfl
    have e3_12 := fr12.ii 3 rfl rfl
    refine CW.seq <| SR <| vm e4_12 <| vm e3_12 <| V (run_lss rfl rfl) <| RL.nil <| CW.condP rfl (fun h14 => ?_) (fun h14 => ?_)
    ·refine CW.skip <| CW.seq <| CW.block <| SR <| V (fA underlying59 1 rfl sizeOf54 e1_12) <| V (run_ld underlying54 rfl rfl (hH12.cell (i := 0) rfl rfl)) <| vm e4_12 <| V (run_indexAddrS (hf.names.sl.hp hH12) underlying54 sizeOf9 rfl rfl (by omega)) <| V (run_ld underlying9 rfl rfl ((hf.names.sl.hp hH12).cell _ _ (txL_at (by omega)))) <| RL.callP rfl hH12 (c_clearanceref02_Right _  _) (run_call1 call49 rfl) <| fun w15 hH16 => V (run_not rfl) <| RL.nil <| CW.cond rfl (fun h19 => ?_) (fun h19 => ?_)
     ·refine SR <| va (v := B false) rfl <| RL.nil <| CW.ret <| outP1 Tryz.results71 (congrArg B ?_) hH16.below
      exact (fac_no (f := f.fc) (named_no3 h0 ‹_› (nt ‹_›))).symm
     ·refine CW.skip <| CW.region <| vm e4_12 <| V (run_add rfl rfl (by omega)) <| aI rfl <| RL.nil <| ?_
      refine ⟨k + 1, ?_, fr12.u4.u4.u4.u1, hH16, (congrArg I (by rfl)), ?_, ?_, ?_⟩
      ·((try dsimp only); omega)
      ·omega
      ·omega
      ·exact fun j a b => if e : j = k then e ▸ nf ‹_› else hg j a (by omega)
    ·refine CW.exit (id := 0) rfl <| CW.seq <| SR <| V (fA underlying59 0 rfl sizeOf3 e1_12) <| V (run_ld underlying3 rfl rfl (hH12.cell (i := 0) rfl (v := I _) rfl)) <| V (run_eql rfl rfl) <| mB rfl <| RL.splitP (dj := 35) rfl (fun h21 => ?_) (fun h21 => ?_)
     ·refine gF rfl (bT h21) <| gF rfl (bT h21) <| gF rfl (bT h21) <| V (run_pickT (bT h21) (v := B true) rfl) <| RL.nil <| CW.condT rfl <| SR <| V (fA underlying59 2 rfl sizeOf57 e1_12) <| V (run_ldBR underlying57 rfl rfl rfl (hH12.blk (i := 0) rfl)) <| RL.callP rfl hH12 (c_clearanceref03_Points _  _) (run_call1 call86 rfl) <| fun w22 hH23 => V (run_eql rfl rfl) <| aB rfl <| RL.nil <| CW.ret <| outP1 Tryz.results71 (congrArg B ?_) hH23.below
      (have hny : namedF f.names = true := named_yes hn1 hn2 ‹¬ k < _› hg; exact (fac_12 (f := f.fc) hny (.inl ‹_›)).symm)
     ·refine gT rfl (bF h21) <| V (fA underlying59 0 rfl sizeOf3 e1_12) <| gT rfl (bF h21) <| V (run_ld underlying3 rfl rfl (hH12.cell (i := 0) rfl (v := I _) rfl)) <| gT rfl (bF h21) <| V (run_eql rfl rfl) <| V (run_pickF (bF h21) (v := B _) rfl) <| RL.nil <| CW.condP rfl (fun h26 => ?_) (fun h26 => ?_)
      ·refine SR <| V (fA underlying59 2 rfl sizeOf57 e1_12) <| V (run_ldBR underlying57 rfl rfl rfl (hH12.blk (i := 0) rfl)) <| RL.callP rfl hH12 (c_clearanceref03_Points _  _) (run_call1 call86 rfl) <| fun w27 hH28 => V (run_eql rfl rfl) <| aB rfl <| RL.nil <| CW.ret <| outP1 Tryz.results71 (congrArg B ?_) hH28.below
       (have hny : namedF f.names = true := named_yes hn1 hn2 ‹¬ k < _› hg; exact (fac_12 (f := f.fc) hny (.inr ‹_›)).symm)
      ·refine CW.skip <| CW.seq <| SR <| V (fA underlying59 0 rfl sizeOf3 e1_12) <| V (run_ld underlying3 rfl rfl (hH12.cell (i := 0) rfl (v := I _) rfl)) <| V (run_eql rfl rfl) <| RL.nil <| CW.condP rfl (fun h31 => ?_) (fun h31 => ?_)
       ·refine SR <| V (fA underlying59 2 rfl sizeOf57 e1_12) <| V (fA underlying57 0 rfl sizeOf3 rfl) <| V (run_ld underlying3 rfl rfl (hH12.cell (i := 0) rfl (v := I _) rfl)) <| vm e3_12 <| V (run_eql rfl rfl) <| mB rfl <| RL.splitP (dj := 52) rfl (fun h33 => ?_) (fun h33 => ?_)
        ·refine gT rfl (bT h33) <| V (fA underlying59 2 rfl sizeOf57 e1_12) <| gT rfl (bT h33) <| V (run_ldBR underlying57 rfl rfl rfl (hH12.blk (i := 0) rfl)) <| gT rfl (bT h33) <| RL.callP rfl hH12 (c_clearanceref05_Right _  _) (run_call1 call89 rfl) <| fun w34 hH35 => V (run_pickT (bT h33) (v := B _) rfl) <| aB rfl <| RL.nil <| CW.ret <| outP1 Tryz.results71 (congrArg B ?_) hH35.below
         (have hny : namedF f.names = true := named_yes hn1 hn2 ‹¬ k < _› hg; exact (fac_3y (f := f.fc) hny ‹_› ‹_›).symm)
        ·refine gF rfl (bF h33) <| gF rfl (bF h33) <| gF rfl (bF h33) <| V (run_pickF (bF h33) (v := B false) rfl) <| aB rfl <| RL.nil <| CW.ret <| outP1 Tryz.results71 (congrArg B ?_) hH12.below
         (have hny : namedF f.names = true := named_yes hn1 hn2 ‹¬ k < _› hg; exact (fac_3n (f := f.fc) ‹_› ‹_›).symm)
       ·refine CW.skip <| SR <| V (fA underlying59 0 rfl sizeOf3 e1_12) <| V (run_ld underlying3 rfl rfl (hH12.cell (i := 0) rfl (v := I _) rfl)) <| V (run_eql rfl rfl) <| mB rfl <| RL.splitP (dj := 60) rfl (fun h38 => ?_) (fun h38 => ?_)
        ·refine gT rfl (bT h38) <| V (fA underlying59 2 rfl sizeOf57 e1_12) <| gT rfl (bT h38) <| V (fA underlying57 0 rfl sizeOf3 rfl) <| gT rfl (bT h38) <| V (run_ld underlying3 rfl rfl (hH12.cell (i := 0) rfl (v := I _) rfl)) <| gT rfl (bT h38) <| vm e3_12 <| gT rfl (bT h38) <| V (run_eql rfl rfl) <| V (run_pickT (bT h38) (v := B _) rfl) <| mB rfl <| RL.splitP (dj := 67) rfl (fun h40 => ?_) (fun h40 => ?_)
         ·refine gT rfl (bT h40) <| V (fA underlying59 2 rfl sizeOf57 e1_12) <| gT rfl (bT h40) <| V (run_ldBR underlying57 rfl rfl rfl (hH12.blk (i := 0) rfl)) <| gT rfl (bT h40) <| RL.callP rfl hH12 (c_clearanceref06_Lattice _  _) (run_call1 call99 rfl) <| fun w41 hH42 => V (run_pickT (bT h40) (v := B _) rfl) <| aB rfl <| RL.nil <| CW.ret <| outP1 Tryz.results71 (congrArg B ?_) hH42.below
          (have hny : namedF f.names = true := named_yes hn1 hn2 ‹¬ k < _› hg; exact (fac_4y (f := f.fc) hny ‹_› ‹_›).symm)
         ·refine gF rfl (bF h40) <| gF rfl (bF h40) <| gF rfl (bF h40) <| V (run_pickF (bF h40) (v := B false) rfl) <| aB rfl <| RL.nil <| CW.ret <| outP1 Tryz.results71 (congrArg B ?_) hH12.below
          (have hny : namedF f.names = true := named_yes hn1 hn2 ‹¬ k < _› hg; exact (fac_4n (f := f.fc) ‹_› ‹_›).symm)
        ·refine gF rfl (bF h38) <| gF rfl (bF h38) <| gF rfl (bF h38) <| gF rfl (bF h38) <| gF rfl (bF h38) <| V (run_pickF (bF h38) (v := B false) rfl) <| mB rfl <| gF rfl rfl <| gF rfl rfl <| gF rfl rfl <| V (run_pickF rfl (v := B false) rfl) <| aB rfl <| RL.nil <| CW.ret <| outP1 Tryz.results71 (congrArg B ?_) hH12.below
         (have hny : namedF f.names = true := named_yes hn1 hn2 ‹¬ k < _› hg; exact (fac_x (f := f.fc) ‹_› ‹_› ‹_› ‹_›).symm)
theorem c_clearanceref07_Right (s : Shp) (w : World) (hs : ShpV (Kw w) s) : Calls Tryz.prog 48 #[.agg (shpC s)] w (Pure (B (shR s.sh)) w) := by
 have hsl := sh_len s
 have hm := hs.facs.sl.small
 unfold maxLen at hm
 refine enter Tryz.func48 rfl Tryz.ntmps48 rfl <| have hH := Hp.start w; SR <| RL.new rfl hH (f := fun b => (.pointer (some ⟨b, 0, none⟩))) (run_box (v := .agg _) rfl) <| fun b3 w1 hH2 => va (v := B false) rfl <| RL.nil <| CW.seq <| SR <| V (fA underlying42 1 rfl sizeOf40 rfl) <| V (run_ld underlying40 rfl rfl (hH2.cell (i := 0) rfl rfl)) <| V (run_lenSl (hs.facs.sl.hp hH2) rfl underlying40 rfl) <| V (run_lss rfl rfl) <| mB rfl <| RL.splitP (dj := 8) rfl (fun h5 => ?_) (fun h5 => ?_)
 ·refine gF rfl (bT h5) <| gF rfl (bT h5) <| gF rfl (bT h5) <| gF rfl (bT h5) <| V (run_pickT (bT h5) (v := B true) rfl) <| mB rfl <| gF rfl rfl <| gF rfl rfl <| gF rfl rfl <| gF rfl rfl <| RL.gU rfl rfl rfl <| RL.gU rfl rfl rfl <| RL.gU rfl rfl rfl <| RL.gU rfl rfl rfl <| gF rfl rfl <| V (run_pickT rfl (v := B true) rfl) <| RL.nil <| CW.condT rfl <| SR <| va (v := B false) rfl <| RL.nil <| CW.ret <| outP1 Tryz.results48 (congrArg B ?_) hH2.below
  exact (shR_no1 (by omega)).symm
 ·refine gT rfl (bF h5) <| V (fA underlying42 1 rfl sizeOf40 rfl) <| gT rfl (bF h5) <| V (run_ld underlying40 rfl rfl (hH2.cell (i := 0) rfl rfl)) <| gT rfl (bF h5) <| V (run_lenSl (hs.facs.sl.hp hH2) rfl underlying40 rfl) <| gT rfl (bF h5) <| V (run_gtr rfl rfl) <| V (run_pickF (bF h5) (v := B _) rfl) <| mB rfl <| RL.splitP (dj := 14) rfl (fun h7 => ?_) (fun h7 => ?_)
  ·refine gF rfl (bT h7) <| gF rfl (bT h7) <| gF rfl (bT h7) <| gF rfl (bT h7) <| RL.gU rfl rfl rfl <| RL.gU rfl rfl rfl <| RL.gU rfl rfl rfl <| RL.gU rfl rfl rfl <| gF rfl (bT h7) <| V (run_pickT (bT h7) (v := B true) rfl) <| RL.nil <| CW.condT rfl <| SR <| va (v := B false) rfl <| RL.nil <| CW.ret <| outP1 Tryz.results48 (congrArg B ?_) hH2.below
   exact (shR_no1 (by omega)).symm
  ·refine gT rfl (bF h7) <| V (fA underlying42 0 rfl sizeOf4 rfl) <| gT rfl (bF h7) <| V (run_ld underlying4 rfl rfl (hH2.cell (i := 0) rfl (v := B _) rfl)) <| gT rfl (bF h7) <| V (run_not rfl) <| gT rfl (bF h7) <| mB rfl <| RL.split (dj := 18) rfl (fun h10 => ?_) (fun h10 => ?_)
   ·refine gT rfl (bR (c := true) h10) <| V (fA underlying42 1 rfl sizeOf40 rfl) <| gT rfl (bR (c := true) h10) <| V (run_ld underlying40 rfl rfl (hH2.cell (i := 0) rfl rfl)) <| gT rfl (bR (c := true) h10) <| V (run_lenSl (hs.facs.sl.hp hH2) rfl underlying40 rfl) <| gT rfl (bR (c := true) h10) <| V (run_neq rfl rfl) <| gT rfl (bF h7) <| V (run_pickT (bR (c := true) h10) (v := B _) rfl) <| V (run_pickF (bF h7) (v := B _) rfl) <| RL.nil <| CW.condP rfl (fun h12 => ?_) (fun h12 => ?_)
    ·refine SR <| va (v := B false) rfl <| RL.nil <| CW.ret <| outP1 Tryz.results48 (congrArg B ?_) hH2.below
     exact (shR_no2 (by exact nt ‹_›) (by omega)).symm
    ·refine CW.skip <| CW.seq <| SR <| va (v := I 0) rfl <| RL.nil <| CW.block <| have hc2 : s.sh.tuple = true ∨ s.sh.facs.length = 1 := (by exact .inr (by omega)); have hc1 : 1 ≤ s.facs.length ∧ s.facs.length ≤ 8 := (by omega); CW.loop (G := Int) (fun k s' w' => (Fr (2 :: 3 :: (rg 25 14 [])) _ s') ∧ (Hp w w' _) ∧ (s' 3 = I k) ∧ (0 ≤ k) ∧ (k ≤ s.facs.length) ∧ (∀ j : Int, 0 ≤ j → j < k → factorR (s.facs.getD j.toNat fac0).fc = true)) (fun k => (s.facs.length - k).toNat) (0) ⟨Fr.refl _ _, hH2, rfl, (by omega), (by omega), fun j a b => absurd b (by omega)⟩ <| ?_
     rintro k sg13 w13 ⟨fr13, hH13, e3_13, h0, hk, hg⟩
     have e1_13 := fr13.pp 1 rfl rfl
     refine CW.seq <| SR <| vm e3_13 <| V (fA underlying42 1 rfl sizeOf40 e1_13) <| V (run_ld underlying40 rfl rfl (hH13.cell (i := 0) rfl rfl)) <| V (run_lenSl (hs.facs.sl.hp hH13) rfl underlying40 rfl) <| V (run_lss rfl rfl) <| RL.nil <| CW.condP rfl (fun h15 => ?_) (fun h15 => ?_)
     ·refine CW.skip <| CW.seq <| CW.block <| SR <| V (fA underlying42 1 rfl sizeOf40 e1_13) <| V (run_ld underlying40 rfl rfl (hH13.cell (i := 0) rfl rfl)) <| vm e3_13 <| V (run_indexAddrS (hs.facs.sl.hp hH13) underlying40 sizeOf59 rfl rfl (by omega)) <| V (run_ldE (dv := fac0) facL_len (hs.facs.sl.hp hH13) underlying59 rfl rfl rfl (by omega)) <| RL.callP rfl hH13 (c_clearanceref07_factor _  _ ((hs.at (by omega) (by omega)).mono hH13.kw)) (run_call1 call71 rfl) <| fun w16 hH17 => V (run_not rfl) <| RL.nil <| CW.cond rfl (fun h20 => ?_) (fun h20 => ?_)
      ·refine SR <| va (v := B false) rfl <| RL.nil <| CW.ret <| outP1 Tryz.results48 (congrArg B ?_) hH17.below
       exact (shR_no3 (k := k) h0 (by omega) (by rw [sh_get]; exact nt ‹_›)).symm
      ·refine CW.skip <| CW.region <| vm e3_13 <| V (run_add rfl rfl (by omega)) <| aI rfl <| RL.nil <| ?_
       refine ⟨k + 1, ?_, fr13.u4.u4.u4.u1.u1.u1, hH17, (congrArg I (by rfl)), ?_, ?_, ?_⟩
       ·((try dsimp only); omega)
       ·omega
       ·omega
       ·exact fun j a b => if e : j = k then e ▸ nf ‹_› else hg j a (by omega)
     ·refine CW.exit (id := 0) rfl <| SR <| va (v := B true) rfl <| RL.nil <| CW.ret <| outP1 Tryz.results48 (congrArg B ?_) hH13.below
      exact (shR_yes (k := k) (by omega) hc2 (by omega) fun j a b => by rw [sh_get]; exact hg j a b).symm
   ·refine gF rfl (bR (c := false) h10) <| gF rfl (bR (c := false) h10) <| gF rfl (bR (c := false) h10) <| gF rfl (bR (c := false) h10) <| gT rfl (bF h7) <| V (run_pickF (bR (c := false) h10) (v := B false) rfl) <| V (run_pickF (bF h7) (v := B _) rfl) <| RL.nil <| CW.condF rfl <| CW.skip <| CW.seq <| SR <| va (v := I 0) rfl <| RL.nil <| CW.block <| have hc2 : s.sh.tuple = true ∨ s.sh.facs.length = 1 := (by exact .inl (nf ‹(!s.tuple) = false›)); have hc1 : 1 ≤ s.facs.length ∧ s.facs.length ≤ 8 := (by omega); CW.loop (G := Int) (fun k s' w' => (Fr (2 :: 3 :: (rg 25 14 [])) _ s') ∧ (Hp w w' _) ∧ (s' 3 = I k) ∧ (0 ≤ k) ∧ (k ≤ s.facs.length) ∧ (∀ j : Int, 0 ≤ j → j < k → factorR (s.facs.getD j.toNat fac0).fc = true)) (fun k => (s.facs.length - k).toNat) (0) ⟨Fr.refl _ _, hH2, rfl, (by omega), (by omega), fun j a b => absurd b (by omega)⟩ <| ?_
    rintro k sg21 w21 ⟨fr21, hH21, e3_21, h0, hk, hg⟩
    have e1_21 := fr21.pp 1 rfl rfl
    refine CW.seq <| SR <| vm e3_21 <| V (fA underlying42 1 rfl sizeOf40 e1_21) <| V (run_ld underlying40 rfl rfl (hH21.cell (i := 0) rfl rfl)) <| V (run_lenSl (hs.facs.sl.hp hH21) rfl underlying40 rfl) <| V (run_lss rfl rfl) <| RL.nil <| CW.condP rfl (fun h23 => ?_) (fun h23 => ?_)
    ·refine CW.skip <| CW.seq <| CW.block <| SR <| V (fA underlying42 1 rfl sizeOf40 e1_21) <| V (run_ld underlying40 rfl rfl (hH21.cell (i := 0) rfl rfl)) <| vm e3_21 <| V (run_indexAddrS (hs.facs.sl.hp hH21) underlying40 sizeOf59 rfl rfl (by omega)) <| V (run_ldE (dv := fac0) facL_len (hs.facs.sl.hp hH21) underlying59 rfl rfl rfl (by omega)) <| RL.callP rfl hH21 (c_clearanceref07_factor _  _ ((hs.at (by omega) (by omega)).mono hH21.kw)) (run_call1 call71 rfl) <| fun w24 hH25 => V (run_not rfl) <| RL.nil <| CW.cond rfl (fun h28 => ?_) (fun h28 => ?_)
     ·refine SR <| va (v := B false) rfl <| RL.nil <| CW.ret <| outP1 Tryz.results48 (congrArg B ?_) hH25.below
      exact (shR_no3 (k := k) h0 (by omega) (by rw [sh_get]; exact nt ‹_›)).symm
     ·refine CW.skip <| CW.region <| vm e3_21 <| V (run_add rfl rfl (by omega)) <| aI rfl <| RL.nil <| ?_
      refine ⟨k + 1, ?_, fr21.u4.u4.u4.u1.u1.u1, hH25, (congrArg I (by rfl)), ?_, ?_, ?_⟩
      ·((try dsimp only); omega)
      ·omega
      ·omega
      ·exact fun j a b => if e : j = k then e ▸ nf ‹_› else hg j a (by omega)
    ·refine CW.exit (id := 0) rfl <| SR <| va (v := B true) rfl <| RL.nil <| CW.ret <| outP1 Tryz.results48 (congrArg B ?_) hH21.below
     exact (shR_yes (k := k) (by omega) hc2 (by omega) fun j a b => by rw [sh_get]; exact hg j a b).symm
theorem c_clearancelaw07_Big (s : Shp) (w : World) (hs : ShpV (Kw w) s) : Calls Tryz.prog 22 #[.agg (shpC s)] w (Pure (B (bigS s.sh)) w) := by
 have hsl := sh_len s
 have hm := hs.facs.sl.small
 unfold maxLen at hm
 refine enter Tryz.func22 rfl Tryz.ntmps22 rfl <| have hH := Hp.start w; SR <| RL.new rfl hH (f := fun b => (.pointer (some ⟨b, 0, none⟩))) (run_box (v := .agg _) rfl) <| fun b3 w1 hH2 => va (v := B false) rfl <| RL.nil <| CW.seq <| SR <| V (fA underlying42 1 rfl sizeOf40 rfl) <| V (run_ld underlying40 rfl rfl (hH2.cell (i := 0) rfl rfl)) <| V (run_lenSl (hs.facs.sl.hp hH2) rfl underlying40 rfl) <| V (run_gtr rfl rfl) <| RL.nil <| CW.condP rfl (fun h5 => ?_) (fun h5 => ?_)
 ·refine SR <| va (v := B true) rfl <| RL.nil <| CW.ret <| outP1 Tryz.results22 (congrArg B ?_) hH2.below
  exact (big_1 (s := s.sh) (by omega)).symm
 ·refine CW.skip <| CW.seq <| SR <| va (v := I 0) rfl <| RL.nil <| CW.block <| CW.loop (G := Int) (fun k s' w' => (Fr (rg 2 4 (rg 10 30 [])) _ s') ∧ (Hp w w' _) ∧ (s' 3 = I k) ∧ (0 ≤ k) ∧ (k ≤ s.facs.length) ∧ (∀ j : Int, 0 ≤ j → j < k → bigN (s.facs.getD j.toNat fac0).names = false)) (fun k => (s.facs.length - k).toNat) (0) ⟨Fr.refl _ _, hH2, rfl, (by omega), (by omega), fun j a b => absurd b (by omega)⟩ <| ?_
  rintro k sg6 w6 ⟨fr6, hH6, e3_6, h0, hk, hg⟩
  have e1_6 := fr6.pp 1 rfl rfl
  refine CW.seq <| SR <| vm e3_6 <| V (fA underlying42 1 rfl sizeOf40 e1_6) <| V (run_ld underlying40 rfl rfl (hH6.cell (i := 0) rfl rfl)) <| V (run_lenSl (hs.facs.sl.hp hH6) rfl underlying40 rfl) <| V (run_lss rfl rfl) <| RL.nil <| CW.condP rfl (fun h8 => ?_) (fun h8 => ?_)
  ·refine CW.skip <| CW.seq <| CW.block <| SR <| V (fA underlying42 1 rfl sizeOf40 e1_6) <| V (run_ld underlying40 rfl rfl (hH6.cell (i := 0) rfl rfl)) <| vm e3_6 <| V (run_indexAddrS (hs.facs.sl.hp hH6) underlying40 sizeOf59 rfl rfl (by omega)) <| V (run_ldE (dv := fac0) facL_len (hs.facs.sl.hp hH6) underlying59 rfl rfl rfl (by omega)) <| RL.new rfl hH6 (f := fun b => (.pointer (some ⟨b, 0, none⟩))) (run_alloc zero_fac) <| fun b11 w9 hH10 => RL.set hH10 (i := 0) rfl (run_stFac (hs.at (by omega) (by omega)) rfl rfl rfl (hH10.blk (i := 0) rfl)) <| fun w12 hH13 => ?_
   simp only [z2] at hH13
   refine RL.nil <| CW.seq <| SR <| V (fA underlying59 1 rfl sizeOf54 rfl) <| V (run_ld underlying54 rfl rfl (hH13.cell (i := 0) rfl rfl)) <| V (run_lenSl ((hs.at (by omega) (by omega)).names.sl.hp hH13) rfl underlying54 rfl) <| V (run_gtr rfl rfl) <| RL.nil <| CW.condP rfl (fun h15 => ?_) (fun h15 => ?_)
   ·refine SR <| va (v := B true) rfl <| RL.nil <| CW.ret <| outP1 Tryz.results22 (congrArg B ?_) hH13.below
    exact (big_2 (s := s.sh) (k := k) h0 (by omega) (by rw [sh_get]; (exact bigN_1 (by show 70 < (s.facs.getD k.toNat fac0).names.length; omega)))).symm
   ·refine CW.skip <| SR <| va (v := I 0) rfl <| RL.nil <| CW.block <| have hnb : (s.facs.getD k.toNat fac0).names.length ≤ 70 := (by omega); CW.loop (G := Int) (fun i s' w' => (Fr (2 :: (5 :: (rg 26 14 []))) _ s') ∧ (Hp w w' _) ∧ (s' 5 = I i) ∧ (0 ≤ i) ∧ (i ≤ (s.facs.getD k.toNat fac0).names.length) ∧ (∀ j : Int, 0 ≤ j → j < i → ¬ 40 < ((s.facs.getD k.toNat fac0).names.getD j.toNat tx0).size)) (fun i => ((s.facs.getD k.toNat fac0).names.length - i).toNat) (0) ⟨Fr.refl _ _, hH13, rfl, (by omega), (by omega), fun j a b => absurd b (by omega)⟩ <| ?_
    rintro i sg16 w16 ⟨fr16, hH16, e5_16, i0, i1, hn⟩
    have e3_16 := (fr16 3 rfl).trans e3_6
    have e4_16 := fr16.pp 4 rfl rfl
    refine CW.seq <| SR <| vm e5_16 <| V (fA underlying59 1 rfl sizeOf54 e4_16) <| V (run_ld underlying54 rfl rfl (hH16.cell (i := 0) rfl rfl)) <| V (run_lenSl ((hs.at (by omega) (by omega)).names.sl.hp hH16) rfl underlying54 rfl) <| V (run_lss rfl rfl) <| RL.nil <| CW.condP rfl (fun h18 => ?_) (fun h18 => ?_)
    ·refine CW.skip <| CW.seq <| CW.block <| SR <| V (fA underlying59 1 rfl sizeOf54 e4_16) <| V (run_ld underlying54 rfl rfl (hH16.cell (i := 0) rfl rfl)) <| vm e5_16 <| V (run_indexAddrS ((hs.at (by omega) (by omega)).names.sl.hp hH16) underlying54 sizeOf9 rfl rfl (by omega)) <| V (run_ld underlying9 rfl rfl (((hs.at (by omega) (by omega)).names.sl.hp hH16).cell _ _ (txL_at (by omega)))) <| V (run_lenStr rfl underlying9 rfl) <| V (run_gtr rfl rfl) <| RL.nil <| CW.condP rfl (fun h20 => ?_) (fun h20 => ?_)
     ·refine SR <| va (v := B true) rfl <| RL.nil <| CW.ret <| outP1 Tryz.results22 (congrArg B ?_) hH16.below
      exact (big_2 (s := s.sh) (k := k) h0 (by omega) (by rw [sh_get]; (exact bigN_2 i0 ‹_› (by show 40 < ((s.facs.getD k.toNat fac0).names.getD i.toNat tx0).size; omega)))).symm
     ·refine CW.skip <| CW.region <| vm e5_16 <| V (run_add rfl rfl (by omega)) <| aI rfl <| RL.nil <| ?_
      refine ⟨i + 1, ?_, fr16.u4.u4.u4.u1.u1.u1, hH16, (congrArg I (by rfl)), ?_, ?_, ?_⟩
      ·((try dsimp only); omega)
      ·omega
      ·omega
      ·exact fun j a b => if e : j = i then e ▸ (by omega) else hn j a (by omega)
    ·refine CW.exit (id := 2) rfl <| CW.region <| vm e3_16 <| V (run_add rfl rfl (by omega)) <| aI rfl <| RL.nil <| ?_
     refine ⟨k + 1, ?_, (((fr6.u4.u4.u4.u4).t fr16 rfl)).u4.u4, (hH16.sub (sQ sR)), (congrArg I (by rfl)), ?_, ?_, ?_⟩
     ·((try dsimp only); omega)
     ·omega
     ·omega
     ·exact fun j a b => if e : j = k then e ▸ bigN_no (by omega) ‹¬ i < _› hn else hg j a (by omega)
  ·refine CW.exit (id := 0) rfl <| SR <| va (v := B false) rfl <| RL.nil <| CW.ret <| outP1 Tryz.results22 (congrArg B ?_) hH6.below
   exact (big_no (s := s.sh) (k := k) (by omega) (by omega) fun j a b => by rw [sh_get]; exact hg j a b).symm
theorem c_spell_kind (f : Fac) (w : World) : Calls Tryz.prog 119 #[.agg (facC f)] w (Pure (I (kindN f.fc)) w) := by
 refine enter Tryz.func119 rfl Tryz.ntmps119 rfl <| have hH := Hp.start w; SR <| RL.new rfl hH (f := fun b => (.pointer (some ⟨b, 0, none⟩))) (run_box (v := .agg _) rfl) <| fun b3 w1 hH2 => va (v := I 0) rfl <| RL.nil <| CW.seq <| SR <| V (fA underlying59 0 rfl sizeOf3 rfl) <| V (run_ld underlying3 rfl rfl (hH2.cell (i := 0) rfl (v := I _) rfl)) <| RL.nil <| CW.block <| SR <| V (run_eql rfl rfl) <| aB rfl <| RL.nil <| CW.condP rfl (fun h5 => ?_) (fun h5 => ?_)
 ·refine SR <| va (v := I 3) rfl <| RL.nil <| CW.ret <| outP1 Tryz.results119 (congrArg I ?_) hH2.below
  (simp [kindN, Fac.fc, *])
 ·refine SR <| V (run_eql rfl rfl) <| aB rfl <| RL.nil <| CW.condP rfl (fun h7 => ?_) (fun h7 => ?_)
  ·refine SR <| va (v := I 5) rfl <| RL.nil <| CW.ret <| outP1 Tryz.results119 (congrArg I ?_) hH2.below
   (simp [kindN, Fac.fc, *])
  ·refine CW.skip <| SR <| va (v := I 2) rfl <| RL.nil <| CW.ret <| outP1 Tryz.results119 (congrArg I ?_) hH2.below
   (simp [kindN, Fac.fc, *])
theorem c_spell_constant_1_1 (W0 : World) (b c : Nat) (v : Value) (l : List Int) (f : Fac) (i : Int) (hi : 0 ≤ i ∧ i < f.names.length) (w : World) (hH : Hp W0 w [.row v 128 2 l.length ((l.map (wdN f.names)).flatMap wdL), .blk b (.cells #[v] 93 (0, 0))]) (hlen : l.length ≤ 64) (hf : FacV (Kw W0) f) (hc : W0.heap[c]? = some (.cells (facC f) 59 (0, 0))) : Calls Tryz.prog 118 #[I i, .pointer (some ⟨b, 0, none⟩), .pointer (some ⟨c, 0, none⟩)] w (Ret fun u w' => u = B true ∧ ∃ v', Hp W0 w' [.row v' 128 2 (l ++ [i]).length (((l ++ [i]).map (wdN f.names)).flatMap wdL), .blk b (.cells #[v'] 93 (0, 0))]) := by
 refine enter Tryz.func118 rfl Tryz.ntmps118 rfl <| SR <| va (v := B false) rfl <| RL.nil <| CW.seq <| CW.regionS (by kernel_rfl) hH (sQ (sQ sR)) <| fun w1 hH2 => have zh2 := hH2.sub (sQ (sQ sR)); AQ 1 rfl zh2 (fA underlying59 1 rfl sizeOf54 rfl) <| AT 2 rfl zh2 (fun w hS => run_ld underlying54 rfl rfl (hS.extCell hc rfl)) <| AQ 3 rfl zh2 (mV (I _) rfl) <| AT 4 rfl zh2 (fun w hS => run_indexAddrS (hf.names.sl.hp hS) underlying54 sizeOf9 rfl rfl (by omega)) <| AT 5 rfl zh2 (fun w hS => run_ld underlying9 rfl rfl ((hf.names.sl.hp hS).cell _ _ (txL_at (by omega)))) <| AQ 6 rfl zh2 (run_bld (vs := [(0, S _)]) rfl (built_wdLs _)) <| AN.two 0 7 (by kernel_rfl) ?_ ?_
 ·refine AO.read rfl gnone rfl hH2 (sQ (sQ sR)) (run_ld underlying93 rfl rfl (hH2.cell (i := 1) rfl rfl)) <| A1 7 <| AO.new rfl gnone rfl hH2 (sQ (sQ sR)) (f := fun b => .slice (some ⟨b, 0, none⟩) 1 1) (run_mkRecs wdL_len underlying93 rfl rfl rfl (l := [_]) rfl (by decide) (by decide) rfl) <| fun b7 w5 hH6 => A1 8 <| AO.app rfl gnone rfl hH6 (j := 1) rfl (fun _ => (sQ (sQ (sQ sR)))) (Hp.slFlat wdL_len hH6 (i := 0) (l := [_]) rfl (by simp [maxLen])) rfl rfl underlying93 rfl rfl (size := 2) (bytes := 24) rfl rfl rfl (by decide) (by simp [wdL, Value.oneCell']) (by simp only [List.length_cons, List.length_nil]; omega) (by simp only [maxLen, List.length_cons, List.length_nil]; omega) <| fun v10 w8 hH9 => ?_
  simp only [z2] at hH9
  refine A1 9 <| AO.set rfl gnone hH9 (j := 2) rfl (sQ (sQ (sQ sR))) (run_st rfl rfl (v := v10) rfl (row_cells (hH9.get (i := 1) rfl)).1 (row_cells (hH9.get (i := 1) rfl)).2 (hH9.blk (i := 2) rfl) (by simp)) <| fun w11 hH12 => ?_
  simp only [z2] at hH12
  refine AD <| SR <| va (v := B true) rfl <| RL.nil <| CW.ret <| out1 Tryz.results118 rfl ⟨rfl, (v10 : Value), Hp.conv hH12.tail (by simp [wdN])⟩
 ·refine AO.new rfl gnone rfl hH2 (sQ (sQ sR)) (f := fun b => .slice (some ⟨b, 0, none⟩) 1 1) (run_mkRecs wdL_len underlying93 rfl rfl rfl (l := [_]) rfl (by decide) (by decide) rfl) <| fun b15 w13 hH14 => A1 0 <| AO.read rfl gnone rfl hH14 (sQ (sQ (sQ sR))) (run_ld underlying93 rfl rfl (hH14.cell (i := 2) rfl rfl)) <| A1 8 <| AO.app rfl gnone rfl hH14 (j := 1) rfl (fun _ => (sQ (sQ (sQ sR)))) (Hp.slFlat wdL_len hH14 (i := 0) (l := [_]) rfl (by simp [maxLen])) rfl rfl underlying93 rfl rfl (size := 2) (bytes := 24) rfl rfl rfl (by decide) (by simp [wdL, Value.oneCell']) (by simp only [List.length_cons, List.length_nil]; omega) (by simp only [maxLen, List.length_cons, List.length_nil]; omega) <| fun v20 w18 hH19 => ?_
  simp only [z2] at hH19
  refine A1 9 <| AO.set rfl gnone hH19 (j := 2) rfl (sQ (sQ (sQ sR))) (run_st rfl rfl (v := v20) rfl (row_cells (hH19.get (i := 1) rfl)).1 (row_cells (hH19.get (i := 1) rfl)).2 (hH19.blk (i := 2) rfl) (by simp)) <| fun w21 hH22 => ?_
  simp only [z2] at hH22
  refine AD <| SR <| va (v := B true) rfl <| RL.nil <| CW.ret <| out1 Tryz.results118 rfl ⟨rfl, (v20 : Value), Hp.conv hH22.tail (by simp [wdN])⟩
theorem c_spell_constant_1 (K : Vu) (c : Nat) (f : Fac) (s : BitVec 64) (hw : subB s (below f.names.length) = true) (w : World) (hK : Le K (Kw w)) (hf : FacV (Kw w) f) (hc : w.heap[c]? = some (.cells (facC f) 59 (0, 0))) (hT : Tab w) : Calls Tryz.prog 116 #[U s, .pointer (some ⟨c, 0, none⟩)] w (PureF K (fun K' u => SlV K' u 2 (namesOf f.names s).length ((namesOf f.names s).flatMap wdL)) w) := by
 refine enter Tryz.func116 rfl Tryz.ntmps116 rfl <| have hH := Hp.start w; SR <| va (v := .slice none 0 0) rfl <| RL.nil <| SR <| RL.new rfl hH (f := fun b => (.pointer (some ⟨b, 0, none⟩))) (run_alloc Tryz.zeroValue93) <| fun b3 w1 hH2 => have hH4 := hH2.nilRow 128 2; RL.nil <| SR <| mU rfl <| ?_
 refine V (run_mkF2 (by conv => lhs; whnf) (by conv => lhs; whnf)) ?_
 refine RL.call rfl (run_call2 call117 (v1 := U s) rfl (v2 := .func (.func 118) #[] #[.pointer (some ⟨b3, 0, none⟩), .pointer (some ⟨c, 0, none⟩)]) rfl) (c_mask_Each 118 _ (fun l w' => ∃ v, Hp w w' [.row v 128 2 l.length ((l.map (wdN f.names)).flatMap wdL), .blk b3 (.cells #[v] 93 (0, 0))]) (fun _ _ => False) s _ call118 (fun l w' w'' h hb => h.imp fun v h => h.call hb) (fun l w' h => h.elim fun v h => hT.hp h) (fun l i r w' he h => h.elim fun v h => by
   have hl64 : l.length ≤ 64 := by have := lst_len s; rw [he] at this; simp at this; omega
   have hi : 0 ≤ i ∧ i < f.names.length := lst_in hw (by rw [he]; simp)
   refine Ret.calls (c_spell_constant_1_1 w b3 c v l f i hi w' h hl64 hf hc) <| fun u w2 hq => ⟨true, hq.1, fun _ => hq.2, fun h => by cases h⟩) ⟨.slice none 0 0, hH4⟩) ?_
 rintro u w5 ⟨rfl, hor⟩
 obtain ⟨v7, hH6⟩ := hor.resolve_right (fun ⟨_, _, _, _, h⟩ => h)
 refine RL.nil <| SR <| V (run_ld underlying93 rfl rfl (hH6.cell (i := 1) rfl rfl)) <| ?_
 refine V (run_assign (by conv => lhs; whnf)) ?_
 refine RL.nil <| CW.ret <| ?_
 obtain ⟨Z8, hz9, hv10, -⟩ := hH6.frz (K)
 have hH11 : Hp _ w5 (_ :: Z8) := hz9.zin0 (L := [_])
 refine out1 Tryz.results116 rfl ⟨Z8, (hH11.sub (sQ sR)), ?_⟩
 rw [namesOf_def, List.length_map]; exact hv10
theorem c_spell_constant (K : Vu) (f : Fac) (s : BitVec 64) (hR : factorR f.fc = true) (hw : wordF f.fc s = true) (w : World) (hK : Le K (Kw w)) (hf : FacV K f) (hT : Tab w) : Calls Tryz.prog 94 #[.agg (facC f), U s] w (PureF K (fun K' u => ∃ n : NodeR, u = .agg (nodeL n).toArray ∧ n.nd = constF f.fc s ∧ NodeV K' n) w) := by
 have hm1 := hf.names.small
 unfold maxLen at hm1
 have hno := (named_spec (fac_named hR)).1
 refine enter Tryz.func94 rfl Tryz.ntmps94 rfl <| have hH := Hp.start w; SR <| RL.new rfl hH (f := fun b => (.pointer (some ⟨b, 0, none⟩))) (run_box (v := .agg _) rfl) <| fun b3 w1 hH2 => RL.new rfl hH2 (f := fun b => (.pointer (some ⟨b, 0, none⟩))) (run_alloc Tryz.zeroValue96) <| fun b6 w4 hH5 => RL.nil <| SR <| ?_
 refine V (run_mkF1 (by conv => lhs; whnf)) ?_
 refine va (v := .func _ _ _) rfl <| RL.nil <| SR <| V (run_ldFac underlying59 rfl rfl rfl (hH5.blk (i := 1) rfl)) <| RL.callP rfl hH5 (c_spell_kind _  _) (run_call1 call119 rfl) <| fun w7 hH8 => V (run_bld (vs := [(0, I (kindN f.fc))]) rfl (built_nodeK (kindN f.fc))) <| RL.new rfl hH8 (f := fun b => (.pointer (some ⟨b, 0, none⟩))) (run_alloc Tryz.zeroValue96) <| fun b11 w9 hH10 => RL.set hH10 (i := 0) rfl (run_stW (c' := (nodeL (kindR (kindN f.fc) tx0 (.slice none 0 0) [])).toArray) rfl rfl rfl (nodeL_one (kindR_v (SlV.nil (Kw w) _))) (hH10.blk (i := 0) rfl) rfl) <| fun w12 hH13 => ?_
 simp only [z2] at hH13
 have hH14 := hH13.nilRow 96 5
 refine RL.nil <| CW.seq <| SR <| V (fA underlying59 0 rfl sizeOf3 rfl) <| V (run_ld underlying3 rfl rfl (hH14.cell (i := 3) rfl (v := I _) rfl)) <| RL.nil <| CW.block <| SR <| V (run_eql rfl rfl) <| aB rfl <| RL.nil <| CW.condP rfl (fun h16 => ?_) (fun h16 => ?_)
 ·refine CW.region <| vm (v := .func _ _ _) rfl <| mU rfl <| RL.callF rfl hH14 (c_spell_constant_1 K b3 f s (sub_2 (f := f.fc) ‹f.kind = 2› hw) _ (hK.trans hH14.kw) (hf.mono (hK.trans hH14.kw)) (hH14.blk (i := 3) rfl) (hT.hp hH14)) (run_callC1 call116 (cs := [.pointer (some ⟨b3, 0, none⟩)]) rfl rfl) <| fun v19 w20 Z22 hH21 hp23 => have hH24 : Hp _ w20 (_ :: _ :: _ :: _ :: Z22) := hH21.zin0 (L := [_, _, _, _]); have hv25 := hp23; V (fA underlying96 3 rfl sizeOf93 rfl) <| RL.set hH24 (i := 1) rfl (run_st rfl rfl (v := v19) rfl (one_slv hv25).2 (one_slv hv25).1 (hH24.blk (i := 1) rfl) (by show 3 < 5; decide)) <| fun w26 hH27 => ?_
  simp only [z2] at hH27
  refine RL.nil <| SR <| have hN28 : NodeV (Kz K Z22) ((kindR (kindN f.fc) tx0 v19 (namesOf f.names s))) := kindR_v hv25; V (run_ldA (cs := nodeL ((kindR (kindN f.fc) tx0 v19 (namesOf f.names s)))) underlying96 rfl rfl rfl (rangeAt_cells (hH27.blk (i := 1) rfl))) <| RL.set hH27 (i := 2) rfl (run_stW (c' := (nodeL ((kindR (kindN f.fc) tx0 v19 (namesOf f.names s)))).toArray) rfl rfl rfl (nodeL_one hN28) (hH27.blk (i := 2) rfl) rfl) <| fun w29 hH30 => ?_
  simp only [z2] at hH30
  refine RL.nil <| CW.ret <| outCg Tryz.results94 rfl hH30 (i := 2) rfl underlying96 rfl rfl ⟨Z22, (hH30.sub (sQ (sQ (sQ (sQ sR))))), (kindR (kindN f.fc) tx0 v19 (namesOf f.names s)), rfl, ?_, hN28⟩
  exact nd_2 ‹_›
 ·refine SR <| V (run_eql rfl rfl) <| aB rfl <| RL.nil <| CW.condP rfl (fun h32 => ?_) (fun h32 => ?_)
  ·refine SR <| V (fA underlying59 2 rfl sizeOf57 rfl) <| V (run_ldBR underlying57 rfl rfl rfl (hH14.blk (i := 3) rfl)) <| mU rfl <| RL.callP rfl hH14 (c_grid_Owners _ _  _) (run_call2 call121 rfl rfl) <| fun w33 hH34 => RL.callR rfl hH34 (c_mask_List _  _ (hT.hp hH34)) (run_call1 call120 rfl) <| fun v37 w35 hH36 => V (run_lenSl (hH36.sl (i := 0) rfl) rfl underlying111 rfl) <| vm (v := I 0) rfl <| RL.nil <| CW.block <| CW.loop (G := Int × Value × (List NodeR) × (List Ent)) (fun ⟨k, kv, gs, Z⟩ s' w' => (Fr (8 :: (rg 47 23 [])) _ s') ∧ (Hp w w' (_ :: .row kv 96 5 (gs.length) (gs.flatMap nodeL) :: .blk b11 (.cells ((nodeL (kidsR (kindN f.fc) kv gs)).toArray) 96 (0, 0)) :: _ :: _ :: Z)) ∧ (s' 47 = I k) ∧ (0 ≤ k) ∧ (k ≤ (lst (ownersG f.rel s)).length) ∧ (gs.map NodeR.nd = rulesTo f.fc s k) ∧ (NodesV (Kz K Z) gs) ∧ ((gs.length : Int) = k)) (fun ⟨k, kv, gs, Z⟩ => ((lst (ownersG f.rel s)).length - k).toNat) ((0, (.slice none 0 0 : Value), [], [])) ⟨Fr.refl _ _, hH36, rfl, (by omega), (by omega), rfl, NodesV.nil _, rfl⟩ <| ?_
   rintro ⟨k, kv, gs, Z⟩ sg38 w38 ⟨fr38, hH38, e47_38, h0, hk, hm, hF, hb⟩
   have e1_38 := fr38.uu 1 rfl rfl
   have e2_38 := fr38.pp 2 rfl rfl
   have e4_38 := fr38.pp 4 rfl rfl
   have e5_38 := fr38.vv 5 (a := .func _ _ _) rfl rfl
   have e6_38 := fr38.pp 6 rfl rfl
   have e45_38 := (fr38 45 rfl).trans (by conv => lhs; whnf)
   have e46_38 := fr38.ii 46 rfl rfl
   have hl64 := lst_len (ownersG f.rel s)
   refine SR <| V (run_lss e47_38 e46_38) <| RL.nil <| CW.seq <| CW.condP rfl (fun h40 => ?_) (fun h40 => ?_)
   ·refine CW.skip <| CW.seq <| CW.block <| SR <| V (run_indexAddrS (hH38.sl (i := 0) rfl) underlying111 sizeOf3 e45_38 e47_38 (by omega)) <| V (run_ld underlying3 rfl rfl ((hH38.sl (i := 0) rfl).cell _ _ (map_at (by omega)))) <| aI rfl <| RL.nil <| CW.regionS (by kernel_rfl) hH38 (sP (sQ (sQ sR))) <| fun w41 hH42 => have zh42 := hH42.sub (sP (sQ (sQ sR))); AQ 0 rfl zh42 (fA underlying96 4 rfl sizeOf94 e6_38) <| AQ 2 rfl zh42 (fA underlying59 1 rfl sizeOf54 e2_38) <| AT 3 rfl zh42 (fun w hS => run_ld underlying54 rfl rfl (hS.cell (i := 2) rfl rfl)) <| AQ 4 rfl zh42 (mV (I _) rfl) <| AT 5 rfl zh42 (fun w hS => run_indexAddrS ((hf.mono hK).names.sl.hp hS) underlying54 sizeOf9 rfl rfl (by exact own_at (f := f.fc) hR ‹f.kind = 3› s h0 ‹k < _›)) <| AT 6 rfl zh42 (fun w hS => run_ld underlying9 rfl rfl (((hf.mono hK).names.sl.hp hS).cell _ _ (txL_at (by exact own_at (f := f.fc) hR ‹f.kind = 3› s h0 ‹k < _›)))) <| AQ 7 rfl zh42 (run_move e5_38) <| AQ 8 rfl zh42 (fA underlying59 2 rfl sizeOf57 e2_38) <| AT 9 rfl zh42 (fun w hS => run_ldBR underlying57 rfl rfl rfl (hS.blk (i := 2) rfl)) <| AQ 10 rfl zh42 (run_move e1_38) <| AQ 11 rfl zh42 (mV (I _) rfl) <| AN.two 1 12 (by kernel_rfl) ?_ ?_
    ·refine AO.read rfl gnone rfl hH42 (sP (sQ (sQ sR))) (run_ld underlying94 rfl rfl (hH42.cell (i := 2) rfl rfl)) <| A1 12 <| AO.callP rfl gnone rfl hH42 (sP (sQ (sQ sR))) (c_grid_Readers _ _ _  _) (run_call3 call122 rfl rfl rfl) <| fun w45 hH46 => A1 13 <| AO.callF rfl gnone rfl hH46 (sP (sQ (sQ sR))) (c_spell_constant_1 K b3 f (readersG f.rel s ((lst (ownersG f.rel s)).getD k.toNat 0)) (sub_r (f := f.fc) hR ‹f.kind = 3› _ _) _ (hK.trans hH46.kw) (hf.mono (hK.trans hH46.kw)) (hH46.blk (i := 4) rfl) (hT.hp hH46)) (run_callC1 call116 (cs := [.pointer (some ⟨b3, 0, none⟩)]) rfl rfl) <| fun v49 w50 Z52 hH51 hp53 => have hH54 : Hp _ w50 (_ :: _ :: _ :: _ :: _ :: (Z52 ++ Z)) := hH51.zin (L := [_, _, _, _, _]) (L' := Z); have hv55 := hp53; AQ 14 rfl (hH54.sub (sP (sQ (sQ (sP (sP (sA sR))))))) (run_bld (vs := [(0, I 6), (2, S (f.names.getD ((lst (ownersG f.rel s)).getD k.toNat 0).toNat tx0)), (3, v49)]) rfl (built_nodeTN (one_slv hv55).2 6 (f.names.getD ((lst (ownersG f.rel s)).getD k.toNat 0).toNat tx0) (namesOf f.names (readersG f.rel s ((lst (ownersG f.rel s)).getD k.toNat 0))))) <| A1 15 <| AO.new rfl gnone rfl hH54 (sP (sQ (sQ (sP (sP (sA sR)))))) (f := fun b => .slice (some ⟨b, 0, none⟩) 1 1) (run_mkRecs nodeL_len underlying94 rfl rfl rfl (l := [(kindR 6 (f.names.getD ((lst (ownersG f.rel s)).getD k.toNat 0).toNat tx0) v49 (namesOf f.names (readersG f.rel s ((lst (ownersG f.rel s)).getD k.toNat 0))))]) rfl (by decide) (by decide) rfl) <| fun b58 w56 hH57 => A1 16 <| AO.app rfl gnone rfl hH57 (j := 2) rfl (fun _ => (sQ (sP (sQ (sQ (sP (sP (sA sR)))))))) (Hp.slFlat nodeL_len hH57 (i := 0) (l := [(kindR 6 (f.names.getD ((lst (ownersG f.rel s)).getD k.toNat 0).toNat tx0) v49 (namesOf f.names (readersG f.rel s ((lst (ownersG f.rel s)).getD k.toNat 0))))]) rfl (by simp [maxLen])) rfl rfl underlying94 rfl rfl (size := 5) (bytes := 80) rfl rfl rfl (by decide) (node1_one (kindR_v hv55)) (by simp only [List.length_cons, List.length_nil]; omega) (by simp only [maxLen, List.length_cons, List.length_nil]; omega) <| fun v61 w59 hH60 => ?_
     simp only [z2] at hH60
     refine AQ 17 rfl (hH60.sub (sQ (sP (sQ (sQ (sP (sP (sA sR)))))))) (fA underlying96 4 rfl sizeOf94 e6_38) <| A1 18 <| AO.set rfl gnone hH60 (j := 3) rfl (sQ (sP (sQ (sQ (sP (sP (sA sR))))))) (run_st rfl rfl (v := v61) rfl (row_cells (hH60.get (i := 2) rfl)).1 (row_cells (hH60.get (i := 2) rfl)).2 (hH60.blk (i := 3) rfl) (by show 4 < 5; decide)) <| fun w64 hH65 => ?_
     simp only [z2] at hH65
     refine AD <| CW.region <| V (run_add e47_38 rfl (by omega)) <| mI rfl <| RL.nil <| ?_
     refine ⟨(k + 1, v61, (gs ++ [(kindR 6 (f.names.getD ((lst (ownersG f.rel s)).getD k.toNat 0).toNat tx0) v49 (namesOf f.names (readersG f.rel s ((lst (ownersG f.rel s)).getD k.toNat 0))))]), (Z52 ++ Z)), ?_, fr38.u4.u4.u4.u4.u4.u4, (Hp.conv (hH65.sub (sQ sR)) (by simp [nodeL, kidsR, kindR, NodeR.kind, NodeR.place, NodeR.text, NodeR.nv, NodeR.kv]; done)), (congrArg I (by rfl)), ?_, ?_, ?_, ?_, ?_⟩
     ·((try dsimp only); omega)
     ·omega
     ·omega
     ·rw [rules_next (f := f.fc) h0 ‹k < _›, List.map_append, hm]; exact congrArg (_ ++ [·]) (rule_nd (f := f.fc) (w := s) (o := ((lst (ownersG f.rel s)).getD k.toNat 0)))
     ·exact (hF.mono (Le.zz fun y hy => List.mem_append_right _ hy)).snoc (NodeV.mono (Le.zz fun y hy => List.mem_append_left _ hy) (kindR_v hv55))
     ·simp only [List.length_append, List.length_singleton]; omega
    ·refine AO.callP rfl gnone rfl hH42 (sP (sQ (sQ sR))) (c_grid_Readers _ _ _  _) (run_call3 call122 rfl rfl rfl) <| fun w66 hH67 => AN.two 1 13 (by kernel_rfl) ?_ ?_
     ·refine AO.read rfl gnone rfl hH67 (sP (sQ (sQ sR))) (run_ld underlying94 rfl rfl (hH67.cell (i := 2) rfl rfl)) <| A1 13 <| AO.callF rfl gnone rfl hH67 (sP (sQ (sQ sR))) (c_spell_constant_1 K b3 f (readersG f.rel s ((lst (ownersG f.rel s)).getD k.toNat 0)) (sub_r (f := f.fc) hR ‹f.kind = 3› _ _) _ (hK.trans hH67.kw) (hf.mono (hK.trans hH67.kw)) (hH67.blk (i := 4) rfl) (hT.hp hH67)) (run_callC1 call116 (cs := [.pointer (some ⟨b3, 0, none⟩)]) rfl rfl) <| fun v72 w73 Z75 hH74 hp76 => have hH77 : Hp _ w73 (_ :: _ :: _ :: _ :: _ :: (Z75 ++ Z)) := hH74.zin (L := [_, _, _, _, _]) (L' := Z); have hv78 := hp76; AQ 14 rfl (hH77.sub (sP (sQ (sQ (sP (sP (sA sR))))))) (run_bld (vs := [(0, I 6), (2, S (f.names.getD ((lst (ownersG f.rel s)).getD k.toNat 0).toNat tx0)), (3, v72)]) rfl (built_nodeTN (one_slv hv78).2 6 (f.names.getD ((lst (ownersG f.rel s)).getD k.toNat 0).toNat tx0) (namesOf f.names (readersG f.rel s ((lst (ownersG f.rel s)).getD k.toNat 0))))) <| A1 15 <| AO.new rfl gnone rfl hH77 (sP (sQ (sQ (sP (sP (sA sR)))))) (f := fun b => .slice (some ⟨b, 0, none⟩) 1 1) (run_mkRecs nodeL_len underlying94 rfl rfl rfl (l := [(kindR 6 (f.names.getD ((lst (ownersG f.rel s)).getD k.toNat 0).toNat tx0) v72 (namesOf f.names (readersG f.rel s ((lst (ownersG f.rel s)).getD k.toNat 0))))]) rfl (by decide) (by decide) rfl) <| fun b81 w79 hH80 => A1 16 <| AO.app rfl gnone rfl hH80 (j := 2) rfl (fun _ => (sQ (sP (sQ (sQ (sP (sP (sA sR)))))))) (Hp.slFlat nodeL_len hH80 (i := 0) (l := [(kindR 6 (f.names.getD ((lst (ownersG f.rel s)).getD k.toNat 0).toNat tx0) v72 (namesOf f.names (readersG f.rel s ((lst (ownersG f.rel s)).getD k.toNat 0))))]) rfl (by simp [maxLen])) rfl rfl underlying94 rfl rfl (size := 5) (bytes := 80) rfl rfl rfl (by decide) (node1_one (kindR_v hv78)) (by simp only [List.length_cons, List.length_nil]; omega) (by simp only [maxLen, List.length_cons, List.length_nil]; omega) <| fun v84 w82 hH83 => ?_
      simp only [z2] at hH83
      refine AQ 17 rfl (hH83.sub (sQ (sP (sQ (sQ (sP (sP (sA sR)))))))) (fA underlying96 4 rfl sizeOf94 e6_38) <| A1 18 <| AO.set rfl gnone hH83 (j := 3) rfl (sQ (sP (sQ (sQ (sP (sP (sA sR))))))) (run_st rfl rfl (v := v84) rfl (row_cells (hH83.get (i := 2) rfl)).1 (row_cells (hH83.get (i := 2) rfl)).2 (hH83.blk (i := 3) rfl) (by show 4 < 5; decide)) <| fun w87 hH88 => ?_
      simp only [z2] at hH88
      refine AD <| CW.region <| V (run_add e47_38 rfl (by omega)) <| mI rfl <| RL.nil <| ?_
      refine ⟨(k + 1, v84, (gs ++ [(kindR 6 (f.names.getD ((lst (ownersG f.rel s)).getD k.toNat 0).toNat tx0) v72 (namesOf f.names (readersG f.rel s ((lst (ownersG f.rel s)).getD k.toNat 0))))]), (Z75 ++ Z)), ?_, fr38.u4.u4.u4.u4.u4.u4, (Hp.conv (hH88.sub (sQ sR)) (by simp [nodeL, kidsR, kindR, NodeR.kind, NodeR.place, NodeR.text, NodeR.nv, NodeR.kv]; done)), (congrArg I (by rfl)), ?_, ?_, ?_, ?_, ?_⟩
      ·((try dsimp only); omega)
      ·omega
      ·omega
      ·rw [rules_next (f := f.fc) h0 ‹k < _›, List.map_append, hm]; exact congrArg (_ ++ [·]) (rule_nd (f := f.fc) (w := s) (o := ((lst (ownersG f.rel s)).getD k.toNat 0)))
      ·exact (hF.mono (Le.zz fun y hy => List.mem_append_right _ hy)).snoc (NodeV.mono (Le.zz fun y hy => List.mem_append_left _ hy) (kindR_v hv78))
      ·simp only [List.length_append, List.length_singleton]; omega
     ·refine AO.callF rfl gnone rfl hH67 (sP (sQ (sQ sR))) (c_spell_constant_1 K b3 f (readersG f.rel s ((lst (ownersG f.rel s)).getD k.toNat 0)) (sub_r (f := f.fc) hR ‹f.kind = 3› _ _) _ (hK.trans hH67.kw) (hf.mono (hK.trans hH67.kw)) (hH67.blk (i := 4) rfl) (hT.hp hH67)) (run_callC1 call116 (cs := [.pointer (some ⟨b3, 0, none⟩)]) rfl rfl) <| fun v91 w92 Z94 hH93 hp95 => have hH96 : Hp _ w92 (_ :: _ :: _ :: _ :: _ :: (Z94 ++ Z)) := hH93.zin (L := [_, _, _, _, _]) (L' := Z); have hv97 := hp95; AQ 14 rfl (hH96.sub (sP (sQ (sQ (sP (sP (sA sR))))))) (run_bld (vs := [(0, I 6), (2, S (f.names.getD ((lst (ownersG f.rel s)).getD k.toNat 0).toNat tx0)), (3, v91)]) rfl (built_nodeTN (one_slv hv97).2 6 (f.names.getD ((lst (ownersG f.rel s)).getD k.toNat 0).toNat tx0) (namesOf f.names (readersG f.rel s ((lst (ownersG f.rel s)).getD k.toNat 0))))) <| AN.two 1 15 (by kernel_rfl) ?_ ?_
      ·refine AO.read rfl gnone rfl hH96 (sP (sQ (sQ (sP (sP (sA sR)))))) (run_ld underlying94 rfl rfl (hH96.cell (i := 2) rfl rfl)) <| A1 15 <| AO.new rfl gnone rfl hH96 (sP (sQ (sQ (sP (sP (sA sR)))))) (f := fun b => .slice (some ⟨b, 0, none⟩) 1 1) (run_mkRecs nodeL_len underlying94 rfl rfl rfl (l := [(kindR 6 (f.names.getD ((lst (ownersG f.rel s)).getD k.toNat 0).toNat tx0) v91 (namesOf f.names (readersG f.rel s ((lst (ownersG f.rel s)).getD k.toNat 0))))]) rfl (by decide) (by decide) rfl) <| fun b102 w100 hH101 => A1 16 <| AO.app rfl gnone rfl hH101 (j := 2) rfl (fun _ => (sQ (sP (sQ (sQ (sP (sP (sA sR)))))))) (Hp.slFlat nodeL_len hH101 (i := 0) (l := [(kindR 6 (f.names.getD ((lst (ownersG f.rel s)).getD k.toNat 0).toNat tx0) v91 (namesOf f.names (readersG f.rel s ((lst (ownersG f.rel s)).getD k.toNat 0))))]) rfl (by simp [maxLen])) rfl rfl underlying94 rfl rfl (size := 5) (bytes := 80) rfl rfl rfl (by decide) (node1_one (kindR_v hv97)) (by simp only [List.length_cons, List.length_nil]; omega) (by simp only [maxLen, List.length_cons, List.length_nil]; omega) <| fun v105 w103 hH104 => ?_
       simp only [z2] at hH104
       refine AQ 17 rfl (hH104.sub (sQ (sP (sQ (sQ (sP (sP (sA sR)))))))) (fA underlying96 4 rfl sizeOf94 e6_38) <| A1 18 <| AO.set rfl gnone hH104 (j := 3) rfl (sQ (sP (sQ (sQ (sP (sP (sA sR))))))) (run_st rfl rfl (v := v105) rfl (row_cells (hH104.get (i := 2) rfl)).1 (row_cells (hH104.get (i := 2) rfl)).2 (hH104.blk (i := 3) rfl) (by show 4 < 5; decide)) <| fun w108 hH109 => ?_
       simp only [z2] at hH109
       refine AD <| CW.region <| V (run_add e47_38 rfl (by omega)) <| mI rfl <| RL.nil <| ?_
       refine ⟨(k + 1, v105, (gs ++ [(kindR 6 (f.names.getD ((lst (ownersG f.rel s)).getD k.toNat 0).toNat tx0) v91 (namesOf f.names (readersG f.rel s ((lst (ownersG f.rel s)).getD k.toNat 0))))]), (Z94 ++ Z)), ?_, fr38.u4.u4.u4.u4.u4.u4, (Hp.conv (hH109.sub (sQ sR)) (by simp [nodeL, kidsR, kindR, NodeR.kind, NodeR.place, NodeR.text, NodeR.nv, NodeR.kv]; done)), (congrArg I (by rfl)), ?_, ?_, ?_, ?_, ?_⟩
       ·((try dsimp only); omega)
       ·omega
       ·omega
       ·rw [rules_next (f := f.fc) h0 ‹k < _›, List.map_append, hm]; exact congrArg (_ ++ [·]) (rule_nd (f := f.fc) (w := s) (o := ((lst (ownersG f.rel s)).getD k.toNat 0)))
       ·exact (hF.mono (Le.zz fun y hy => List.mem_append_right _ hy)).snoc (NodeV.mono (Le.zz fun y hy => List.mem_append_left _ hy) (kindR_v hv97))
       ·simp only [List.length_append, List.length_singleton]; omega
      ·refine AO.new rfl gnone rfl hH96 (sP (sQ (sQ (sP (sP (sA sR)))))) (f := fun b => .slice (some ⟨b, 0, none⟩) 1 1) (run_mkRecs nodeL_len underlying94 rfl rfl rfl (l := [(kindR 6 (f.names.getD ((lst (ownersG f.rel s)).getD k.toNat 0).toNat tx0) v91 (namesOf f.names (readersG f.rel s ((lst (ownersG f.rel s)).getD k.toNat 0))))]) rfl (by decide) (by decide) rfl) <| fun b112 w110 hH111 => A1 1 <| AO.read rfl gnone rfl hH111 (sQ (sP (sQ (sQ (sP (sP (sA sR))))))) (run_ld underlying94 rfl rfl (hH111.cell (i := 3) rfl rfl)) <| A1 16 <| AO.app rfl gnone rfl hH111 (j := 2) rfl (fun _ => (sQ (sP (sQ (sQ (sP (sP (sA sR)))))))) (Hp.slFlat nodeL_len hH111 (i := 0) (l := [(kindR 6 (f.names.getD ((lst (ownersG f.rel s)).getD k.toNat 0).toNat tx0) v91 (namesOf f.names (readersG f.rel s ((lst (ownersG f.rel s)).getD k.toNat 0))))]) rfl (by simp [maxLen])) rfl rfl underlying94 rfl rfl (size := 5) (bytes := 80) rfl rfl rfl (by decide) (node1_one (kindR_v hv97)) (by simp only [List.length_cons, List.length_nil]; omega) (by simp only [maxLen, List.length_cons, List.length_nil]; omega) <| fun v117 w115 hH116 => ?_
       simp only [z2] at hH116
       refine AQ 17 rfl (hH116.sub (sQ (sP (sQ (sQ (sP (sP (sA sR)))))))) (fA underlying96 4 rfl sizeOf94 e6_38) <| A1 18 <| AO.set rfl gnone hH116 (j := 3) rfl (sQ (sP (sQ (sQ (sP (sP (sA sR))))))) (run_st rfl rfl (v := v117) rfl (row_cells (hH116.get (i := 2) rfl)).1 (row_cells (hH116.get (i := 2) rfl)).2 (hH116.blk (i := 3) rfl) (by show 4 < 5; decide)) <| fun w120 hH121 => ?_
       simp only [z2] at hH121
       refine AD <| CW.region <| V (run_add e47_38 rfl (by omega)) <| mI rfl <| RL.nil <| ?_
       refine ⟨(k + 1, v117, (gs ++ [(kindR 6 (f.names.getD ((lst (ownersG f.rel s)).getD k.toNat 0).toNat tx0) v91 (namesOf f.names (readersG f.rel s ((lst (ownersG f.rel s)).getD k.toNat 0))))]), (Z94 ++ Z)), ?_, fr38.u4.u4.u4.u4.u4.u4, (Hp.conv (hH121.sub (sQ sR)) (by simp [nodeL, kidsR, kindR, NodeR.kind, NodeR.place, NodeR.text, NodeR.nv, NodeR.kv]; done)), (congrArg I (by rfl)), ?_, ?_, ?_, ?_, ?_⟩
       ·((try dsimp only); omega)
       ·omega
       ·omega
       ·rw [rules_next (f := f.fc) h0 ‹k < _›, List.map_append, hm]; exact congrArg (_ ++ [·]) (rule_nd (f := f.fc) (w := s) (o := ((lst (ownersG f.rel s)).getD k.toNat 0)))
       ·exact (hF.mono (Le.zz fun y hy => List.mem_append_right _ hy)).snoc (NodeV.mono (Le.zz fun y hy => List.mem_append_left _ hy) (kindR_v hv97))
       ·simp only [List.length_append, List.length_singleton]; omega
   ·refine CW.exit (id := 1) rfl <| SR <| ?_
    obtain ⟨Z122, hz123, hv124, -⟩ := (hH38.perm (((pC pR).trans pS).trans (pC pR))).frz (K)
    have hH125 : Hp _ w38 (_ :: _ :: _ :: _ :: (Z122 ++ Z)) := hz123.zin (L := [_, _, _, _]) (L' := Z)
    have hN126 : NodeV (Kz K (Z122 ++ Z)) ((kidsR (kindN f.fc) kv gs)) := kidsR_v (hv124.mono (Le.zz fun x hx => List.mem_append_left _ hx)) (hF.mono (Le.zz fun x hx => List.mem_append_right _ hx))
    refine V (run_ldA (cs := nodeL ((kidsR (kindN f.fc) kv gs))) underlying96 rfl rfl e6_38 (rangeAt_cells (hH125.blk (i := 1) rfl))) <| RL.set hH125 (i := 2) rfl (run_stW (c' := (nodeL ((kidsR (kindN f.fc) kv gs))).toArray) rfl e4_38 rfl (nodeL_one hN126) (hH125.blk (i := 2) rfl) rfl) <| fun w127 hH128 => ?_
    simp only [z2] at hH128
    refine RL.nil <| CW.ret <| outCg Tryz.results94 e4_38 hH128 (i := 2) rfl underlying96 rfl rfl ⟨(Z122 ++ Z), (hH128.sub (sQ (sQ (sQ (sQ sR))))), (kidsR (kindN f.fc) kv gs), rfl, ?_, hN126⟩
    exact nd_3 ‹_› (hm.trans (rules_all ‹_›))
  ·refine SR <| V (run_eql rfl rfl) <| aB rfl <| RL.nil <| CW.condP rfl (fun h130 => ?_) (fun h130 => ?_)
   ·refine SR <| V (fA underlying59 2 rfl sizeOf57 rfl) <| V (run_ldBR underlying57 rfl rfl rfl (hH14.blk (i := 3) rfl)) <| mU rfl <| RL.callP rfl hH14 (c_hasse_Point _ _  _ (hT.hp hH14)) (run_call2 call78 rfl rfl) <| fun w131 hH132 => ?_
    refine V (run_move (by conv => lhs; whnf)) ?_
    refine V (run_extract rfl (v := I _) rfl) <| V (run_extract rfl (v := B _) rfl) <| aI rfl <| aB rfl <| RL.nil <| CW.region <| V (fA underlying59 1 rfl sizeOf54 rfl) <| V (run_ld underlying54 rfl rfl (hH132.cell (i := 3) rfl rfl)) <| mI rfl <| V (run_indexAddrS ((hf.mono hK).names.sl.hp hH132) underlying54 sizeOf9 rfl rfl (by exact pt_in (f := f.fc) hR ‹f.kind = 4› hw)) <| V (run_ld underlying9 rfl rfl (((hf.mono hK).names.sl.hp hH132).cell _ _ (txL_at (by exact pt_in (f := f.fc) hR ‹f.kind = 4› hw)))) <| V (fA underlying96 2 rfl sizeOf9 rfl) <| RL.set hH132 (i := 1) rfl (run_st rfl rfl (v := .string _) rfl rfl rfl (hH132.blk (i := 1) rfl) (by show 2 < 5; decide)) <| fun w134 hH135 => ?_
    simp only [z2] at hH135
    refine RL.nil <| SR <| have hN136 : NodeV (Kz K []) ((kindR (kindN f.fc) (f.names.getD (pointV f.rel s).1.toNat tx0) (.slice none 0 0) [])) := kindR_v (SlV.nil _ _); V (run_ldA (cs := nodeL ((kindR (kindN f.fc) (f.names.getD (pointV f.rel s).1.toNat tx0) (.slice none 0 0) []))) underlying96 rfl rfl rfl (rangeAt_cells (hH135.blk (i := 1) rfl))) <| RL.set hH135 (i := 2) rfl (run_stW (c' := (nodeL ((kindR (kindN f.fc) (f.names.getD (pointV f.rel s).1.toNat tx0) (.slice none 0 0) []))).toArray) rfl rfl rfl (nodeL_one hN136) (hH135.blk (i := 2) rfl) rfl) <| fun w137 hH138 => ?_
    simp only [z2] at hH138
    refine RL.nil <| CW.ret <| outCg Tryz.results94 rfl hH138 (i := 2) rfl underlying96 rfl rfl ⟨[], (hH138.sub (sQ (sQ (sQ (sQ sR))))), (kindR (kindN f.fc) (f.names.getD (pointV f.rel s).1.toNat tx0) (.slice none 0 0) []), rfl, ?_, hN136⟩
    exact nd_4 ‹_›
   ·refine SR <| V (fA underlying59 1 rfl sizeOf54 rfl) <| V (run_ld underlying54 rfl rfl (hH14.cell (i := 3) rfl rfl)) <| V (run_lenSl ((hf.mono hK).names.sl.hp hH14) rfl underlying54 rfl) <| mU rfl <| RL.callP rfl hH14 (c_rung_Level _ _  _) (run_call2 call104 rfl rfl) <| fun w139 hH140 => ?_
    refine V (run_move (by conv => lhs; whnf)) ?_
    refine V (run_extract rfl (v := I _) rfl) <| V (run_extract rfl (v := B _) rfl) <| aI rfl <| aB rfl <| RL.nil <| CW.region <| V (fA underlying59 1 rfl sizeOf54 rfl) <| V (run_ld underlying54 rfl rfl (hH140.cell (i := 3) rfl rfl)) <| mI rfl <| V (run_indexAddrS ((hf.mono hK).names.sl.hp hH140) underlying54 sizeOf9 rfl rfl (by exact lv_in (f := f.fc) (kind_cases hR ‹_› ‹_› ‹_›) hw)) <| V (run_ld underlying9 rfl rfl (((hf.mono hK).names.sl.hp hH140).cell _ _ (txL_at (by exact lv_in (f := f.fc) (kind_cases hR ‹_› ‹_› ‹_›) hw)))) <| V (fA underlying96 2 rfl sizeOf9 rfl) <| RL.set hH140 (i := 1) rfl (run_st rfl rfl (v := .string _) rfl rfl rfl (hH140.blk (i := 1) rfl) (by show 2 < 5; decide)) <| fun w142 hH143 => ?_
    simp only [z2] at hH143
    refine RL.nil <| SR <| have hN144 : NodeV (Kz K []) ((kindR (kindN f.fc) (f.names.getD (level f.names.length s).1.toNat tx0) (.slice none 0 0) [])) := kindR_v (SlV.nil _ _); V (run_ldA (cs := nodeL ((kindR (kindN f.fc) (f.names.getD (level f.names.length s).1.toNat tx0) (.slice none 0 0) []))) underlying96 rfl rfl rfl (rangeAt_cells (hH143.blk (i := 1) rfl))) <| RL.set hH143 (i := 2) rfl (run_stW (c' := (nodeL ((kindR (kindN f.fc) (f.names.getD (level f.names.length s).1.toNat tx0) (.slice none 0 0) []))).toArray) rfl rfl rfl (nodeL_one hN144) (hH143.blk (i := 2) rfl) rfl) <| fun w145 hH146 => ?_
    simp only [z2] at hH146
    refine RL.nil <| CW.ret <| outCg Tryz.results94 rfl hH146 (i := 2) rfl underlying96 rfl rfl ⟨[], (hH146.sub (sQ (sQ (sQ (sQ sR))))), (kindR (kindN f.fc) (f.names.getD (level f.names.length s).1.toNat tx0) (.slice none 0 0) []), rfl, ?_, hN144⟩
    exact nd_1 ‹_› ‹_› ‹_›
theorem c_spell_Node (K : Vu) (s : Shp) (e : El) (w : World) (hK : Le K (Kw w)) (hs : ShpV K s) (hT : Tab w) : Calls Tryz.prog 65 #[.agg (shpC s), .agg (elC e)] w (PureF K (fun K' u => ∃ n : NodeR, u = .agg (nodeL n).toArray ∧ n.nd = nodeF s.sh e ∧ NodeV K' n) w) := by
 have hsl := sh_len s
 have hm := hs.facs.small
 unfold maxLen at hm
 refine enter Tryz.func65 rfl Tryz.ntmps65 rfl <| have hH := Hp.start w; SR <| RL.new rfl hH (f := fun b => (.pointer (some ⟨b, 0, none⟩))) (run_box (v := .agg _) rfl) <| fun b3 w1 hH2 => RL.new rfl hH2 (f := fun b => (.pointer (some ⟨b, 0, none⟩))) (run_box (v := .agg _) rfl) <| fun b6 w4 hH5 => RL.new rfl hH5 (f := fun b => (.pointer (some ⟨b, 0, none⟩))) (run_alloc Tryz.zeroValue96) <| fun b9 w7 hH8 => RL.nil <| CW.seq <| SR <| V (run_ldA (cs := [B _, _]) underlying42 rfl rfl rfl (rangeAt_cells (hH8.blk (i := 2) rfl))) <| V (run_ldEl underlying51 rfl rfl rfl (hH8.blk (i := 1) rfl)) <| RL.callP rfl hH8 (c_shape_Fits _ _  _ ((hs.mono hK).mono hH8.kw) (hT.hp hH8)) (run_call2 call24 rfl rfl) <| fun w10 hH11 => V (run_not rfl) <| RL.nil <| CW.cond rfl (fun h14 => ?_) (fun h14 => ?_)
 ·refine SR <| V (run_bld (vs := []) rfl built_node0) <| RL.set hH11 (i := 0) rfl (run_stW (c' := (nodeL node0).toArray) rfl rfl rfl (nodeL_one (node0_v (K := Kw w))) (hH11.blk (i := 0) rfl) rfl) <| fun w15 hH16 => ?_
  simp only [z2] at hH16
  refine RL.nil <| CW.ret <| outCg Tryz.results65 rfl hH16 (i := 0) rfl underlying96 rfl rfl ⟨[], (hH16.sub (sQ (sQ (sQ sR)))), node0, rfl, ?_, node0_v⟩
  rw [nodeF_no (nt ‹(!fitsS s.sh e) = true›)]; exact node0_nd
 ·refine CW.skip <| CW.seq <| SR <| V (fA underlying42 0 rfl sizeOf4 rfl) <| V (run_ld underlying4 rfl rfl (hH11.cell (i := 2) rfl (v := B _) rfl)) <| V (run_not rfl) <| RL.nil <| CW.cond rfl (fun h19 => ?_) (fun h19 => ?_)
  ·refine CW.seq <| have hfit := nf ‹(!fitsS s.sh e) = false›; have hfl := fit_len hfit; CW.regionS (by kernel_rfl) hH11 (sQ sR) <| fun w20 hH21 => have zh21 := hH21.sub (sQ sR); AQ 0 rfl zh21 (fA underlying42 1 rfl sizeOf40 rfl) <| AT 1 rfl zh21 (fun w hS => run_ld underlying40 rfl rfl (hS.cell (i := 1) rfl rfl)) <| AT 2 rfl zh21 (fun w hS => run_indexAddrS ((hs.mono hK).facs.sl.hp hS) underlying40 sizeOf59 rfl rfl (by omega)) <| AT 3 rfl zh21 (fun w hS => run_ldE (dv := fac0) facL_len ((hs.mono hK).facs.sl.hp hS) underlying59 rfl rfl rfl (by omega)) <| AQ 4 rfl zh21 (run_indexAddrA underlying51 sizeOf49 rfl rfl (by omega)) <| AT 5 rfl zh21 (fun w hS => run_ld underlying49 rfl rfl (hS.cell (i := 0) rfl (elC_at _ (by omega)))) <| A1 6 <| AO.callF rfl gnone rfl hH21 (sQ sR) (c_spell_constant K (s.facs.getD (0 : Int).toNat fac0) (e (0 : Int).toNat) (fitR hfit (k := 0) (by omega) (by omega)).1 (fitR hfit (k := 0) (by omega) (by omega)).2 _ (hK.trans hH21.kw) (hs.at (k := 0) (by omega) (by omega)) (hT.hp hH21)) (run_call2 call94 rfl rfl) <| fun v24 w25 Z27 hH26 hp28 => have hH29 : Hp _ w25 (_ :: _ :: _ :: Z27) := hH26.zin0 (L := [_, _, _]); ?_
   obtain ⟨n30, rfl, nd31, nv32⟩ := hp28
   refine A1 7 <| AO.set rfl gnone hH29 (j := 0) rfl (sQ (sP (sP (List.nil_sublist _)))) (run_stW (c' := (nodeL n30).toArray) rfl rfl rfl (nodeL_one nv32) (hH29.blk (i := 0) rfl) rfl) <| fun w35 hH36 => ?_
   simp only [z2] at hH36
   refine AD <| CW.ret <| outCg Tryz.results65 rfl hH36 (i := 0) rfl underlying96 rfl rfl ⟨Z27, (hH36.sub (sQ (sQ (sQ sR)))), n30, rfl, ?_, nv32⟩
   rw [nodeF_1 (nf ‹(!fitsS s.sh e) = false›) (nt ‹(!s.tuple) = true›)]; exact nd31
  ·refine CW.skip <| SR <| V (run_bld (vs := [(0, I 4)]) rfl (built_nodeK 4)) <| RL.new rfl hH11 (f := fun b => (.pointer (some ⟨b, 0, none⟩))) (run_alloc Tryz.zeroValue96) <| fun b39 w37 hH38 => RL.set hH38 (i := 0) rfl (run_stW (c' := (nodeL (kindR 4 tx0 (.slice none 0 0) [])).toArray) rfl rfl rfl (nodeL_one (kindR_v (SlV.nil (Kw w) _))) (hH38.blk (i := 0) rfl) rfl) <| fun w40 hH41 => ?_
   simp only [z2] at hH41
   have hH42 := hH41.nilRow 96 5
   refine RL.nil <| CW.seq <| SR <| V (fA underlying42 1 rfl sizeOf40 rfl) <| V (run_ld underlying40 rfl rfl (hH42.cell (i := 4) rfl rfl)) <| V (run_lenSl ((hs.mono hK).facs.sl.hp hH42) rfl underlying40 rfl) <| vm (v := I 0) rfl <| RL.nil <| CW.block <| have hfit := nf ‹(!fitsS s.sh e) = false›; have hfl := fit_len hfit; CW.loop (G := Int × Value × (List NodeR) × (List Ent)) (fun ⟨k, kv, gs, Z⟩ s' w' => (Fr (6 :: 7 :: (rg 27 16 [])) _ s') ∧ (Hp w w' (.row kv 96 5 (gs.length) (gs.flatMap nodeL) :: .blk b39 (.cells ((nodeL (kidsR 4 kv gs)).toArray) 96 (0, 0)) :: _ :: _ :: _ :: Z)) ∧ (s' 27 = I k) ∧ (0 ≤ k) ∧ (k ≤ s.facs.length) ∧ (gs.map NodeR.nd = constsTo s.sh e k) ∧ (NodesV (Kz K Z) gs) ∧ ((gs.length : Int) = k)) (fun ⟨k, kv, gs, Z⟩ => (s.facs.length - k).toNat) ((0, (.slice none 0 0 : Value), [], [])) ⟨Fr.refl _ _, hH42, rfl, (by omega), (by omega), rfl, NodesV.nil _, rfl⟩ <| ?_
   rintro ⟨k, kv, gs, Z⟩ sg43 w43 ⟨fr43, hH43, e27_43, h0, hk, hm, hF, hb⟩
   have e3_43 := fr43.pp 3 rfl rfl
   have e4_43 := fr43.pp 4 rfl rfl
   have e5_43 := fr43.pp 5 rfl rfl
   have e25_43 := (fr43 25 rfl).trans (by conv => lhs; whnf)
   have e26_43 := fr43.ii 26 rfl rfl
   refine SR <| V (run_lss e27_43 e26_43) <| RL.nil <| CW.seq <| CW.condP rfl (fun h45 => ?_) (fun h45 => ?_)
   ·refine CW.skip <| CW.seq <| CW.block <| SR <| vm e27_43 <| V (run_indexAddrS ((hs.mono hK).facs.sl.hp hH43) underlying40 sizeOf59 e25_43 e27_43 (by omega)) <| V (run_ldE (dv := fac0) facL_len ((hs.mono hK).facs.sl.hp hH43) underlying59 rfl rfl rfl (by omega)) <| RL.new rfl hH43 (f := fun b => (.pointer (some ⟨b, 0, none⟩))) (run_alloc zero_fac) <| fun b48 w46 hH47 => aI rfl <| RL.set hH47 (i := 0) rfl (run_stFac ((hs.mono hK).at (by omega) (by omega)) rfl rfl rfl (hH47.blk (i := 0) rfl)) <| fun w49 hH50 => ?_
    simp only [z2] at hH50
    refine RL.nil <| CW.regionS (by kernel_rfl) hH50 (sP (sQ (sQ sR))) <| fun w51 hH52 => have zh52 := hH52.sub (sP (sQ (sQ sR))); AQ 0 rfl zh52 (fA underlying96 4 rfl sizeOf94 e5_43) <| AT 2 rfl zh52 (fun w hS => run_ldFac underlying59 rfl rfl rfl (hS.blk (i := 0) rfl)) <| AQ 3 rfl zh52 (mV (I _) rfl) <| AQ 4 rfl zh52 (run_indexAddrA underlying51 sizeOf49 e3_43 rfl (by omega)) <| AT 5 rfl zh52 (fun w hS => run_ld underlying49 rfl rfl (hS.cell (i := 2) rfl (elC_at _ (by omega)))) <| AN.two 1 6 (by kernel_rfl) ?_ ?_
    ·refine AO.read rfl gnone rfl hH52 (sP (sQ (sQ sR))) (run_ld underlying94 rfl rfl (hH52.cell (i := 2) rfl rfl)) <| A1 6 <| AO.callF rfl gnone rfl hH52 (sP (sQ (sQ sR))) (c_spell_constant K (s.facs.getD k.toNat fac0) (e k.toNat) (fitR hfit h0 (by omega)).1 (fitR hfit h0 (by omega)).2 _ (hK.trans hH52.kw) (hs.at h0 (by omega)) (hT.hp hH52)) (run_call2 call94 rfl rfl) <| fun v57 w58 Z60 hH59 hp61 => have hH62 : Hp _ w58 (_ :: _ :: _ :: _ :: _ :: _ :: (Z60 ++ Z)) := hH59.zin (L := [_, _, _, _, _, _]) (L' := Z); ?_
     obtain ⟨n63, rfl, nd64, nv65⟩ := hp61
     refine A1 7 <| AO.new rfl gnone rfl hH62 (sP (sQ (sQ (sP (sP (sP (sA sR))))))) (f := fun b => .slice (some ⟨b, 0, none⟩) 1 1) (run_mkRecs nodeL_len underlying94 rfl rfl rfl (l := [n63]) rfl (by decide) (by decide) rfl) <| fun b68 w66 hH67 => A1 8 <| AO.app rfl gnone rfl hH67 (j := 2) rfl (fun _ => (sQ (sP (sQ (sQ (sP (sP (sP (sA sR))))))))) (Hp.slFlat nodeL_len hH67 (i := 0) (l := [n63]) rfl (by simp [maxLen])) rfl rfl underlying94 rfl rfl (size := 5) (bytes := 80) rfl rfl rfl (by decide) (node1_one nv65) (by simp only [List.length_cons, List.length_nil]; omega) (by simp only [maxLen, List.length_cons, List.length_nil]; omega) <| fun v71 w69 hH70 => ?_
     simp only [z2] at hH70
     refine AQ 9 rfl (hH70.sub (sQ (sP (sQ (sQ (sP (sP (sP (sA sR))))))))) (fA underlying96 4 rfl sizeOf94 e5_43) <| A1 10 <| AO.set rfl gnone hH70 (j := 3) rfl (sQ (sP (sQ (sQ (sP (sP (sP (sA sR)))))))) (run_st rfl rfl (v := v71) rfl (row_cells (hH70.get (i := 2) rfl)).1 (row_cells (hH70.get (i := 2) rfl)).2 (hH70.blk (i := 3) rfl) (by show 4 < 5; decide)) <| fun w74 hH75 => ?_
     simp only [z2] at hH75
     refine AD <| CW.region <| V (run_add e27_43 rfl (by omega)) <| mI rfl <| RL.nil <| ?_
     refine ⟨(k + 1, v71, (gs ++ [n63]), (Z60 ++ Z)), ?_, fr43.u4.u4.u4.u4.u1.u1, (Hp.conv (hH75.sub (sQ (sQ sR))) (by simp [nodeL, kidsR, kindR, NodeR.kind, NodeR.place, NodeR.text, NodeR.nv, NodeR.kv]; done)), (congrArg I (by rfl)), ?_, ?_, ?_, ?_, ?_⟩
     ·((try dsimp only); omega)
     ·omega
     ·omega
     ·rw [consts_nextR h0, List.map_append, hm]; exact congrArg (_ ++ [·]) nd64
     ·exact (hF.mono (Le.zz fun y hy => List.mem_append_right _ hy)).snoc (NodeV.mono (Le.zz fun y hy => List.mem_append_left _ hy) nv65)
     ·simp only [List.length_append, List.length_singleton]; omega
    ·refine AO.callF rfl gnone rfl hH52 (sP (sQ (sQ sR))) (c_spell_constant K (s.facs.getD k.toNat fac0) (e k.toNat) (fitR hfit h0 (by omega)).1 (fitR hfit h0 (by omega)).2 _ (hK.trans hH52.kw) (hs.at h0 (by omega)) (hT.hp hH52)) (run_call2 call94 rfl rfl) <| fun v78 w79 Z81 hH80 hp82 => have hH83 : Hp _ w79 (_ :: _ :: _ :: _ :: _ :: _ :: (Z81 ++ Z)) := hH80.zin (L := [_, _, _, _, _, _]) (L' := Z); ?_
     obtain ⟨n84, rfl, nd85, nv86⟩ := hp82
     refine AN.two 1 7 (by kernel_rfl) ?_ ?_
     ·refine AO.read rfl gnone rfl hH83 (sP (sQ (sQ (sP (sP (sP (sA sR))))))) (run_ld underlying94 rfl rfl (hH83.cell (i := 2) rfl rfl)) <| A1 7 <| AO.new rfl gnone rfl hH83 (sP (sQ (sQ (sP (sP (sP (sA sR))))))) (f := fun b => .slice (some ⟨b, 0, none⟩) 1 1) (run_mkRecs nodeL_len underlying94 rfl rfl rfl (l := [n84]) rfl (by decide) (by decide) rfl) <| fun b91 w89 hH90 => A1 8 <| AO.app rfl gnone rfl hH90 (j := 2) rfl (fun _ => (sQ (sP (sQ (sQ (sP (sP (sP (sA sR))))))))) (Hp.slFlat nodeL_len hH90 (i := 0) (l := [n84]) rfl (by simp [maxLen])) rfl rfl underlying94 rfl rfl (size := 5) (bytes := 80) rfl rfl rfl (by decide) (node1_one nv86) (by simp only [List.length_cons, List.length_nil]; omega) (by simp only [maxLen, List.length_cons, List.length_nil]; omega) <| fun v94 w92 hH93 => ?_
      simp only [z2] at hH93
      refine AQ 9 rfl (hH93.sub (sQ (sP (sQ (sQ (sP (sP (sP (sA sR))))))))) (fA underlying96 4 rfl sizeOf94 e5_43) <| A1 10 <| AO.set rfl gnone hH93 (j := 3) rfl (sQ (sP (sQ (sQ (sP (sP (sP (sA sR)))))))) (run_st rfl rfl (v := v94) rfl (row_cells (hH93.get (i := 2) rfl)).1 (row_cells (hH93.get (i := 2) rfl)).2 (hH93.blk (i := 3) rfl) (by show 4 < 5; decide)) <| fun w97 hH98 => ?_
      simp only [z2] at hH98
      refine AD <| CW.region <| V (run_add e27_43 rfl (by omega)) <| mI rfl <| RL.nil <| ?_
      refine ⟨(k + 1, v94, (gs ++ [n84]), (Z81 ++ Z)), ?_, fr43.u4.u4.u4.u4.u1.u1, (Hp.conv (hH98.sub (sQ (sQ sR))) (by simp [nodeL, kidsR, kindR, NodeR.kind, NodeR.place, NodeR.text, NodeR.nv, NodeR.kv]; done)), (congrArg I (by rfl)), ?_, ?_, ?_, ?_, ?_⟩
      ·((try dsimp only); omega)
      ·omega
      ·omega
      ·rw [consts_nextR h0, List.map_append, hm]; exact congrArg (_ ++ [·]) nd85
      ·exact (hF.mono (Le.zz fun y hy => List.mem_append_right _ hy)).snoc (NodeV.mono (Le.zz fun y hy => List.mem_append_left _ hy) nv86)
      ·simp only [List.length_append, List.length_singleton]; omega
     ·refine AO.new rfl gnone rfl hH83 (sP (sQ (sQ (sP (sP (sP (sA sR))))))) (f := fun b => .slice (some ⟨b, 0, none⟩) 1 1) (run_mkRecs nodeL_len underlying94 rfl rfl rfl (l := [n84]) rfl (by decide) (by decide) rfl) <| fun b101 w99 hH100 => A1 1 <| AO.read rfl gnone rfl hH100 (sQ (sP (sQ (sQ (sP (sP (sP (sA sR)))))))) (run_ld underlying94 rfl rfl (hH100.cell (i := 3) rfl rfl)) <| A1 8 <| AO.app rfl gnone rfl hH100 (j := 2) rfl (fun _ => (sQ (sP (sQ (sQ (sP (sP (sP (sA sR))))))))) (Hp.slFlat nodeL_len hH100 (i := 0) (l := [n84]) rfl (by simp [maxLen])) rfl rfl underlying94 rfl rfl (size := 5) (bytes := 80) rfl rfl rfl (by decide) (node1_one nv86) (by simp only [List.length_cons, List.length_nil]; omega) (by simp only [maxLen, List.length_cons, List.length_nil]; omega) <| fun v106 w104 hH105 => ?_
      simp only [z2] at hH105
      refine AQ 9 rfl (hH105.sub (sQ (sP (sQ (sQ (sP (sP (sP (sA sR))))))))) (fA underlying96 4 rfl sizeOf94 e5_43) <| A1 10 <| AO.set rfl gnone hH105 (j := 3) rfl (sQ (sP (sQ (sQ (sP (sP (sP (sA sR)))))))) (run_st rfl rfl (v := v106) rfl (row_cells (hH105.get (i := 2) rfl)).1 (row_cells (hH105.get (i := 2) rfl)).2 (hH105.blk (i := 3) rfl) (by show 4 < 5; decide)) <| fun w109 hH110 => ?_
      simp only [z2] at hH110
      refine AD <| CW.region <| V (run_add e27_43 rfl (by omega)) <| mI rfl <| RL.nil <| ?_
      refine ⟨(k + 1, v106, (gs ++ [n84]), (Z81 ++ Z)), ?_, fr43.u4.u4.u4.u4.u1.u1, (Hp.conv (hH110.sub (sQ (sQ sR))) (by simp [nodeL, kidsR, kindR, NodeR.kind, NodeR.place, NodeR.text, NodeR.nv, NodeR.kv]; done)), (congrArg I (by rfl)), ?_, ?_, ?_, ?_, ?_⟩
      ·((try dsimp only); omega)
      ·omega
      ·omega
      ·rw [consts_nextR h0, List.map_append, hm]; exact congrArg (_ ++ [·]) nd85
      ·exact (hF.mono (Le.zz fun y hy => List.mem_append_right _ hy)).snoc (NodeV.mono (Le.zz fun y hy => List.mem_append_left _ hy) nv86)
      ·simp only [List.length_append, List.length_singleton]; omega
   ·refine CW.exit (id := 0) rfl <| SR <| ?_
    obtain ⟨Z111, hz112, hv113, -⟩ := hH43.frz (K)
    have hH114 : Hp _ w43 (_ :: _ :: _ :: _ :: (Z111 ++ Z)) := hz112.zin (L := [_, _, _, _]) (L' := Z)
    have hN115 : NodeV (Kz K (Z111 ++ Z)) ((kidsR 4 kv gs)) := kidsR_v (hv113.mono (Le.zz fun x hx => List.mem_append_left _ hx)) (hF.mono (Le.zz fun x hx => List.mem_append_right _ hx))
    refine V (run_ldA (cs := nodeL ((kidsR 4 kv gs))) underlying96 rfl rfl e5_43 (rangeAt_cells (hH114.blk (i := 0) rfl))) <| RL.set hH114 (i := 1) rfl (run_stW (c' := (nodeL ((kidsR 4 kv gs))).toArray) rfl e4_43 rfl (nodeL_one hN115) (hH114.blk (i := 1) rfl) rfl) <| fun w116 hH117 => ?_
    simp only [z2] at hH117
    refine RL.nil <| CW.ret <| outCg Tryz.results65 e4_43 hH117 (i := 1) rfl underlying96 rfl rfl ⟨(Z111 ++ Z), (hH117.sub (sQ (sQ (sQ (sQ sR))))), (kidsR 4 kv gs), rfl, ?_, hN115⟩
    exact nodeF_t hfit (nf ‹(!s.tuple) = false›) (by omega) hm
theorem c_term_commas (n : Int) (f : FuncId) (cs : List Value) (T : Int → Tx) (hn : 0 ≤ n ∧ n ≤ 9223372036854775807) (hsz : ((upto n).map fun i => (T i).size + 1).sum ≤ 999999996) (w : World) (hf : ∀ args w, (callFunc f args).run Tryz.prog w = .ok (.enter f args) w) (go : ∀ i w', Below w.heap.size w w' → 0 ≤ i → i < n → Calls Tryz.prog f (I i :: cs).toArray w' (Pure (S (T i)) w')) : Calls Tryz.prog 113 #[I n, .func (.func f) #[] cs.toArray] w (Pure (S (commasTo T n)) w) := by
 refine enter Tryz.func113 rfl Tryz.ntmps113 rfl <| have hH := Hp.start w; SR <| va (v := .string ⟨#[]⟩) rfl <| RL.nil <| SR <| va (v := .slice none 0 0) rfl <| have hH1 := hH.nilRow 5 1; RL.nil <| CW.seq <| SR <| mI rfl <| vm (v := I 0) rfl <| RL.nil <| CW.block <| CW.loop (G := Int × Tx × Value) (fun ⟨k, m, v5⟩ s' w' => (Fr (5 :: 6 :: (rg 8 14 [])) _ s') ∧ (Hp w w' (.row v5 5 1 (m.size) (byL m) :: _)) ∧ (s' 5 = v5) ∧ (s' 8 = I k) ∧ (0 ≤ k) ∧ (k ≤ n) ∧ (m = commasTo T k)) (fun ⟨k, m, v5⟩ => (n - k).toNat) ((0, tx0, (.slice none 0 0 : Value))) ⟨Fr.refl _ _, hH1, rfl, rfl, (by omega), (by omega), rfl⟩ <| ?_
 rintro ⟨k, m, v5⟩ sg2 w2 ⟨fr2, hH2, e5_2, e8_2, h0, hk, hm⟩
 have e1_2 := fr2.vv 1 (a := .func _ _ _) rfl rfl
 have e7_2 := fr2.ii 7 rfl rfl
 subst hm
 refine SR <| V (run_lss e8_2 e7_2) <| RL.nil <| CW.seq <| CW.condP rfl (fun h4 => ?_) (fun h4 => ?_)
 ·refine CW.skip <| CW.seq <| CW.block <| SR <| vm e8_2 <| aI rfl <| RL.nil <| CW.seq <| SR <| mI rfl <| V (run_gtr rfl rfl) <| RL.nil <| CW.condP rfl (fun h6 => ?_) (fun h6 => ?_)
  ·refine CW.region <| vm e5_2 <| RL.new rfl hH2 (f := fun b => (.slice (some ⟨b, 0, none⟩) 1 1)) (run_mkL underlying98 rfl rfl (sz := 1) (vs := [.int .u8 44]) rfl rfl (by decide) (by decide) rfl rfl) <| fun b9 w7 hH8 => ?_
   (try simp only [clX] at hH8)
   refine RL.app rfl hH8 (i := 1) rfl (hH8.slBlk (i := 0) (n := 1) (sz := 1) rfl rfl (by decide)) rfl rfl underlying98 rfl rfl (size := 1) (bytes := 1) rfl rfl rfl (by decide) (by simp [Value.oneCell']) (by have := T_sz T h0 ‹k < n›; omega) (by have := T_sz T h0 ‹k < n›; simp only [maxLen]; omega) <| fun v10 w11 hH12 => ?_
   simp only [z2] at hH12
   refine V (run_assign (by conv => lhs; whnf)) ?_
   refine RL.nil <| CW.region <| ?_
   refine V (run_move (by conv => lhs; whnf)) ?_
   refine vm e1_2 <| mI rfl <| RL.callP rfl hH12 (go _ _ hH12.below (by omega) (by omega)) (run_callC1 hf (cs := cs) rfl rfl) <| fun w13 hH14 => RL.appS rfl hH14 (i := 1) rfl rfl rfl underlying98 underlying9 rfl rfl rfl rfl (by have := T_sz T h0 ‹k < n›; (try simp only [List.length_cons, List.length_nil]); omega) <| fun v15 w16 hH17 => ?_
   simp only [z2] at hH17
   refine V (run_assign (by conv => lhs; whnf)) ?_
   refine RL.nil <| CW.region <| V (run_add e8_2 rfl (by omega)) <| mI rfl <| RL.nil <| ?_
   refine ⟨(k + 1, commasTo T (k + 1), v15), ?_, fr2.u4.u4.u4.u4.u1, (Hp.conv (hH17.sub (sQ sR)) (by rw [← commas_2 ‹0 < k›, tx_size_app, tx_size_app, byL_app, byL_app]; rfl)), rfl, (congrArg I (by rfl)), ?_, ?_, ?_⟩
   ·((try dsimp only); omega)
   ·omega
   ·omega
   ·rfl
  ·refine CW.skip <| CW.region <| vm e5_2 <| vm e1_2 <| mI rfl <| RL.callP rfl hH2 (go _ _ hH2.below (by omega) (by omega)) (run_callC1 hf (cs := cs) rfl rfl) <| fun w18 hH19 => RL.appS rfl hH19 (i := 0) rfl rfl rfl underlying98 underlying9 rfl rfl rfl rfl (by have := T_sz T h0 ‹k < n›; (try simp only [List.length_cons, List.length_nil]); omega) <| fun v20 w21 hH22 => ?_
   simp only [z2] at hH22
   refine V (run_assign (by conv => lhs; whnf)) ?_
   refine RL.nil <| CW.region <| V (run_add e8_2 rfl (by omega)) <| mI rfl <| RL.nil <| ?_
   refine ⟨(k + 1, commasTo T (k + 1), v20), ?_, fr2.u4.u4.u4.u1, (Hp.conv hH22 (by rw [← commas_1 (show k = 0 by omega), tx_size_app, byL_app])), rfl, (congrArg I (by rfl)), ?_, ?_, ?_⟩
   ·((try dsimp only); omega)
   ·omega
   ·omega
   ·rfl
 ·refine CW.exit (id := 0) rfl <| SR <| vm e5_2 <| V (run_convBS (s := (commasTo T k)) (hH2.sl (i := 0) rfl) underlying98 underlying5 underlying9 rfl) <| va (v := .string _) rfl <| RL.nil <| CW.ret <| outP1 Tryz.results113 ?_ hH2.below
  exact congrArg S (by rw [show n = k by omega])
theorem c_term_names_1 (b : Nat) (n : NodeR) (i : Int) (hi : 0 ≤ i ∧ i < n.names.length) (w : World) (hn : NodeV (Kw w) n) (hb : w.heap[b]? = some (.cells (nodeL n).toArray 96 (0, 0))) : Calls Tryz.prog 114 #[I i, .pointer (some ⟨b, 0, none⟩)] w (Pure (S (n.names.getD i.toNat wd0).text) w) := by
 refine enter Tryz.func114 rfl Tryz.ntmps114 rfl <| have hH := Hp.start w; SR <| va (v := .string ⟨#[]⟩) rfl <| RL.nil <| SR <| V (fA underlying96 3 rfl sizeOf93 rfl) <| V (run_ldV (hn.names_.sl.hp hH) underlying93 rfl rfl (hH.extCell hb rfl)) <| mI rfl <| V (run_indexAddrS (hn.names_.sl.hp hH) underlying93 sizeOf128 rfl rfl (by omega)) <| V (fA underlying128 0 rfl sizeOf9 rfl) <| V (run_ldE1 (dv := wd0) (off := 0) wdL_len (hn.names_.sl.hp hH) underlying9 rfl rfl (by omega) rfl) <| va (v := .string _) rfl <| RL.nil <| CW.ret <| outP1 Tryz.results114 ?_ hH.below
 rfl
theorem c_term_kids_1 (b : Nat) (n : NodeR) (i : Int) (hi : 0 ≤ i ∧ i < n.kids.length) (htx : TxN n.nd) (w : World) (hn : NodeV (Kw w) n) (hb : w.heap[b]? = some (.cells (nodeL n).toArray 96 (0, 0))) (ih : ∀ x ∈ n.kids, TxN x.nd → ∀ w, NodeV (Kw w) x → Calls Tryz.prog 64 #[.agg (nodeL x).toArray] w (Pure (S (textF x.nd)) w)) : Calls Tryz.prog 115 #[I i, .pointer (some ⟨b, 0, none⟩)] w (Pure (S (textF (n.kids.getD i.toNat node0).nd)) w) := by
 refine enter Tryz.func115 rfl Tryz.ntmps115 rfl <| have hH := Hp.start w; SR <| va (v := .string ⟨#[]⟩) rfl <| RL.nil <| SR <| V (fA underlying96 4 rfl sizeOf94 rfl) <| V (run_ldV (hn.kids_.sl.hp hH) underlying94 rfl rfl (hH.extCell hb rfl)) <| mI rfl <| V (run_indexAddrS (hn.kids_.sl.hp hH) underlying94 sizeOf96 rfl rfl (by omega)) <| V (run_ldE (dv := node0) nodeL_len (hn.kids_.sl.hp hH) underlying96 rfl rfl rfl (by omega)) <| RL.callP rfl hH (ih _ (List.mem_of_getElem? (getD_at (d := node0) hi.1 hi.2)) (htx.kidR (List.mem_of_getElem? (getD_at (d := node0) hi.1 hi.2))) _ (NodeV.mono hH.kw (hn.at hi.1 hi.2))) (run_call1 call64 rfl) <| fun w1 hH2 => va (v := .string _) rfl <| RL.nil <| CW.ret <| outP1 Tryz.results115 ?_ hH2.below
 rfl
theorem c_term_names (n : NodeR) (htx : TxN n.nd) (w : World) (hn : NodeV (Kw w) n) : Calls Tryz.prog 90 #[.agg (nodeL n).toArray] w (Pure (S (namesT n.nd.names)) w) := by
 have hm1 := hn.kids_.small
 have hm2 := hn.names_.small
 unfold maxLen at hm1 hm2
 refine enter Tryz.func90 rfl Tryz.ntmps90 rfl <| have hH := Hp.start w; SR <| RL.new rfl hH (f := fun b => (.pointer (some ⟨b, 0, none⟩))) (run_box (v := .agg _) rfl) <| fun b3 w1 hH2 => va (v := .string ⟨#[]⟩) rfl <| RL.nil <| SR <| V (fA underlying96 3 rfl sizeOf93 rfl) <| V (run_ldV (hn.names_.sl.hp hH2) underlying93 rfl rfl (hH2.cell (i := 0) rfl rfl)) <| V (run_lenSl (hn.names_.sl.hp hH2) rfl underlying93 rfl) <| ?_
 refine V (run_mkF1 (by conv => lhs; whnf)) ?_
 refine RL.callP rfl hH2 (c_term_commas _ 114 [.pointer (some ⟨b3, 0, none⟩)] (fun i => (n.names.getD i.toNat wd0).text) (by omega) (names_bd htx) _ call114 (fun i w h h0 h1 => c_term_names_1 b3 n i ⟨h0, h1⟩ w (NodeV.mono (hH2.kw.trans (Kw.below h)) hn) (keep h (hH2.blk (i := 0) rfl)))) (run_call2 call113 rfl rfl) <| fun w4 hH5 => va (v := .string _) rfl <| RL.nil <| CW.ret <| outP1 Tryz.results90 ?_ hH5.below
 exact congrArg S (names_commas n)
theorem c_term_kids (n : NodeR) (htx : TxN n.nd) (w : World) (hn : NodeV (Kw w) n) (ih : ∀ x ∈ n.kids, TxN x.nd → ∀ w, NodeV (Kw w) x → Calls Tryz.prog 64 #[.agg (nodeL x).toArray] w (Pure (S (textF x.nd)) w)) : Calls Tryz.prog 91 #[.agg (nodeL n).toArray] w (Pure (S (commasF (n.nd.kids.map textF))) w) := by
 have hm1 := hn.kids_.small
 have hm2 := hn.names_.small
 unfold maxLen at hm1 hm2
 refine enter Tryz.func91 rfl Tryz.ntmps91 rfl <| have hH := Hp.start w; SR <| RL.new rfl hH (f := fun b => (.pointer (some ⟨b, 0, none⟩))) (run_box (v := .agg _) rfl) <| fun b3 w1 hH2 => va (v := .string ⟨#[]⟩) rfl <| RL.nil <| SR <| V (fA underlying96 4 rfl sizeOf94 rfl) <| V (run_ldV (hn.kids_.sl.hp hH2) underlying94 rfl rfl (hH2.cell (i := 0) rfl rfl)) <| V (run_lenSl (hn.kids_.sl.hp hH2) rfl underlying94 rfl) <| ?_
 refine V (run_mkF1 (by conv => lhs; whnf)) ?_
 refine RL.callP rfl hH2 (c_term_commas _ 115 [.pointer (some ⟨b3, 0, none⟩)] (fun i => textF (n.kids.getD i.toNat node0).nd) (by omega) (kids_bd htx) _ call115 (fun i w h h0 h1 => c_term_kids_1 b3 n i ⟨h0, h1⟩ htx w (NodeV.mono (hH2.kw.trans (Kw.below h)) hn) (keep h (hH2.blk (i := 0) rfl)) ih)) (run_call2 call113 rfl rfl) <| fun w4 hH5 => va (v := .string _) rfl <| RL.nil <| CW.ret <| outP1 Tryz.results91 ?_ hH5.below
 exact congrArg S (kids_commas n)
theorem s_text (n : NodeR) (htx : TxN n.nd) (w : World) (hn : NodeV (Kw w) n) (ih : ∀ x ∈ n.kids, TxN x.nd → ∀ w, NodeV (Kw w) x → Calls Tryz.prog 64 #[.agg (nodeL x).toArray] w (Pure (S (textF x.nd)) w)) : Calls Tryz.prog 64 #[.agg (nodeL n).toArray] w (Pure (S (textF n.nd)) w) := by
 have hm1 := hn.kids_.small
 have hm2 := hn.names_.small
 unfold maxLen at hm1 hm2
 have hkd := htx.kind
 rw [nd_kind] at hkd
 refine enter Tryz.func64 rfl Tryz.ntmps64 rfl <| have hH := Hp.start w; SR <| RL.new rfl hH (f := fun b => (.pointer (some ⟨b, 0, none⟩))) (run_box (v := .agg _) rfl) <| fun b3 w1 hH2 => va (v := .string ⟨#[]⟩) rfl <| RL.nil <| CW.seq <| SR <| V (fA underlying96 0 rfl sizeOf3 rfl) <| V (run_ld underlying3 rfl rfl (hH2.cell (i := 0) rfl (v := I _) rfl)) <| RL.nil <| CW.block <| CW.seq <| SR <| V (run_eql rfl rfl) <| aB rfl <| RL.nil <| CW.condP rfl (fun h5 => ?_) (fun h5 => ?_)
 ·refine CW.skip <| CW.condT (bT h5) <| SR <| V (fA underlying96 2 rfl sizeOf9 rfl) <| V (run_ld underlying9 rfl rfl (hH2.cell (i := 0) rfl (v := .string _) rfl)) <| va (v := .string _) rfl <| RL.nil <| CW.ret <| outP1 Tryz.results64 ?_ hH2.below
  (refine congrArg S ?_; ((rw [text_eq, nd_kind, if_pos (.inl ‹n.kind = 1›), nd_text]; done)))
 ·refine CW.region <| V (run_eql rfl rfl) <| aB rfl <| RL.nil <| CW.condP rfl (fun h7 => ?_) (fun h7 => ?_)
  ·refine SR <| V (fA underlying96 2 rfl sizeOf9 rfl) <| V (run_ld underlying9 rfl rfl (hH2.cell (i := 0) rfl (v := .string _) rfl)) <| va (v := .string _) rfl <| RL.nil <| CW.ret <| outP1 Tryz.results64 ?_ hH2.below
   (refine congrArg S ?_; ((rw [text_eq, nd_kind, if_pos (.inr ‹n.kind = 2›), nd_text]; done)))
  ·refine SR <| V (run_eql rfl rfl) <| aB rfl <| RL.nil <| CW.condP rfl (fun h9 => ?_) (fun h9 => ?_)
   ·refine SR <| V (run_ldA (cs := nodeL _) underlying96 rfl rfl rfl (rangeAt_cells (hH2.blk (i := 0) rfl))) <| RL.callP rfl hH2 (c_term_names n htx _ (NodeV.mono hH2.kw hn)) (run_call1 call90 rfl) <| fun w10 hH11 => V (run_addS rfl rfl (by have ha := htx.nmT; have hb := htx.kdT; have hc := htx.txT; rw [nd_text] at hc; (try simp only [tx_size_app]); (try simp only [tsz1, tsz2]); omega)) <| V (run_addS rfl rfl (by have ha := htx.nmT; have hb := htx.kdT; have hc := htx.txT; rw [nd_text] at hc; (try simp only [tx_size_app]); (try simp only [tsz1, tsz2]); omega)) <| va (v := .string _) rfl <| RL.nil <| CW.ret <| outP1 Tryz.results64 ?_ hH11.below
    (refine congrArg S ?_; ((rw [text_eq, nd_kind, if_neg (by omega), if_pos ‹n.kind = 3›]; rfl)))
   ·refine SR <| V (run_eql rfl rfl) <| aB rfl <| RL.nil <| CW.condP rfl (fun h13 => ?_) (fun h13 => ?_)
    ·refine SR <| V (run_ldA (cs := nodeL _) underlying96 rfl rfl rfl (rangeAt_cells (hH2.blk (i := 0) rfl))) <| RL.callP rfl hH2 (c_term_kids n htx _ (NodeV.mono hH2.kw hn) ih) (run_call1 call91 rfl) <| fun w14 hH15 => V (run_addS rfl rfl (by have ha := htx.nmT; have hb := htx.kdT; have hc := htx.txT; rw [nd_text] at hc; (try simp only [tx_size_app]); (try simp only [tsz1, tsz2]); omega)) <| V (run_addS rfl rfl (by have ha := htx.nmT; have hb := htx.kdT; have hc := htx.txT; rw [nd_text] at hc; (try simp only [tx_size_app]); (try simp only [tsz1, tsz2]); omega)) <| va (v := .string _) rfl <| RL.nil <| CW.ret <| outP1 Tryz.results64 ?_ hH15.below
     (refine congrArg S ?_; ((rw [text_eq, nd_kind, if_neg (by omega), if_neg (by omega), if_pos ‹n.kind = 4›]; rfl)))
    ·refine SR <| V (run_eql rfl rfl) <| aB rfl <| RL.nil <| CW.condP rfl (fun h17 => ?_) (fun h17 => ?_)
     ·refine SR <| V (run_ldA (cs := nodeL _) underlying96 rfl rfl rfl (rangeAt_cells (hH2.blk (i := 0) rfl))) <| RL.callP rfl hH2 (c_term_kids n htx _ (NodeV.mono hH2.kw hn) ih) (run_call1 call91 rfl) <| fun w18 hH19 => V (run_addS rfl rfl (by have ha := htx.nmT; have hb := htx.kdT; have hc := htx.txT; rw [nd_text] at hc; (try simp only [tx_size_app]); (try simp only [tsz1, tsz2]); omega)) <| V (run_addS rfl rfl (by have ha := htx.nmT; have hb := htx.kdT; have hc := htx.txT; rw [nd_text] at hc; (try simp only [tx_size_app]); (try simp only [tsz1, tsz2]); omega)) <| va (v := .string _) rfl <| RL.nil <| CW.ret <| outP1 Tryz.results64 ?_ hH19.below
      (refine congrArg S ?_; ((rw [text_eq, nd_kind, if_neg (by omega), if_neg (by omega), if_neg (by omega), if_pos ‹n.kind = 5›]; rfl)))
     ·refine SR <| V (run_eql rfl rfl) <| aB rfl <| RL.nil <| CW.condP rfl (fun h21 => ?_) (fun h21 => ?_)
      ·refine CW.seq <| CW.regionD (by kernel_rfl) hH2 <| fun w22 hH23 => have zh23 := hH23.sub sR; AQ 0 rfl zh23 (fA underlying96 2 rfl sizeOf9 rfl) <| AT 1 rfl zh23 (fun w hS => run_ld underlying9 rfl rfl (hS.cell (i := 0) rfl (v := .string _) rfl)) <| AQ 2 rfl zh23 (run_addS rfl rfl (by have ha := htx.nmT; have hb := htx.kdT; have hc := htx.txT; rw [nd_text] at hc; (try simp only [tx_size_app]); (try simp only [tsz1, tsz2]); omega)) <| AT 3 rfl zh23 (fun w hS => run_ldA (cs := nodeL _) underlying96 rfl rfl rfl (rangeAt_cells (hS.blk (i := 0) rfl))) <| A1 4 <| AO.callP rfl gnone rfl hH23 sR (c_term_names n htx _ (NodeV.mono hH23.kw hn)) (run_call1 call90 rfl) <| fun w24 hH25 => have zh25 := hH25.sub sR; AQ 5 rfl zh25 (run_addS rfl rfl (by have ha := htx.nmT; have hb := htx.kdT; have hc := htx.txT; rw [nd_text] at hc; (try simp only [tx_size_app]); (try simp only [tsz1, tsz2]); omega)) <| AQ 6 rfl zh25 (run_addS rfl rfl (by have ha := htx.nmT; have hb := htx.kdT; have hc := htx.txT; rw [nd_text] at hc; (try simp only [tx_size_app]); (try simp only [tsz1, tsz2]); omega)) <| AQ 7 rfl zh25 (aV (.string _) rfl) <| AD <| CW.ret <| outP1 Tryz.results64 ?_ hH25.below
       (refine congrArg S ?_; ((rw [text_eq, nd_kind, if_neg (by omega), if_neg (by omega), if_neg (by omega), if_neg (by omega), if_pos ‹n.kind = 6›, nd_text]; rfl)))
      ·refine SR <| V (run_eql rfl rfl) <| aB rfl <| RL.nil <| CW.condF (bF ((by omega))) <| SR <| V (run_eql rfl rfl) <| aB rfl <| RL.nil <| CW.condF (bF ((by omega))) <| SR <| V (run_eql rfl rfl) <| aB rfl <| RL.nil <| CW.condF (bF ((by omega))) <| SR <| V (run_eql rfl rfl) <| aB rfl <| RL.nil <| CW.condF (bF ((by omega))) <| SR <| V (run_eql rfl rfl) <| aB rfl <| RL.nil <| CW.condF (bF ((by omega))) <| CW.skip <| SR <| va (v := .string ⟨#[]⟩) rfl <| RL.nil <| CW.ret <| outP1 Tryz.results64 ?_ hH2.below
       (refine congrArg S ?_; (rw [text_eq, nd_kind, if_neg (by omega), if_neg (by omega), if_neg (by omega), if_neg (by omega), if_neg (by omega)]))
theorem c_term_Text (n : NodeR) : TxN n.nd → ∀ w, NodeV (Kw w) n → Calls Tryz.prog 64 #[.agg (nodeL n).toArray] w (Pure (S (textF n.nd)) w) := node_ind (C := fun n => TxN n.nd → ∀ w, NodeV (Kw w) n → Calls Tryz.prog 64 #[.agg (nodeL n).toArray] w (Pure (S (textF n.nd)) w)) (fun n ih htx w hn => s_text n htx w hn ih) n
theorem c_spell_Text (s : Shp) (e : El) (w : World) (hs : ShpV (Kw w) s) (hT : Tab w) : Calls Tryz.prog 33 #[.agg (shpC s), .agg (elC e)] w (Pure (S (spellF s.sh e)) w) := by
 refine enter Tryz.func33 rfl Tryz.ntmps33 rfl <| have hH := Hp.start w; SR <| RL.new rfl hH (f := fun b => (.pointer (some ⟨b, 0, none⟩))) (run_box (v := .agg _) rfl) <| fun b3 w1 hH2 => RL.new rfl hH2 (f := fun b => (.pointer (some ⟨b, 0, none⟩))) (run_box (v := .agg _) rfl) <| fun b6 w4 hH5 => va (v := .string ⟨#[]⟩) rfl <| RL.nil <| SR <| V (run_ldA (cs := [B _, _]) underlying42 rfl rfl rfl (rangeAt_cells (hH5.blk (i := 1) rfl))) <| V (run_ldEl underlying51 rfl rfl rfl (hH5.blk (i := 0) rfl)) <| RL.callF rfl hH5 (c_spell_Node (Kw w) s e _ hH5.kw hs (hT.hp hH5)) (run_call2 call65 rfl rfl) <| fun v9 w10 Z12 hH11 hp13 => have hH14 : Hp _ w10 (_ :: _ :: Z12) := hH11.zin0 (L := [_, _]); ?_
 obtain ⟨n15, rfl, nd16, nv17⟩ := hp13
 refine RL.callP rfl hH14 (c_term_Text n15 (by rw [nd16]; exact node_tx _ _) _ (NodeV.mono (hH14.kz (Le.refl _) (fun x hx => (mT (mT hx)))) nv17)) (run_call1 call64 rfl) <| fun w18 hH19 => V (run_addS rfl rfl (by rw [nd16]; have hq := (node_tx s.sh e).text; (try simp only [tx_size_app]); (try simp only [tsz1, tsz2, *]); omega)) <| va (v := .string _) rfl <| RL.nil <| CW.ret <| outP1 Tryz.results33 ?_ hH19.below
 (rw [nd16]; rfl)
theorem c_assign_place (v : Value) (l : List ValR) (f : Tx) (w : World) (hs : Sl w v 9 l.length (l.flatMap valL)) : Calls Tryz.prog 51 #[v, S f] w (Pure (I (vfind l f)) w) := by
 have hm := hs.small
 unfold maxLen at hm
 refine enter Tryz.func51 rfl Tryz.ntmps51 rfl <| have hH := Hp.start w; SR <| va (v := I 0) rfl <| RL.nil <| CW.seq <| SR <| ?_
 refine V (run_move (by conv => lhs; whnf)) ?_
 refine V (run_lenSl (hs.hp hH) rfl underlying48 rfl) <| vm (v := I 0) rfl <| RL.nil <| CW.block <| CW.loop (G := Int) (fun k s' w' => (Fr (4 :: 5 :: (rg 8 12 [])) _ s') ∧ (Hp w w' _) ∧ (s' 8 = I k) ∧ (0 ≤ k) ∧ (k ≤ l.length) ∧ (∀ j : Int, 0 ≤ j → j < k → decide ((l.getD j.toNat val0).name = f) = false)) (fun k => (l.length - k).toNat) (0) ⟨Fr.refl _ _, hH, rfl, (by omega), (by omega), fun j a b => absurd b (by omega)⟩ <| ?_
 rintro k sg1 w1 ⟨fr1, hH1, e8_1, h0, hk, hg⟩
 have e0_1 := (fr1 0 rfl).trans (by conv => lhs; whnf)
 have e1_1 := fr1.ss 1 rfl rfl
 have e7_1 := fr1.ii 7 rfl rfl
 refine SR <| V (run_lss e8_1 e7_1) <| RL.nil <| CW.seq <| CW.condP rfl (fun h3 => ?_) (fun h3 => ?_)
 ·refine CW.skip <| CW.seq <| CW.block <| SR <| vm e8_1 <| aI rfl <| RL.nil <| SR <| vm e0_1 <| mI rfl <| V (run_indexAddrS (hs.hp hH1) underlying48 sizeOf53 rfl rfl (by omega)) <| V (fA underlying53 0 rfl sizeOf9 rfl) <| V (run_ldE1 (dv := val0) (off := 0) valL_len (hs.hp hH1) underlying9 rfl rfl (by omega) rfl) <| vm e1_1 <| V (run_eqlS rfl rfl) <| RL.nil <| CW.condP rfl (fun h5 => ?_) (fun h5 => ?_)
  ·refine SR <| mI rfl <| aI rfl <| RL.nil <| CW.ret <| outP1 Tryz.results51 (congrArg I ?_) hH1.below
   exact (find_yes h0 ‹_› (decide_eq_true ‹_›) hg).symm
  ·refine CW.skip <| CW.region <| V (run_add e8_1 rfl (by omega)) <| mI rfl <| RL.nil <| ?_
   refine ⟨k + 1, ?_, fr1.u4.u4.u4, hH1, (congrArg I (by rfl)), ?_, ?_, ?_⟩
   ·((try dsimp only); omega)
   ·omega
   ·omega
   ·exact fun j a b => if e : j = k then e ▸ decide_eq_false ‹_› else hg j a (by omega)
 ·refine CW.exit (id := 0) rfl <| SR <| va (v := I (-1)) rfl <| RL.nil <| CW.ret <| outP1 Tryz.results51 (congrArg I ?_) hH1.below
  exact (find_no fun j a b => hg j a (by omega)).symm
theorem c_assign_Get (v : Value) (l : List ValR) (f : Tx) (w : World) (hs : Sl w v 9 l.length (l.flatMap valL)) : Calls Tryz.prog 69 #[v, S f] w (Pure (.tuple #[.agg (elC (getF l f).1), B (getF l f).2]) w) := by
 have hm := hs.small
 unfold maxLen at hm
 have hvi := @vfind_in l f
 refine enter Tryz.func69 rfl Tryz.ntmps69 rfl <| have hH := Hp.start w; SR <| RL.new rfl hH (f := fun b => (.pointer (some ⟨b, 0, none⟩))) (run_alloc zero_el) <| fun b3 w1 hH2 => va (v := B false) rfl <| RL.nil <| SR <| ?_
 refine V (run_move (by conv => lhs; whnf)) ?_
 refine vm (v := .string _) rfl <| RL.callP rfl hH2 (c_assign_place _ _ _  _ (hs.hp hH2)) (run_call2 call51 rfl rfl) <| fun w4 hH5 => aI rfl <| RL.nil <| CW.seq <| SR <| mI rfl <| V (run_lss rfl rfl) <| RL.nil <| CW.condP rfl (fun h7 => ?_) (fun h7 => ?_)
 ·refine SR <| V (run_bld (vs := []) rfl (built_el0)) <| RL.set hH5 (i := 0) rfl (run_stEl rfl rfl rfl (hH5.blk (i := 0) rfl)) <| fun w8 hH9 => ?_
  simp only [z2] at hH9
  refine va (v := B false) rfl <| RL.nil <| CW.ret <| outCT Tryz.results69 rfl rfl hH9 (i := 0) rfl underlying51 rfl (by rw [elC_size]; rfl) ⟨?_, hH9.below⟩
  exact get_tn ‹_›
 ·refine CW.skip <| SR <| ?_
  refine V (run_move (by conv => lhs; whnf)) ?_
  refine mI rfl <| V (run_indexAddrS (hs.hp hH5) underlying48 sizeOf53 rfl rfl (by (have := hvi ‹_›; omega))) <| V (fA underlying53 1 rfl sizeOf51 rfl) <| V (run_ldVE (hs.hp hH5) underlying51 rfl rfl rfl (by (have := hvi ‹_›; omega))) <| RL.set hH5 (i := 0) rfl (run_stEl rfl rfl rfl (hH5.blk (i := 0) rfl)) <| fun w10 hH11 => ?_
  simp only [z2] at hH11
  refine va (v := B true) rfl <| RL.nil <| CW.ret <| outCT Tryz.results69 rfl rfl hH11 (i := 0) rfl underlying51 rfl (by rw [elC_size]; rfl) ⟨?_, hH11.below⟩
  exact get_ty ‹_›
theorem c_name_Less (a b : Tx) (w : World) : Calls Tryz.prog 52 #[S a, S b] w (Pure (B (lessT a b)) w) := by
 refine enter Tryz.func52 rfl Tryz.ntmps52 rfl <| have hH := Hp.start w; SR <| va (v := B false) rfl <| RL.nil <| SR <| vm (v := .string _) rfl <| vm (v := .string _) rfl <| V (run_lssS rfl rfl) <| aB rfl <| RL.nil <| CW.ret <| outP1 Tryz.results52 (congrArg B ?_) hH.below
 rfl
theorem c_assign_ordered (v : Value) (l : List ValR) (w : World) (hs : Sl w v 9 l.length (l.flatMap valL)) : Calls Tryz.prog 25 #[v] w (Pure (B (orderedF l)) w) := by
 have hm := hs.small
 unfold maxLen at hm
 refine enter Tryz.func25 rfl Tryz.ntmps25 rfl <| have hH := Hp.start w; SR <| va (v := B false) rfl <| RL.nil <| CW.seq <| SR <| ?_
 refine V (run_move (by conv => lhs; whnf)) ?_
 refine V (run_lenSl (hs.hp hH) rfl underlying48 rfl) <| vm (v := I 0) rfl <| RL.nil <| CW.block <| CW.loop (G := Int) (fun k s' w' => (Fr (rg 2 3 (rg 7 26 [])) _ s') ∧ (Hp w w' _) ∧ (s' 7 = I k) ∧ (0 ≤ k) ∧ (k ≤ l.length) ∧ (∀ j : Int, 0 ≤ j → j < k → (nameR (l.getD j.toNat val0).name && (decide (j ≤ 0) || lessT (l.getD (j - 1).toNat val0).name (l.getD j.toNat val0).name)) = true)) (fun k => (l.length - k).toNat) (0) ⟨Fr.refl _ _, hH, rfl, (by omega), (by omega), fun j a b => absurd b (by omega)⟩ <| ?_
 rintro k sg1 w1 ⟨fr1, hH1, e7_1, h0, hk, hg⟩
 have e0_1 := (fr1 0 rfl).trans (by conv => lhs; whnf)
 have e5_1 := (fr1 5 rfl).trans (by conv => lhs; whnf)
 have e6_1 := fr1.ii 6 rfl rfl
 refine SR <| V (run_lss e7_1 e6_1) <| RL.nil <| CW.seq <| CW.condP rfl (fun h3 => ?_) (fun h3 => ?_)
 ·refine CW.skip <| CW.seq <| CW.block <| SR <| vm e7_1 <| V (run_indexAddrS (hs.hp hH1) underlying48 sizeOf53 e5_1 e7_1 (by omega)) <| V (run_ldE (dv := val0) valL_len (hs.hp hH1) underlying53 rfl rfl rfl (by omega)) <| RL.new rfl hH1 (f := fun b => (.pointer (some ⟨b, 0, none⟩))) (run_alloc zero_val) <| fun b6 w4 hH5 => aI rfl <| RL.set hH5 (i := 0) rfl (run_stW (c' := (valL _).toArray) rfl rfl rfl (valL_one _) (hH5.blk (i := 0) rfl) rfl) <| fun w7 hH8 => ?_
  simp only [z2] at hH8
  refine RL.nil <| CW.seq <| CW.regionD (by kernel_rfl) hH8 <| fun w9 hH10 => AQ 0 rfl (hH10.sub sR) (fA underlying53 0 rfl sizeOf9 rfl) <| AT 1 rfl (hH10.sub sR) (fun w hS => run_ld underlying9 rfl rfl (hS.cell (i := 0) rfl (v := .string _) rfl)) <| A1 2 <| AO.callP rfl gnone rfl hH10 sR (c_name_Right _  _) (run_call1 call55 rfl) <| fun w11 hH12 => have zh12 := hH12.sub sR; AQ 3 rfl zh12 (run_not rfl) <| AQ 4 rfl zh12 (mV (B _) rfl) <| AN.split (dj := 16) rfl (fun h15 => ?_) (fun h15 => ?_)
  ·refine AK 5 rfl rfl (bR (c := true) h15) (hH12.sub sR) <| AK 6 rfl rfl (bR (c := true) h15) (hH12.sub sR) <| AK 7 rfl rfl (bR (c := true) h15) (hH12.sub sR) <| AU 8 rfl rfl rfl (hH12.sub sR) <| AU 9 rfl rfl rfl (hH12.sub sR) <| AU 10 rfl rfl rfl (hH12.sub sR) <| AU 11 rfl rfl rfl (hH12.sub sR) <| AU 12 rfl rfl rfl (hH12.sub sR) <| AU 13 rfl rfl rfl (hH12.sub sR) <| AU 14 rfl rfl rfl (hH12.sub sR) <| AU 15 rfl rfl rfl (hH12.sub sR) <| AU 16 rfl rfl rfl (hH12.sub sR) <| AU 17 rfl rfl rfl (hH12.sub sR) <| AK 18 rfl rfl (bR (c := true) h15) (hH12.sub sR) <| AQ 19 rfl zh12 (run_pickT (bR (c := true) h15) (v := B true) rfl) <| AD <| CW.condT rfl <| SR <| va (v := B false) rfl <| RL.nil <| CW.ret <| outP1 Tryz.results25 (congrArg B ?_) hH12.below
   exact (ordered_no1 h0 ‹k < _› (nt ‹(!nameR _) = true›)).symm
  ·refine AG 5 rfl rfl (bR (c := false) h15) (hH12.sub sR) (fun w hS => mV (I _) rfl) <| AG 6 rfl rfl (bR (c := false) h15) (hH12.sub sR) (fun w hS => run_gtr rfl rfl) <| AG 7 rfl rfl (bR (c := false) h15) (hH12.sub sR) (fun w hS => mV (B _) rfl) <| AN.splitP (dj := 19) rfl (fun h17 => ?_) (fun h17 => ?_)
   ·refine AG 8 rfl rfl (bT h17) (hH12.sub sR) (fun w hS => run_move e0_1) <| AG 9 rfl rfl (bT h17) (hH12.sub sR) (fun w hS => mV (I _) rfl) <| AG 10 rfl rfl (bT h17) (hH12.sub sR) (fun w hS => run_sub rfl rfl (by omega)) <| AG 11 rfl rfl (bT h17) (hH12.sub sR) (fun w hS => run_indexAddrS (hs.hp hS) underlying48 sizeOf53 rfl rfl (by omega)) <| AG 12 rfl rfl (bT h17) (hH12.sub sR) (fun w hS => fA underlying53 0 rfl sizeOf9 rfl) <| AG 13 rfl rfl (bT h17) (hH12.sub sR) (fun w hS => run_ldE1 (dv := val0) (off := 0) valL_len (hs.hp hS) underlying9 rfl rfl (by omega) rfl) <| AG 14 rfl rfl (bT h17) (hH12.sub sR) (fun w hS => fA underlying53 0 rfl sizeOf9 rfl) <| AG 15 rfl rfl (bT h17) (hH12.sub sR) (fun w hS => run_ld underlying9 rfl rfl (hS.cell (i := 0) rfl (v := .string _) rfl)) <| A1 16 <| AO.callP rfl (gsome rfl (bT h17)) rfl hH12 sR (c_name_Less _ _  _) (run_call2 call52 rfl rfl) <| fun w18 hH19 => AG 17 rfl rfl (bT h17) (hH19.sub sR) (fun w hS => run_not rfl) <| AG 18 rfl rfl (bR (c := false) h15) (hH19.sub sR) (fun w hS => run_pickT (bT h17) (v := B _) rfl) <| have zh19 := hH19.sub sR; AQ 19 rfl zh19 (run_pickF (bR (c := false) h15) (v := B _) rfl) <| AD <| CW.cond rfl (fun h22 => ?_) (fun h22 => ?_)
    ·refine SR <| va (v := B false) rfl <| RL.nil <| CW.ret <| outP1 Tryz.results25 (congrArg B ?_) hH19.below
     exact (ordered_no2 h0 ‹k < _› ‹0 < k› (nt ‹(!lessT _ _) = true›)).symm
    ·refine CW.skip <| CW.region <| V (run_add e7_1 rfl (by omega)) <| mI rfl <| RL.nil <| ?_
     refine ⟨k + 1, ?_, fr1.u4.u4.u4.u4.u4.u4.u4, (hH19.sub (sQ sR)), (congrArg I (by rfl)), ?_, ?_, ?_⟩
     ·((try dsimp only); omega)
     ·omega
     ·omega
     ·exact fun j a b => if e : j = k then e ▸ (by exact ord_y2 (nf ‹(!nameR _) = false›) (nf ‹(!lessT _ _) = false›)) else hg j a (by omega)
   ·refine AK 8 rfl rfl (bF h17) (hH12.sub sR) <| AK 9 rfl rfl (bF h17) (hH12.sub sR) <| AK 10 rfl rfl (bF h17) (hH12.sub sR) <| AK 11 rfl rfl (bF h17) (hH12.sub sR) <| AK 12 rfl rfl (bF h17) (hH12.sub sR) <| AK 13 rfl rfl (bF h17) (hH12.sub sR) <| AK 14 rfl rfl (bF h17) (hH12.sub sR) <| AK 15 rfl rfl (bF h17) (hH12.sub sR) <| AK 16 rfl rfl (bF h17) (hH12.sub sR) <| AK 17 rfl rfl (bF h17) (hH12.sub sR) <| AG 18 rfl rfl (bR (c := false) h15) (hH12.sub sR) (fun w hS => run_pickF (bF h17) (v := B false) rfl) <| AQ 19 rfl zh12 (run_pickF (bR (c := false) h15) (v := B _) rfl) <| AD <| CW.condF rfl <| CW.skip <| CW.region <| V (run_add e7_1 rfl (by omega)) <| mI rfl <| RL.nil <| ?_
    refine ⟨k + 1, ?_, fr1.u4.u4.u4.u4.u4.u4.u4, (hH12.sub (sQ sR)), (congrArg I (by rfl)), ?_, ?_, ?_⟩
    ·((try dsimp only); omega)
    ·omega
    ·omega
    ·exact fun j a b => if e : j = k then e ▸ (by exact ord_y1 (nf ‹_›) ‹¬ 0 < k›) else hg j a (by omega)
 ·refine CW.exit (id := 0) rfl <| SR <| va (v := B true) rfl <| RL.nil <| CW.ret <| outP1 Tryz.results25 (congrArg B ?_) hH1.below
  exact (ordered_yes ‹¬ k < _› hg).symm
theorem c_assign_fits (s : Shp) (v : Value) (l : List ValR) (w : World) (hs : Sl w v 9 l.length (l.flatMap valL)) (hsh : ShpV (Kw w) s) (hT : Tab w) : Calls Tryz.prog 26 #[.agg (shpC s), v] w (Pure (B (fitsF s.sh l)) w) := by
 have hm := hs.small
 unfold maxLen at hm
 refine enter Tryz.func26 rfl Tryz.ntmps26 rfl <| have hH := Hp.start w; SR <| RL.new rfl hH (f := fun b => (.pointer (some ⟨b, 0, none⟩))) (run_box (v := .agg _) rfl) <| fun b3 w1 hH2 => va (v := B false) rfl <| RL.nil <| CW.seq <| SR <| ?_
 refine V (run_move (by conv => lhs; whnf)) ?_
 refine V (run_lenSl (hs.hp hH2) rfl underlying48 rfl) <| vm (v := I 0) rfl <| RL.nil <| CW.block <| CW.loop (G := Int) (fun k s' w' => (Fr (4 :: (6 :: (rg 9 10 []))) _ s') ∧ (Hp w w' _) ∧ (s' 9 = I k) ∧ (0 ≤ k) ∧ (k ≤ l.length) ∧ (∀ j : Int, 0 ≤ j → j < k → fitsS s.sh (l.getD j.toNat val0).el = true)) (fun k => (l.length - k).toNat) (0) ⟨Fr.refl _ _, hH2, rfl, (by omega), (by omega), fun j a b => absurd b (by omega)⟩ <| ?_
 rintro k sg4 w4 ⟨fr4, hH4, e9_4, h0, hk, hg⟩
 have e2_4 := fr4.pp 2 rfl rfl
 have e7_4 := (fr4 7 rfl).trans (by conv => lhs; whnf)
 have e8_4 := fr4.ii 8 rfl rfl
 refine SR <| V (run_lss e9_4 e8_4) <| RL.nil <| CW.seq <| CW.condP rfl (fun h6 => ?_) (fun h6 => ?_)
 ·refine CW.skip <| CW.seq <| CW.block <| SR <| V (run_indexAddrS (hs.hp hH4) underlying48 sizeOf53 e7_4 e9_4 (by omega)) <| V (run_ldE (dv := val0) valL_len (hs.hp hH4) underlying53 rfl rfl rfl (by omega)) <| RL.new rfl hH4 (f := fun b => (.pointer (some ⟨b, 0, none⟩))) (run_alloc zero_val) <| fun b9 w7 hH8 => RL.set hH8 (i := 0) rfl (run_stW (c' := (valL _).toArray) rfl rfl rfl (valL_one _) (hH8.blk (i := 0) rfl) rfl) <| fun w10 hH11 => ?_
  simp only [z2] at hH11
  refine RL.nil <| SR <| V (run_ldA (cs := [B _, _]) underlying42 rfl rfl e2_4 (rangeAt_cells (hH11.blk (i := 1) rfl))) <| V (fA underlying53 1 rfl sizeOf51 rfl) <| V (run_ldVB underlying51 rfl rfl rfl (hH11.blk (i := 0) rfl)) <| RL.callP rfl hH11 (c_shape_Fits _ _  _ (hsh.mono hH11.kw) (hT.hp hH11)) (run_call2 call24 rfl rfl) <| fun w12 hH13 => V (run_not rfl) <| RL.nil <| CW.cond rfl (fun h16 => ?_) (fun h16 => ?_)
  ·refine SR <| va (v := B false) rfl <| RL.nil <| CW.ret <| outP1 Tryz.results26 (congrArg B ?_) hH13.below
   exact (fits_no h0 ‹k < _› (nt ‹_›)).symm
  ·refine CW.skip <| CW.region <| V (run_add e9_4 rfl (by omega)) <| mI rfl <| RL.nil <| ?_
   refine ⟨k + 1, ?_, fr4.u4.u4.u1.u1.u1, (hH13.sub (sQ sR)), (congrArg I (by rfl)), ?_, ?_, ?_⟩
   ·((try dsimp only); omega)
   ·omega
   ·omega
   ·exact fun j a b => if e : j = k then e ▸ nf ‹_› else hg j a (by omega)
 ·refine CW.exit (id := 0) rfl <| SR <| va (v := B true) rfl <| RL.nil <| CW.ret <| outP1 Tryz.results26 (congrArg B ?_) hH4.below
  exact (fits_all ‹¬ k < _› hg).symm
theorem c_assign_at_api_Elem (v : Value) (l : List El) (i : Int) (h0 : 0 ≤ i) (w : World) (hs : Sl w v 8 l.length (l.flatMap elL)) : Calls Tryz.prog 38 #[v, I i] w (Pure (.agg (elC (l.getD i.toNat el0))) w) := by
 have hm := hs.small
 unfold maxLen at hm
 refine enter Tryz.func38 rfl Tryz.ntmps38 rfl <| have hH := Hp.start w; SR <| RL.new rfl hH (f := fun b => (.pointer (some ⟨b, 0, none⟩))) (run_alloc zero_el) <| fun b3 w1 hH2 => RL.nil <| SR <| RL.new rfl hH2 (f := fun b => (.pointer (some ⟨b, 0, none⟩))) (run_alloc zero_el) <| fun b6 w4 hH5 => RL.nil <| CW.seq <| SR <| mI rfl <| V (run_lss rfl rfl) <| mB rfl <| RL.splitP (dj := 8) rfl (fun h8 => ?_) (fun h8 => ?_)
 ·refine gF rfl (bT h8) <| gF rfl (bT h8) <| gF rfl (bT h8) <| gF rfl (bT h8) <| V (run_pickT (bT h8) (v := B true) rfl) <| RL.nil <| CW.condT rfl <| SR <| V (run_ldEl underlying51 rfl rfl rfl (hH5.blk (i := 0) rfl)) <| RL.set hH5 (i := 1) rfl (run_stEl rfl rfl rfl (hH5.blk (i := 1) rfl)) <| fun w9 hH10 => ?_
  simp only [z2] at hH10
  refine RL.nil <| CW.ret <| outCg Tryz.results38 rfl hH10 (i := 1) rfl underlying51 rfl (by rw [elC_size]; rfl) ⟨?_, hH10.below⟩
  (rw [getD_out (by omega)]; done)
 ·refine gT rfl (bF h8) <| mI rfl <| gT rfl (bF h8) <| ?_
  refine V (run_move (by conv => lhs; whnf)) ?_
  refine gT rfl (bF h8) <| V (run_lenSl (hs.hp hH5) rfl underlying26 rfl) <| gT rfl (bF h8) <| V (run_geq rfl rfl) <| V (run_pickF (bF h8) (v := B _) rfl) <| RL.nil <| CW.condP rfl (fun h12 => ?_) (fun h12 => ?_)
  ·refine SR <| V (run_ldEl underlying51 rfl rfl rfl (hH5.blk (i := 0) rfl)) <| RL.set hH5 (i := 1) rfl (run_stEl rfl rfl rfl (hH5.blk (i := 1) rfl)) <| fun w13 hH14 => ?_
   simp only [z2] at hH14
   refine RL.nil <| CW.ret <| outCg Tryz.results38 rfl hH14 (i := 1) rfl underlying51 rfl (by rw [elC_size]; rfl) ⟨?_, hH14.below⟩
   (rw [getD_out (by omega)]; done)
  ·refine CW.skip <| SR <| ?_
   refine V (run_move (by conv => lhs; whnf)) ?_
   refine mI rfl <| V (run_indexAddrS (hs.hp hH5) underlying26 sizeOf51 rfl rfl (by omega)) <| V (run_ldElS (hs.hp hH5) underlying51 rfl rfl rfl (by omega)) <| RL.set hH5 (i := 1) rfl (run_stEl rfl rfl rfl (hH5.blk (i := 1) rfl)) <| fun w15 hH16 => ?_
   simp only [z2] at hH16
   refine RL.nil <| CW.ret <| outCg Tryz.results38 rfl hH16 (i := 1) rfl underlying51 rfl (by rw [elC_size]; rfl) ⟨?_, hH16.below⟩
   rfl
theorem c_assign_at_api_Value (v : Value) (l : List VrR) (i : Int) (h0 : 0 ≤ i) (w : World) (hs : Sl w v 1 l.length (rowsC l)) : Calls Tryz.prog 40 #[v, I i] w (Pure ((l.getD i.toNat vr0).v) w) := by
 have hm := hs.small
 unfold maxLen at hm
 refine enter Tryz.func40 rfl Tryz.ntmps40 rfl <| have hH := Hp.start w; SR <| va (v := .slice none 0 0) rfl <| RL.nil <| SR <| va (v := .slice none 0 0) rfl <| RL.nil <| CW.seq <| SR <| mI rfl <| V (run_lss rfl rfl) <| mB rfl <| RL.splitP (dj := 8) rfl (fun h2 => ?_) (fun h2 => ?_)
 ·refine gF rfl (bT h2) <| gF rfl (bT h2) <| gF rfl (bT h2) <| gF rfl (bT h2) <| V (run_pickT (bT h2) (v := B true) rfl) <| RL.nil <| CW.condT rfl <| SR <| ?_
  refine V (run_move (by conv => lhs; whnf)) ?_
  refine V (run_assign (by conv => lhs; whnf)) ?_
  refine RL.nil <| CW.ret <| outP1 Tryz.results40 ?_ hH.below
  (rw [getD_out (by omega)]; rfl)
 ·refine gT rfl (bF h2) <| mI rfl <| gT rfl (bF h2) <| ?_
  refine V (run_move (by conv => lhs; whnf)) ?_
  refine gT rfl (bF h2) <| V (run_lenSl (hs.hp hH) rfl underlying27 rfl) <| gT rfl (bF h2) <| V (run_geq rfl rfl) <| V (run_pickF (bF h2) (v := B _) rfl) <| RL.nil <| CW.condP rfl (fun h4 => ?_) (fun h4 => ?_)
  ·refine SR ?_
   refine V (run_move (by conv => lhs; whnf)) ?_
   refine V (run_assign (by conv => lhs; whnf)) ?_
   refine RL.nil <| CW.ret <| outP1 Tryz.results40 ?_ hH.below
   (rw [getD_out (by omega)]; rfl)
  ·refine CW.skip <| SR <| ?_
   refine V (run_move (by conv => lhs; whnf)) ?_
   refine mI rfl <| V (run_indexAddrS (hs.hp hH) underlying27 sizeOf48 rfl rfl (by omega)) <| V (run_ld underlying48 rfl rfl ((hs.hp hH).cell _ _ (rowsC_at (by omega)))) <| ?_
   refine V (run_assign (by conv => lhs; whnf)) ?_
   refine RL.nil <| CW.ret <| outP1 Tryz.results40 ?_ hH.below
   rfl
theorem c_assign_at_api_Lat (s : Scp) (i : Int) (w : World) (hs : ScpV (Kw w) s) : Calls Tryz.prog 31 #[s.lv, I i] w (Pure (.agg (latL (latAt s.lats i)).toArray) w) := by
 have hm1 := hs.lats.sl.small
 have hm2 := hs.vars.sl.small
 unfold maxLen at hm1 hm2
 refine enter Tryz.func31 rfl Tryz.ntmps31 rfl <| have hH := Hp.start w; SR <| RL.new rfl hH (f := fun b => (.pointer (some ⟨b, 0, none⟩))) (run_alloc zero_lat) <| fun b3 w1 hH2 => RL.nil <| SR <| RL.new rfl hH2 (f := fun b => (.pointer (some ⟨b, 0, none⟩))) (run_alloc zero_lat) <| fun b6 w4 hH5 => RL.nil <| CW.seq <| SR <| mI rfl <| V (run_lss rfl rfl) <| mB rfl <| RL.splitP (dj := 8) rfl (fun h8 => ?_) (fun h8 => ?_)
 ·refine gF rfl (bT h8) <| gF rfl (bT h8) <| gF rfl (bT h8) <| gF rfl (bT h8) <| V (run_pickT (bT h8) (v := B true) rfl) <| RL.nil <| CW.condT rfl <| SR <| V (run_ldA (cs := latL _) underlying44 rfl rfl rfl (rangeAt_cells (hH5.blk (i := 0) rfl))) <| RL.set hH5 (i := 1) rfl (run_stW (c' := (latL _).toArray) rfl rfl rfl (latL_one (lat0_v (Kw w))) (hH5.blk (i := 1) rfl) rfl) <| fun w9 hH10 => ?_
  simp only [z2] at hH10
  refine RL.nil <| CW.ret <| outCg Tryz.results31 rfl hH10 (i := 1) rfl underlying44 rfl rfl ⟨?_, hH10.below⟩
  (unfold latAt; rw [if_neg (by omega)])
 ·refine gT rfl (bF h8) <| mI rfl <| gT rfl (bF h8) <| ?_
  refine V (run_move (by conv => lhs; whnf)) ?_
  refine gT rfl (bF h8) <| V (run_lenSl (hs.lats.sl.hp hH5) rfl underlying22 rfl) <| gT rfl (bF h8) <| V (run_geq rfl rfl) <| V (run_pickF (bF h8) (v := B _) rfl) <| RL.nil <| CW.condP rfl (fun h12 => ?_) (fun h12 => ?_)
  ·refine SR <| V (run_ldA (cs := latL _) underlying44 rfl rfl rfl (rangeAt_cells (hH5.blk (i := 0) rfl))) <| RL.set hH5 (i := 1) rfl (run_stW (c' := (latL _).toArray) rfl rfl rfl (latL_one (lat0_v (Kw w))) (hH5.blk (i := 1) rfl) rfl) <| fun w13 hH14 => ?_
   simp only [z2] at hH14
   refine RL.nil <| CW.ret <| outCg Tryz.results31 rfl hH14 (i := 1) rfl underlying44 rfl rfl ⟨?_, hH14.below⟩
   (unfold latAt; rw [if_neg (by omega)])
  ·refine CW.skip <| SR <| ?_
   refine V (run_move (by conv => lhs; whnf)) ?_
   refine mI rfl <| V (run_indexAddrS (hs.lats.sl.hp hH5) underlying22 sizeOf44 rfl rfl (by omega)) <| V (run_ldE (dv := lat0) latL_len (hs.lats.sl.hp hH5) underlying44 rfl rfl rfl (by omega)) <| RL.set hH5 (i := 1) rfl (run_stW (c' := (latL _).toArray) rfl rfl rfl (latL_one (hs.at (by omega) (by omega))) (hH5.blk (i := 1) rfl) rfl) <| fun w15 hH16 => ?_
   simp only [z2] at hH16
   refine RL.nil <| CW.ret <| outCg Tryz.results31 rfl hH16 (i := 1) rfl underlying44 rfl rfl ⟨?_, hH16.below⟩
   (unfold latAt; rw [if_pos (by omega)])
theorem c_assign_below (v u : Value) (l m : List ValR) (w : World) (hs : Sl w v 9 l.length (l.flatMap valL)) (ht : Sl w u 9 m.length (m.flatMap valL)) : Calls Tryz.prog 39 #[v, u] w (Pure (B (belowL l m)) w) := by
 have hm := hs.small
 unfold maxLen at hm
 have hm2 := ht.small
 unfold maxLen at hm2
 refine enter Tryz.func39 rfl Tryz.ntmps39 rfl <| have hH := Hp.start w; SR <| va (v := B false) rfl <| RL.nil <| CW.seq <| SR <| ?_
 refine V (run_move (by conv => lhs; whnf)) ?_
 refine V (run_lenSl (hs.hp hH) rfl underlying48 rfl) <| vm (v := I 0) rfl <| RL.nil <| CW.block <| CW.loop (G := Int) (fun k s' w' => (Fr (4 :: (rg 6 3 (rg 11 21 []))) _ s') ∧ (Hp w w' _) ∧ (s' 11 = I k) ∧ (0 ≤ k) ∧ (k ≤ l.length) ∧ (∀ j : Int, 0 ≤ j → j < k → ((getF m (l.getD j.toNat val0).name).2 && leqE (l.getD j.toNat val0).el (getF m (l.getD j.toNat val0).name).1) = true)) (fun k => (l.length - k).toNat) (0) ⟨Fr.refl _ _, hH, rfl, (by omega), (by omega), fun j a b => absurd b (by omega)⟩ <| ?_
 rintro k sg1 w1 ⟨fr1, hH1, e11_1, h0, hk, hg⟩
 have e1_1 := (fr1 1 rfl).trans (by conv => lhs; whnf)
 have e9_1 := (fr1 9 rfl).trans (by conv => lhs; whnf)
 have e10_1 := fr1.ii 10 rfl rfl
 refine SR <| V (run_lss e11_1 e10_1) <| RL.nil <| CW.seq <| CW.condP rfl (fun h3 => ?_) (fun h3 => ?_)
 ·refine CW.skip <| CW.seq <| CW.block <| SR <| V (run_indexAddrS (hs.hp hH1) underlying48 sizeOf53 e9_1 e11_1 (by omega)) <| V (run_ldE (dv := val0) valL_len (hs.hp hH1) underlying53 rfl rfl rfl (by omega)) <| RL.new rfl hH1 (f := fun b => (.pointer (some ⟨b, 0, none⟩))) (run_alloc zero_val) <| fun b6 w4 hH5 => RL.set hH5 (i := 0) rfl (run_stW (c' := (valL _).toArray) rfl rfl rfl (valL_one _) (hH5.blk (i := 0) rfl) rfl) <| fun w7 hH8 => ?_
  simp only [z2] at hH8
  refine RL.nil <| SR <| vm e1_1 <| V (fA underlying53 0 rfl sizeOf9 rfl) <| V (run_ld underlying9 rfl rfl (hH8.cell (i := 0) rfl (v := .string _) rfl)) <| RL.callP rfl hH8 (c_assign_Get _ _ _  _ (ht.hp hH8)) (run_call2 call69 rfl rfl) <| fun w9 hH10 => ?_
  refine V (run_move (by conv => lhs; whnf)) ?_
  refine V (run_extract rfl (v := .agg _) rfl) <| V (run_extract rfl (v := B _) rfl) <| RL.new rfl hH10 (f := fun b => (.pointer (some ⟨b, 0, none⟩))) (run_alloc zero_el) <| fun b14 w12 hH13 => RL.set hH13 (i := 0) rfl (run_stEl rfl rfl rfl (hH13.blk (i := 0) rfl)) <| fun w15 hH16 => ?_
  simp only [z2] at hH16
  refine aB rfl <| RL.nil <| SR <| mB rfl <| V (run_not rfl) <| mB rfl <| RL.split (dj := 24) rfl (fun h18 => ?_) (fun h18 => ?_)
  ·refine gF rfl (bR (c := true) h18) <| gF rfl (bR (c := true) h18) <| gF rfl (bR (c := true) h18) <| gF rfl (bR (c := true) h18) <| gF rfl (bR (c := true) h18) <| V (run_pickT (bR (c := true) h18) (v := B true) rfl) <| RL.nil <| CW.condT rfl <| SR <| va (v := B false) rfl <| RL.nil <| CW.ret <| outP1 Tryz.results39 (congrArg B ?_) hH16.below
   exact (below_no1 h0 ‹k < _› (nt ‹(!(getF _ _).2) = true›)).symm
  ·refine gT rfl (bR (c := false) h18) <| V (fA underlying53 1 rfl sizeOf51 rfl) <| gT rfl (bR (c := false) h18) <| V (run_ldVB underlying51 rfl rfl rfl (hH16.blk (i := 1) rfl)) <| gT rfl (bR (c := false) h18) <| V (run_ldEl underlying51 rfl rfl rfl (hH16.blk (i := 0) rfl)) <| gT rfl (bR (c := false) h18) <| RL.callP rfl hH16 (c_shape_Leq _ _  _) (run_call2 call37 rfl rfl) <| fun w19 hH20 => gT rfl (bR (c := false) h18) <| V (run_not rfl) <| V (run_pickF (bR (c := false) h18) (v := B _) rfl) <| RL.nil <| CW.cond rfl (fun h23 => ?_) (fun h23 => ?_)
   ·refine SR <| va (v := B false) rfl <| RL.nil <| CW.ret <| outP1 Tryz.results39 (congrArg B ?_) hH20.below
    exact (below_no2 h0 ‹k < _› (nt ‹(!leqE _ _) = true›)).symm
   ·refine CW.skip <| CW.region <| V (run_add e11_1 rfl (by omega)) <| mI rfl <| RL.nil <| ?_
    refine ⟨k + 1, ?_, fr1.u4.u4.u4.u4.u4.u4, (hH20.sub (sQ (sQ sR))), (congrArg I (by rfl)), ?_, ?_, ?_⟩
    ·((try dsimp only); omega)
    ·omega
    ·omega
    ·exact fun j a b => if e : j = k then e ▸ (by rw [nf ‹(!(getF _ _).2) = false›, nf ‹(!leqE _ _) = false›]; rfl) else hg j a (by omega)
 ·refine CW.exit (id := 0) rfl <| SR <| va (v := B true) rfl <| RL.nil <| CW.ret <| outP1 Tryz.results39 (congrArg B ?_) hH1.below
  exact (below_yes ‹¬ k < _› hg).symm
theorem c_assign_Same (a b : Asg) (w : World) (ha : AsgV (Kw w) a) (hb : AsgV (Kw w) b) : Calls Tryz.prog 16 #[.agg (asgL a).toArray, .agg (asgL b).toArray] w (Pure (B (sameA a.as b.as)) w) := by
 have hm1 := ha.labels.small
 have hm2 := ha.rows.small
 have hm3 := hb.labels.small
 have hm4 := hb.rows.small
 unfold maxLen at hm1 hm2 hm3 hm4
 refine enter Tryz.func16 rfl Tryz.ntmps16 rfl <| have hH := Hp.start w; SR <| RL.new rfl hH (f := fun b => (.pointer (some ⟨b, 0, none⟩))) (run_box (v := .agg _) rfl) <| fun b3 w1 hH2 => RL.new rfl hH2 (f := fun b => (.pointer (some ⟨b, 0, none⟩))) (run_box (v := .agg _) rfl) <| fun b6 w4 hH5 => va (v := B false) rfl <| RL.nil <| CW.seq <| SR <| V (fA underlying29 0 rfl sizeOf26 rfl) <| V (run_ldV (ha.labels.sl.hp hH5) underlying26 rfl rfl (hH5.cell (i := 1) rfl rfl)) <| V (run_lenSl (ha.labels.sl.hp hH5) rfl underlying26 rfl) <| V (fA underlying29 0 rfl sizeOf26 rfl) <| V (run_ldV (hb.labels.sl.hp hH5) underlying26 rfl rfl (hH5.cell (i := 0) rfl rfl)) <| V (run_lenSl (hb.labels.sl.hp hH5) rfl underlying26 rfl) <| V (run_neq rfl rfl) <| mB rfl <| RL.splitP (dj := 15) rfl (fun h8 => ?_) (fun h8 => ?_)
 ·refine gF rfl (bT h8) <| gF rfl (bT h8) <| gF rfl (bT h8) <| gF rfl (bT h8) <| gF rfl (bT h8) <| gF rfl (bT h8) <| gF rfl (bT h8) <| V (run_pickT (bT h8) (v := B true) rfl) <| RL.nil <| CW.condT rfl <| SR <| va (v := B false) rfl <| RL.nil <| CW.ret <| outP1 Tryz.results16 (congrArg B ?_) hH5.below
  exact (same_1 ‹_›).symm
 ·refine gT rfl (bF h8) <| V (fA underlying29 1 rfl sizeOf27 rfl) <| gT rfl (bF h8) <| V (run_ldV (ha.rows.sl.hp hH5) underlying27 rfl rfl (hH5.cell (i := 1) rfl rfl)) <| gT rfl (bF h8) <| V (run_lenSl (ha.rows.sl.hp hH5) rfl underlying27 rfl) <| gT rfl (bF h8) <| V (fA underlying29 1 rfl sizeOf27 rfl) <| gT rfl (bF h8) <| V (run_ldV (hb.rows.sl.hp hH5) underlying27 rfl rfl (hH5.cell (i := 0) rfl rfl)) <| gT rfl (bF h8) <| V (run_lenSl (hb.rows.sl.hp hH5) rfl underlying27 rfl) <| gT rfl (bF h8) <| V (run_neq rfl rfl) <| V (run_pickF (bF h8) (v := B _) rfl) <| RL.nil <| CW.condP rfl (fun h10 => ?_) (fun h10 => ?_)
  ·refine SR <| va (v := B false) rfl <| RL.nil <| CW.ret <| outP1 Tryz.results16 (congrArg B ?_) hH5.below
   exact (same_2 ‹_›).symm
  ·refine CW.skip <| CW.seq <| SR <| V (fA underlying29 0 rfl sizeOf26 rfl) <| V (run_ldV (ha.labels.sl.hp hH5) underlying26 rfl rfl (hH5.cell (i := 1) rfl rfl)) <| V (run_lenSl (ha.labels.sl.hp hH5) rfl underlying26 rfl) <| vm (v := I 0) rfl <| RL.nil <| CW.block <| have e1 : (a.labels.length : Int) = b.labels.length := (by omega); have e2 : (a.rows.length : Int) = b.rows.length := (by omega); CW.loop (G := Int) (fun k s' w' => (Fr (4 :: 5 :: (rg 27 15 [])) _ s') ∧ (Hp w w' _) ∧ (s' 27 = I k) ∧ (0 ≤ k) ∧ (k ≤ a.labels.length) ∧ (∀ i : Int, 0 ≤ i → i < k → decide (eqE (a.labels.getD i.toNat el0) (b.labels.getD i.toNat el0)) = true)) (fun k => (a.labels.length - k).toNat) (0) ⟨Fr.refl _ _, hH5, rfl, (by omega), (by omega), fun j a b => absurd b (by omega)⟩ <| ?_
   rintro k sg11 w11 ⟨fr11, hH11, e27_11, h0, hk, hg⟩
   have e2_11 := fr11.pp 2 rfl rfl
   have e3_11 := fr11.pp 3 rfl rfl
   have e26_11 := fr11.ii 26 rfl rfl
   refine SR <| V (run_lss e27_11 e26_11) <| RL.nil <| CW.seq <| CW.condP rfl (fun h13 => ?_) (fun h13 => ?_)
   ·refine CW.skip <| CW.seq <| CW.block <| SR <| vm e27_11 <| aI rfl <| RL.nil <| CW.seq <| CW.regionD (by kernel_rfl) hH11 <| fun w14 hH15 => have zh15 := hH15.sub sR; AQ 0 rfl zh15 (fA underlying29 0 rfl sizeOf26 e2_11) <| AT 1 rfl zh15 (fun w hS => run_ldV (ha.labels.sl.hp hS) underlying26 rfl rfl (hS.cell (i := 1) rfl rfl)) <| AQ 2 rfl zh15 (mV (I _) rfl) <| AT 3 rfl zh15 (fun w hS => run_indexAddrS (ha.labels.sl.hp hS) underlying26 sizeOf51 rfl rfl (by omega)) <| AT 4 rfl zh15 (fun w hS => run_ldElS (ha.labels.sl.hp hS) underlying51 rfl rfl rfl (by omega)) <| AQ 5 rfl zh15 (fA underlying29 0 rfl sizeOf26 e3_11) <| AT 6 rfl zh15 (fun w hS => run_ldV (hb.labels.sl.hp hS) underlying26 rfl rfl (hS.cell (i := 0) rfl rfl)) <| AQ 7 rfl zh15 (mV (I _) rfl) <| AT 8 rfl zh15 (fun w hS => run_indexAddrS (hb.labels.sl.hp hS) underlying26 sizeOf51 rfl rfl (by omega)) <| AT 9 rfl zh15 (fun w hS => run_ldElS (hb.labels.sl.hp hS) underlying51 rfl rfl rfl (by omega)) <| AQ 10 rfl zh15 (run_neqEl elT_fact rfl rfl) <| AD <| CW.cond rfl (fun h17 => ?_) (fun h17 => ?_)
    ·refine SR <| va (v := B false) rfl <| RL.nil <| CW.ret <| outP1 Tryz.results16 (congrArg B ?_) hH15.below
     exact (same_3 h0 ‹k < _› (nt ‹(!decide (eqE _ _)) = true›)).symm
    ·refine CW.skip <| CW.region <| V (run_add e27_11 rfl (by omega)) <| mI rfl <| RL.nil <| ?_
     refine ⟨k + 1, ?_, fr11.u4.u4.u4.u4, hH15, (congrArg I (by rfl)), ?_, ?_, ?_⟩
     ·((try dsimp only); omega)
     ·omega
     ·omega
     ·exact fun i u v => if e : i = k then e ▸ (nf ‹(!decide (eqE _ _)) = false›) else hg i u (by omega)
   ·refine CW.exit (id := 0) rfl <| CW.seq <| SR <| V (fA underlying29 1 rfl sizeOf27 e2_11) <| V (run_ldV (ha.rows.sl.hp hH11) underlying27 rfl rfl (hH11.cell (i := 1) rfl rfl)) <| V (run_lenSl (ha.rows.sl.hp hH11) rfl underlying27 rfl) <| vm (v := I 0) rfl <| RL.nil <| CW.block <| CW.loop (G := Int) (fun j s' w' => (Fr (4 :: (6 :: 7 :: (rg 45 44 []))) _ s') ∧ (Hp w w' _) ∧ (s' 45 = I j) ∧ (0 ≤ j) ∧ (j ≤ a.rows.length) ∧ (∀ i : Int, 0 ≤ i → i < j → sameL (a.rows.getD i.toNat vr0).l (b.rows.getD i.toNat vr0).l = true)) (fun j => (a.rows.length - j).toNat) (0) ⟨Fr.refl _ _, hH11, rfl, (by omega), (by omega), fun j a b => absurd b (by omega)⟩ <| ?_
    rintro j sg18 w18 ⟨fr18, hH18, e45_18, j0, jk, hr⟩
    have e2_18 := (fr18 2 rfl).trans e2_11
    have e3_18 := (fr18 3 rfl).trans e3_11
    have e44_18 := fr18.ii 44 rfl rfl
    refine SR <| V (run_lss e45_18 e44_18) <| RL.nil <| CW.seq <| CW.condP rfl (fun h20 => ?_) (fun h20 => ?_)
    ·refine CW.skip <| CW.seq <| CW.block <| SR <| vm e45_18 <| aI rfl <| RL.nil <| CW.seq <| CW.seq <| CW.regionD (by kernel_rfl) hH18 <| fun w21 hH22 => have zh22 := hH22.sub sR; AQ 0 rfl zh22 (fA underlying29 1 rfl sizeOf27 e2_18) <| AT 1 rfl zh22 (fun w hS => run_ldV (ha.rows.sl.hp hS) underlying27 rfl rfl (hS.cell (i := 1) rfl rfl)) <| AQ 2 rfl zh22 (mV (I _) rfl) <| AT 3 rfl zh22 (fun w hS => run_indexAddrS (ha.rows.sl.hp hS) underlying27 sizeOf48 rfl rfl (by omega)) <| AT 4 rfl zh22 (fun w hS => run_ld underlying48 rfl rfl ((ha.rows.sl.hp hS).cell _ _ (rowsC_at (by omega)))) <| AT 5 rfl zh22 (fun w hS => run_lenSl ((ha.at (by omega) (by omega)).sl.hp hS) rfl underlying48 rfl) <| AQ 6 rfl zh22 (fA underlying29 1 rfl sizeOf27 e3_18) <| AT 7 rfl zh22 (fun w hS => run_ldV (hb.rows.sl.hp hS) underlying27 rfl rfl (hS.cell (i := 0) rfl rfl)) <| AQ 8 rfl zh22 (mV (I _) rfl) <| AT 9 rfl zh22 (fun w hS => run_indexAddrS (hb.rows.sl.hp hS) underlying27 sizeOf48 rfl rfl (by omega)) <| AT 10 rfl zh22 (fun w hS => run_ld underlying48 rfl rfl ((hb.rows.sl.hp hS).cell _ _ (rowsC_at (by omega)))) <| AT 11 rfl zh22 (fun w hS => run_lenSl ((hb.at (by omega) (by omega)).sl.hp hS) rfl underlying48 rfl) <| AQ 12 rfl zh22 (run_neq rfl rfl) <| AD <| CW.condP rfl (fun h24 => ?_) (fun h24 => ?_)
     ·refine SR <| va (v := B false) rfl <| RL.nil <| CW.ret <| outP1 Tryz.results16 (congrArg B ?_) hH22.below
      exact (same_4 j0 ‹j < _› (sameL_no1 ‹_›)).symm
     ·refine CW.skip <| SR <| V (fA underlying29 1 rfl sizeOf27 e2_18) <| V (run_ldV (ha.rows.sl.hp hH22) underlying27 rfl rfl (hH22.cell (i := 1) rfl rfl)) <| mI rfl <| V (run_indexAddrS (ha.rows.sl.hp hH22) underlying27 sizeOf48 rfl rfl (by omega)) <| V (run_ld underlying48 rfl rfl ((ha.rows.sl.hp hH22).cell _ _ (rowsC_at (by omega)))) <| V (run_lenSl ((ha.at (by omega) (by omega)).sl.hp hH22) rfl underlying48 rfl) <| vm (v := I 0) rfl <| RL.nil <| CW.block <| have hlm : (((a.rows.getD j.toNat vr0).l).length : Int) = ((b.rows.getD j.toNat vr0).l).length := (by omega); have hm5 := (ha.at j0 ‹j < _›).small; ?_
      unfold maxLen at hm5
      refine CW.loop (G := Int) (fun q s' w' => (Fr (4 :: (7 :: (rg 67 21 []))) _ s') ∧ (Hp w w' _) ∧ (s' 67 = I q) ∧ (0 ≤ q) ∧ (q ≤ (a.rows.getD j.toNat vr0).l.length) ∧ (∀ i : Int, 0 ≤ i → i < q → sameV ((a.rows.getD j.toNat vr0).l.getD i.toNat val0) ((b.rows.getD j.toNat vr0).l.getD i.toNat val0) = true)) (fun q => ((a.rows.getD j.toNat vr0).l.length - q).toNat) (0) ⟨Fr.refl _ _, hH22, rfl, (by omega), (by omega), fun j a b => absurd b (by omega)⟩ ?_
      rintro q sg25 w25 ⟨fr25, hH25, e67_25, q0, qk, hq⟩
      have e2_25 := (fr25 2 rfl).trans e2_18
      have e3_25 := (fr25 3 rfl).trans e3_18
      have e6_25 := fr25.ii 6 rfl rfl
      have e45_25 := (fr25 45 rfl).trans e45_18
      have e66_25 := fr25.ii 66 rfl rfl
      refine SR <| V (run_lss e67_25 e66_25) <| RL.nil <| CW.seq <| CW.condP rfl (fun h27 => ?_) (fun h27 => ?_)
      ·refine CW.skip <| CW.seq <| CW.block <| SR <| vm e67_25 <| aI rfl <| RL.nil <| CW.seq <| CW.regionD (by kernel_rfl) hH25 <| fun w28 hH29 => have zh29 := hH29.sub sR; AQ 0 rfl zh29 (fA underlying29 1 rfl sizeOf27 e2_25) <| AT 1 rfl zh29 (fun w hS => run_ldV (ha.rows.sl.hp hS) underlying27 rfl rfl (hS.cell (i := 1) rfl rfl)) <| AQ 2 rfl zh29 (run_move e6_25) <| AT 3 rfl zh29 (fun w hS => run_indexAddrS (ha.rows.sl.hp hS) underlying27 sizeOf48 rfl rfl (by omega)) <| AT 4 rfl zh29 (fun w hS => run_ld underlying48 rfl rfl ((ha.rows.sl.hp hS).cell _ _ (rowsC_at (by omega)))) <| AQ 5 rfl zh29 (mV (I _) rfl) <| AT 6 rfl zh29 (fun w hS => run_indexAddrS ((ha.at (by omega) (by omega)).sl.hp hS) underlying48 sizeOf53 rfl rfl (by omega)) <| AT 7 rfl zh29 (fun w hS => run_ldE (dv := val0) valL_len ((ha.at (by omega) (by omega)).sl.hp hS) underlying53 rfl rfl rfl (by omega)) <| AQ 8 rfl zh29 (fA underlying29 1 rfl sizeOf27 e3_25) <| AT 9 rfl zh29 (fun w hS => run_ldV (hb.rows.sl.hp hS) underlying27 rfl rfl (hS.cell (i := 0) rfl rfl)) <| AQ 10 rfl zh29 (run_move e6_25) <| AT 11 rfl zh29 (fun w hS => run_indexAddrS (hb.rows.sl.hp hS) underlying27 sizeOf48 rfl rfl (by omega)) <| AT 12 rfl zh29 (fun w hS => run_ld underlying48 rfl rfl ((hb.rows.sl.hp hS).cell _ _ (rowsC_at (by omega)))) <| AQ 13 rfl zh29 (mV (I _) rfl) <| AT 14 rfl zh29 (fun w hS => run_indexAddrS ((hb.at (by omega) (by omega)).sl.hp hS) underlying48 sizeOf53 rfl rfl (by omega)) <| AT 15 rfl zh29 (fun w hS => run_ldE (dv := val0) valL_len ((hb.at (by omega) (by omega)).sl.hp hS) underlying53 rfl rfl rfl (by omega)) <| AQ 16 rfl zh29 (run_neqT (eq_val _ _) rfl rfl) <| AD <| CW.cond rfl (fun h31 => ?_) (fun h31 => ?_)
       ·refine SR <| va (v := B false) rfl <| RL.nil <| CW.ret <| outP1 Tryz.results16 (congrArg B ?_) hH29.below
        exact (same_4 j0 ‹j < _› (sameL_no2 q0 ‹q < _› (nt ‹(!sameV _ _) = true›))).symm
       ·refine CW.skip <| CW.region <| V (run_add e67_25 rfl (by omega)) <| mI rfl <| RL.nil <| ?_
        refine ⟨q + 1, ?_, fr25.u4.u4.u4.u4.u4.u1.u1, hH29, (congrArg I (by rfl)), ?_, ?_, ?_⟩
        ·((try dsimp only); omega)
        ·omega
        ·omega
        ·exact fun i u v => if e : i = q then e ▸ nf ‹(!sameV _ _) = false› else hq i u (by omega)
      ·refine CW.exit (id := 4) rfl <| CW.region <| V (run_add e45_25 rfl (by omega)) <| mI rfl <| RL.nil <| ?_
       refine ⟨j + 1, ?_, (((fr18.u4.u4.u4.u4.u4.u1.u1.u1).t fr25 rfl)).u1.u1.u1, hH25, (congrArg I (by rfl)), ?_, ?_, ?_⟩
       ·((try dsimp only); omega)
       ·omega
       ·omega
       ·exact fun i u v => if e : i = j then e ▸ (sameL_yes hlm ‹¬ q < _› hq) else hr i u (by omega)
    ·refine CW.exit (id := 2) rfl <| SR <| va (v := B true) rfl <| RL.nil <| CW.ret <| outP1 Tryz.results16 (congrArg B ?_) hH18.below
     exact (same_y e1 e2 ‹¬ k < _› hg ‹¬ j < _› hr).symm
theorem c_assign_Leq (a b : Asg) (w : World) (ha : AsgV (Kw w) a) (hb : AsgV (Kw w) b) : Calls Tryz.prog 17 #[.agg (asgL a).toArray, .agg (asgL b).toArray] w (Pure (B (leqA a.as b.as)) w) := by
 have hm1 := ha.labels.small
 have hm2 := ha.rows.small
 have hm3 := hb.labels.small
 have hm4 := hb.rows.small
 unfold maxLen at hm1 hm2 hm3 hm4
 refine enter Tryz.func17 rfl Tryz.ntmps17 rfl <| have hH := Hp.start w; SR <| RL.new rfl hH (f := fun b => (.pointer (some ⟨b, 0, none⟩))) (run_box (v := .agg _) rfl) <| fun b3 w1 hH2 => RL.new rfl hH2 (f := fun b => (.pointer (some ⟨b, 0, none⟩))) (run_box (v := .agg _) rfl) <| fun b6 w4 hH5 => va (v := B false) rfl <| RL.nil <| CW.seq <| SR <| V (fA underlying29 0 rfl sizeOf26 rfl) <| V (run_ldV (ha.labels.sl.hp hH5) underlying26 rfl rfl (hH5.cell (i := 1) rfl rfl)) <| V (run_lenSl (ha.labels.sl.hp hH5) rfl underlying26 rfl) <| vm (v := I 0) rfl <| RL.nil <| CW.block <| CW.loop (G := Int) (fun k s' w' => (Fr (4 :: 5 :: (rg 10 15 [])) _ s') ∧ (Hp w w' _) ∧ (s' 10 = I k) ∧ (0 ≤ k) ∧ (k ≤ a.labels.length) ∧ (∀ i : Int, 0 ≤ i → i < k → leqE (a.labels.getD i.toNat el0) (b.labels.getD i.toNat el0) = true)) (fun k => (a.labels.length - k).toNat) (0) ⟨Fr.refl _ _, hH5, rfl, (by omega), (by omega), fun j a b => absurd b (by omega)⟩ <| ?_
 rintro k sg7 w7 ⟨fr7, hH7, e10_7, h0, hk, hg⟩
 have e2_7 := fr7.pp 2 rfl rfl
 have e3_7 := fr7.pp 3 rfl rfl
 have e9_7 := fr7.ii 9 rfl rfl
 refine SR <| V (run_lss e10_7 e9_7) <| RL.nil <| CW.seq <| CW.condP rfl (fun h9 => ?_) (fun h9 => ?_)
 ·refine CW.skip <| CW.seq <| CW.block <| SR <| vm e10_7 <| aI rfl <| RL.nil <| CW.seq <| CW.regionD (by kernel_rfl) hH7 <| fun w10 hH11 => have zh11 := hH11.sub sR; AQ 0 rfl zh11 (fA underlying29 0 rfl sizeOf26 e2_7) <| AT 1 rfl zh11 (fun w hS => run_ldV (ha.labels.sl.hp hS) underlying26 rfl rfl (hS.cell (i := 1) rfl rfl)) <| AQ 2 rfl zh11 (mV (I _) rfl) <| AT 3 rfl zh11 (fun w hS => run_indexAddrS (ha.labels.sl.hp hS) underlying26 sizeOf51 rfl rfl (by omega)) <| AT 4 rfl zh11 (fun w hS => run_ldElS (ha.labels.sl.hp hS) underlying51 rfl rfl rfl (by omega)) <| AQ 5 rfl zh11 (fA underlying29 0 rfl sizeOf26 e3_7) <| AT 6 rfl zh11 (fun w hS => run_ldV (hb.labels.sl.hp hS) underlying26 rfl rfl (hS.cell (i := 0) rfl rfl)) <| AQ 7 rfl zh11 (mV (I _) rfl) <| A1 8 <| AO.callP rfl gnone rfl hH11 sR (c_assign_at_api_Elem _ _ _ (by omega) _ (hb.labels.sl.hp hH11)) (run_call2 call38 rfl rfl) <| fun w12 hH13 => A1 9 <| AO.callP rfl gnone rfl hH13 sR (c_shape_Leq _ _  _) (run_call2 call37 rfl rfl) <| fun w14 hH15 => AQ 10 rfl (hH15.sub sR) (run_not rfl) <| AD <| CW.cond rfl (fun h18 => ?_) (fun h18 => ?_)
  ·refine SR <| va (v := B false) rfl <| RL.nil <| CW.ret <| outP1 Tryz.results17 (congrArg B ?_) hH15.below
   exact (leqA_1 h0 ‹k < _› (nt ‹(!leqE _ _) = true›)).symm
  ·refine CW.skip <| CW.region <| V (run_add e10_7 rfl (by omega)) <| mI rfl <| RL.nil <| ?_
   refine ⟨k + 1, ?_, fr7.u4.u4.u4.u4, hH15, (congrArg I (by rfl)), ?_, ?_, ?_⟩
   ·((try dsimp only); omega)
   ·omega
   ·omega
   ·exact fun i u v => if e : i = k then e ▸ (nf ‹(!leqE _ _) = false›) else hg i u (by omega)
 ·refine CW.exit (id := 0) rfl <| CW.seq <| SR <| V (fA underlying29 1 rfl sizeOf27 e2_7) <| V (run_ldV (ha.rows.sl.hp hH7) underlying27 rfl rfl (hH7.cell (i := 1) rfl rfl)) <| V (run_lenSl (ha.rows.sl.hp hH7) rfl underlying27 rfl) <| vm (v := I 0) rfl <| RL.nil <| CW.block <| CW.loop (G := Int) (fun j s' w' => (Fr (4 :: (6 :: (rg 28 15 []))) _ s') ∧ (Hp w w' _) ∧ (s' 28 = I j) ∧ (0 ≤ j) ∧ (j ≤ a.rows.length) ∧ (∀ i : Int, 0 ≤ i → i < j → belowL (a.rows.getD i.toNat vr0).l (b.rows.getD i.toNat vr0).l = true)) (fun j => (a.rows.length - j).toNat) (0) ⟨Fr.refl _ _, hH7, rfl, (by omega), (by omega), fun j a b => absurd b (by omega)⟩ <| ?_
  rintro j sg19 w19 ⟨fr19, hH19, e28_19, j0, jk, hr⟩
  have e2_19 := (fr19 2 rfl).trans e2_7
  have e3_19 := (fr19 3 rfl).trans e3_7
  have e27_19 := fr19.ii 27 rfl rfl
  refine SR <| V (run_lss e28_19 e27_19) <| RL.nil <| CW.seq <| CW.condP rfl (fun h21 => ?_) (fun h21 => ?_)
  ·refine CW.skip <| CW.seq <| CW.block <| SR <| vm e28_19 <| aI rfl <| RL.nil <| CW.seq <| CW.regionD (by kernel_rfl) hH19 <| fun w22 hH23 => have zh23 := hH23.sub sR; AQ 0 rfl zh23 (fA underlying29 1 rfl sizeOf27 e2_19) <| AT 1 rfl zh23 (fun w hS => run_ldV (ha.rows.sl.hp hS) underlying27 rfl rfl (hS.cell (i := 1) rfl rfl)) <| AQ 2 rfl zh23 (mV (I _) rfl) <| AT 3 rfl zh23 (fun w hS => run_indexAddrS (ha.rows.sl.hp hS) underlying27 sizeOf48 rfl rfl (by omega)) <| AT 4 rfl zh23 (fun w hS => run_ld underlying48 rfl rfl ((ha.rows.sl.hp hS).cell _ _ (rowsC_at (by omega)))) <| AQ 5 rfl zh23 (fA underlying29 1 rfl sizeOf27 e3_19) <| AT 6 rfl zh23 (fun w hS => run_ldV (hb.rows.sl.hp hS) underlying27 rfl rfl (hS.cell (i := 0) rfl rfl)) <| AQ 7 rfl zh23 (mV (I _) rfl) <| A1 8 <| AO.callP rfl gnone rfl hH23 sR (c_assign_at_api_Value _ _ _ (by omega) _ (hb.rows.sl.hp hH23)) (run_call2 call40 rfl rfl) <| fun w24 hH25 => A1 9 <| AO.callP rfl gnone rfl hH25 sR (c_assign_below _ _ _ _  _ ((ha.at (by omega) (by omega)).sl.hp hH25) ((hb.each.or j.toNat).sl.hp hH25)) (run_call2 call39 rfl rfl) <| fun w26 hH27 => AQ 10 rfl (hH27.sub sR) (run_not rfl) <| AD <| CW.cond rfl (fun h30 => ?_) (fun h30 => ?_)
   ·refine SR <| va (v := B false) rfl <| RL.nil <| CW.ret <| outP1 Tryz.results17 (congrArg B ?_) hH27.below
    exact (leqA_2 j0 ‹j < _› (nt ‹(!belowL _ _) = true›)).symm
   ·refine CW.skip <| CW.region <| V (run_add e28_19 rfl (by omega)) <| mI rfl <| RL.nil <| ?_
    refine ⟨j + 1, ?_, fr19.u4.u4.u4.u4, hH27, (congrArg I (by rfl)), ?_, ?_, ?_⟩
    ·((try dsimp only); omega)
    ·omega
    ·omega
    ·exact fun i u v => if e : i = j then e ▸ (nf ‹(!belowL _ _) = false›) else hr i u (by omega)
  ·refine CW.exit (id := 2) rfl <| SR <| va (v := B true) rfl <| RL.nil <| CW.ret <| outP1 Tryz.results17 (congrArg B ?_) hH19.below
   exact (leqA_y ‹¬ k < _› hg ‹¬ j < _› hr).symm
set_option maxHeartbeats 2000000 in
theorem c_assign_Right (s : Scp) (a : Asg) (w : World) (hs : ScpV (Kw w) s) (ha : AsgV (Kw w) a) (hT : Tab w) : Calls Tryz.prog 9 #[.agg (scpC s), .agg (asgL a).toArray] w (Pure (B (rightA s.sc a.as)) w) := by
 have hm1 := hs.lats.sl.small
 have hm2 := hs.vars.sl.small
 unfold maxLen at hm1 hm2
 have hm3 := ha.labels.small
 have hm4 := ha.rows.small
 unfold maxLen at hm3 hm4
 refine enter Tryz.func9 rfl Tryz.ntmps9 rfl <| have hH := Hp.start w; SR <| RL.new rfl hH (f := fun b => (.pointer (some ⟨b, 0, none⟩))) (run_box (v := .agg _) rfl) <| fun b3 w1 hH2 => RL.new rfl hH2 (f := fun b => (.pointer (some ⟨b, 0, none⟩))) (run_box (v := .agg _) rfl) <| fun b6 w4 hH5 => va (v := B false) rfl <| RL.nil <| CW.seq <| SR <| V (fA underlying29 0 rfl sizeOf26 rfl) <| V (run_ldV (ha.labels.sl.hp hH5) underlying26 rfl rfl (hH5.cell (i := 0) rfl rfl)) <| V (run_lenSl (ha.labels.sl.hp hH5) rfl underlying26 rfl) <| V (fA underlying25 1 rfl sizeOf23 rfl) <| V (run_ldV (hs.vars.sl.hp hH5) underlying23 rfl rfl (hH5.cell (i := 1) rfl rfl)) <| V (run_lenSl (hs.vars.sl.hp hH5) rfl underlying23 rfl) <| V (run_neq rfl rfl) <| mB rfl <| RL.splitP (dj := 15) rfl (fun h8 => ?_) (fun h8 => ?_)
 ·refine gF rfl (bT h8) <| gF rfl (bT h8) <| gF rfl (bT h8) <| gF rfl (bT h8) <| gF rfl (bT h8) <| gF rfl (bT h8) <| gF rfl (bT h8) <| V (run_pickT (bT h8) (v := B true) rfl) <| RL.nil <| CW.condT rfl <| SR <| va (v := B false) rfl <| RL.nil <| CW.ret <| outP1 Tryz.results9 (congrArg B ?_) hH5.below
  exact (right_1 (by omega)).symm
 ·refine gT rfl (bF h8) <| V (fA underlying29 1 rfl sizeOf27 rfl) <| gT rfl (bF h8) <| V (run_ldV (ha.rows.sl.hp hH5) underlying27 rfl rfl (hH5.cell (i := 0) rfl rfl)) <| gT rfl (bF h8) <| V (run_lenSl (ha.rows.sl.hp hH5) rfl underlying27 rfl) <| gT rfl (bF h8) <| V (fA underlying25 1 rfl sizeOf23 rfl) <| gT rfl (bF h8) <| V (run_ldV (hs.vars.sl.hp hH5) underlying23 rfl rfl (hH5.cell (i := 1) rfl rfl)) <| gT rfl (bF h8) <| V (run_lenSl (hs.vars.sl.hp hH5) rfl underlying23 rfl) <| gT rfl (bF h8) <| V (run_neq rfl rfl) <| V (run_pickF (bF h8) (v := B _) rfl) <| RL.nil <| CW.condP rfl (fun h10 => ?_) (fun h10 => ?_)
  ·refine SR <| va (v := B false) rfl <| RL.nil <| CW.ret <| outP1 Tryz.results9 (congrArg B ?_) hH5.below
   exact (right_2 (by omega)).symm
  ·refine CW.skip <| CW.seq <| SR <| V (fA underlying25 1 rfl sizeOf23 rfl) <| V (run_ldV (hs.vars.sl.hp hH5) underlying23 rfl rfl (hH5.cell (i := 1) rfl rfl)) <| V (run_lenSl (hs.vars.sl.hp hH5) rfl underlying23 rfl) <| vm (v := I 0) rfl <| RL.nil <| CW.block <| have e1 : (a.labels.length : Int) = s.vars.length := (by omega); have e2 : (a.rows.length : Int) = s.vars.length := (by omega); CW.loop (G := Int) (fun k s' w' => (Fr (rg 4 4 (rg 27 73 [])) _ s') ∧ (Hp w w' _) ∧ (s' 27 = I k) ∧ (0 ≤ k) ∧ (k ≤ s.vars.length) ∧ (∀ i : Int, 0 ≤ i → i < k → okG s a i = true)) (fun k => (s.vars.length - k).toNat) (0) ⟨Fr.refl _ _, hH5, rfl, (by omega), (by omega), fun j a b => absurd b (by omega)⟩ <| ?_
   rintro k sg11 w11 ⟨fr11, hH11, e27_11, h0, hk, hg⟩
   have e2_11 := fr11.pp 2 rfl rfl
   have e3_11 := fr11.pp 3 rfl rfl
   have e25_11 := (fr11 25 rfl).trans (by conv => lhs; whnf)
   have e26_11 := fr11.ii 26 rfl rfl
   refine SR <| V (run_lss e27_11 e26_11) <| RL.nil <| CW.seq <| CW.condP rfl (fun h13 => ?_) (fun h13 => ?_)
   ·refine CW.skip <| CW.seq <| CW.block <| SR <| vm e27_11 <| V (run_indexAddrS (hs.vars.sl.hp hH11) underlying23 sizeOf47 e25_11 e27_11 (by omega)) <| V (run_ldE (dv := var0) varL_len (hs.vars.sl.hp hH11) underlying47 rfl rfl rfl (by omega)) <| RL.new rfl hH11 (f := fun b => (.pointer (some ⟨b, 0, none⟩))) (run_alloc Tryz.zeroValue47) <| fun b16 w14 hH15 => aI rfl <| RL.set hH15 (i := 0) rfl (run_stW (c' := (varL _).toArray) rfl rfl rfl (by simp [varL, Value.oneCell']) (hH15.blk (i := 0) rfl) rfl) <| fun w17 hH18 => ?_
    simp only [z2] at hH18
    refine RL.nil <| CW.seq <| SR <| V (fA underlying47 2 rfl sizeOf3 rfl) <| V (run_ld underlying3 rfl rfl (hH18.cell (i := 0) rfl (v := I _) rfl)) <| V (run_lss rfl rfl) <| mB rfl <| RL.splitP (dj := 35) rfl (fun h20 => ?_) (fun h20 => ?_)
    ·refine gF rfl (bT h20) <| gF rfl (bT h20) <| gF rfl (bT h20) <| gF rfl (bT h20) <| gF rfl (bT h20) <| gF rfl (bT h20) <| V (run_pickT (bT h20) (v := B true) rfl) <| RL.nil <| CW.condT rfl <| SR <| va (v := B false) rfl <| RL.nil <| CW.ret <| outP1 Tryz.results9 (congrArg B ?_) hH18.below
     exact (right_3 h0 ‹k < _› (ok_n0 (by omega))).symm
    ·refine gT rfl (bF h20) <| V (fA underlying47 2 rfl sizeOf3 rfl) <| gT rfl (bF h20) <| V (run_ld underlying3 rfl rfl (hH18.cell (i := 0) rfl (v := I _) rfl)) <| gT rfl (bF h20) <| V (fA underlying25 0 rfl sizeOf22 e2_11) <| gT rfl (bF h20) <| V (run_ldV (hs.lats.sl.hp hH18) underlying22 rfl rfl (hH18.cell (i := 2) rfl rfl)) <| gT rfl (bF h20) <| V (run_lenSl (hs.lats.sl.hp hH18) rfl underlying22 rfl) <| gT rfl (bF h20) <| V (run_geq rfl rfl) <| V (run_pickF (bF h20) (v := B _) rfl) <| RL.nil <| CW.condP rfl (fun h22 => ?_) (fun h22 => ?_)
     ·refine SR <| va (v := B false) rfl <| RL.nil <| CW.ret <| outP1 Tryz.results9 (congrArg B ?_) hH18.below
      exact (right_3 h0 ‹k < _› (ok_n0 (by omega))).symm
     ·refine CW.skip <| SR <| V (fA underlying25 0 rfl sizeOf22 e2_11) <| V (run_ldV (hs.lats.sl.hp hH18) underlying22 rfl rfl (hH18.cell (i := 2) rfl rfl)) <| V (fA underlying47 2 rfl sizeOf3 rfl) <| V (run_ld underlying3 rfl rfl (hH18.cell (i := 0) rfl (v := I _) rfl)) <| V (run_indexAddrS (hs.lats.sl.hp hH18) underlying22 sizeOf44 rfl rfl (by omega)) <| V (fA underlying44 1 rfl sizeOf42 rfl) <| V (run_ldEA (dv := lat0) (off := 1) (cs := shpL _) latL_len (hs.lats.sl.hp hH18) underlying42 rfl rfl rfl (by omega) (lat_shp _)) <| RL.new rfl hH18 (f := fun b => (.pointer (some ⟨b, 0, none⟩))) (run_alloc Tryz.zeroValue42) <| fun b25 w23 hH24 => RL.set hH24 (i := 0) rfl (run_stShp (hs.at (by omega) (by omega)) rfl rfl rfl (hH24.blk (i := 0) rfl) rfl) <| fun w26 hH27 => ?_
      simp only [z2] at hH27
      refine RL.nil <| SR <| V (fA underlying47 1 rfl sizeOf3 rfl) <| V (run_ld underlying3 rfl rfl (hH27.cell (i := 1) rfl (v := I _) rfl)) <| RL.nil <| CW.block <| SR <| V (run_eql rfl rfl) <| aB rfl <| RL.nil <| CW.condP rfl (fun h29 => ?_) (fun h29 => ?_)
      ·refine CW.seq <| CW.regionD (by kernel_rfl) hH27 <| fun w30 hH31 => have zh31 := hH31.sub sR; AQ 0 rfl zh31 (fA underlying29 1 rfl sizeOf27 e3_11) <| AT 1 rfl zh31 (fun w hS => run_ldV (ha.rows.sl.hp hS) underlying27 rfl rfl (hS.cell (i := 2) rfl rfl)) <| AQ 2 rfl zh31 (mV (I _) rfl) <| AT 3 rfl zh31 (fun w hS => run_indexAddrS (ha.rows.sl.hp hS) underlying27 sizeOf48 rfl rfl (by omega)) <| AT 4 rfl zh31 (fun w hS => run_ld underlying48 rfl rfl ((ha.rows.sl.hp hS).cell _ _ (rowsC_at (by omega)))) <| AT 5 rfl zh31 (fun w hS => run_lenSl ((ha.at (by omega) (by omega)).sl.hp hS) rfl underlying48 rfl) <| AQ 6 rfl zh31 (run_gtr rfl rfl) <| AQ 7 rfl zh31 (mV (B _) rfl) <| AN.splitP (dj := 61) rfl (fun h33 => ?_) (fun h33 => ?_)
       ·refine AK 8 rfl rfl (bT h33) (hH31.sub sR) <| AK 9 rfl rfl (bT h33) (hH31.sub sR) <| AK 10 rfl rfl (bT h33) (hH31.sub sR) <| AK 11 rfl rfl (bT h33) (hH31.sub sR) <| AK 12 rfl rfl (bT h33) (hH31.sub sR) <| AK 13 rfl rfl (bT h33) (hH31.sub sR) <| AK 14 rfl rfl (bT h33) (hH31.sub sR) <| AK 15 rfl rfl (bT h33) (hH31.sub sR) <| AQ 16 rfl zh31 (run_pickT (bT h33) (v := B true) rfl) <| AD <| CW.condT rfl <| SR <| va (v := B false) rfl <| RL.nil <| CW.ret <| outP1 Tryz.results9 (congrArg B ?_) hH31.below
        exact (right_3 h0 ‹k < _› (ok_1a (by omega) (by omega))).symm
       ·refine AG 8 rfl rfl (bF h33) (hH31.sub sR) (fun w hS => run_ldA (cs := [B _, _]) underlying42 rfl rfl rfl (rangeAt_cells (hS.blk (i := 0) rfl))) <| AG 9 rfl rfl (bF h33) (hH31.sub sR) (fun w hS => fA underlying29 0 rfl sizeOf26 e3_11) <| AG 10 rfl rfl (bF h33) (hH31.sub sR) (fun w hS => run_ldV (ha.labels.sl.hp hS) underlying26 rfl rfl (hS.cell (i := 2) rfl rfl)) <| AG 11 rfl rfl (bF h33) (hH31.sub sR) (fun w hS => mV (I _) rfl) <| AG 12 rfl rfl (bF h33) (hH31.sub sR) (fun w hS => run_indexAddrS (ha.labels.sl.hp hS) underlying26 sizeOf51 rfl rfl (by omega)) <| AG 13 rfl rfl (bF h33) (hH31.sub sR) (fun w hS => run_ldElS (ha.labels.sl.hp hS) underlying51 rfl rfl rfl (by omega)) <| A1 14 <| AO.callP rfl (gsome rfl (bF h33)) rfl hH31 sR (c_shape_Fits _ _  _ ((hs.at (by omega) (by omega)).mono hH31.kw) (hT.hp hH31)) (run_call2 call24 rfl rfl) <| fun w34 hH35 => AG 15 rfl rfl (bF h33) (hH35.sub sR) (fun w hS => run_not rfl) <| AQ 16 rfl (hH35.sub sR) (run_pickF (bF h33) (v := B _) rfl) <| AD <| CW.cond rfl (fun h38 => ?_) (fun h38 => ?_)
        ·refine SR <| va (v := B false) rfl <| RL.nil <| CW.ret <| outP1 Tryz.results9 (congrArg B ?_) hH35.below
         exact (right_3 h0 ‹k < _› (ok_1b (by omega) (nt ‹(!fitsS _ _) = true›))).symm
        ·refine CW.skip <| CW.region <| V (run_add e27_11 rfl (by omega)) <| mI rfl <| RL.nil <| ?_
         refine ⟨k + 1, ?_, fr11.u4.u4.u4.u4.u4.u4.u4.u4.u4.u4.u4.u4, (hH35.sub (sQ (sQ sR))), (congrArg I (by rfl)), ?_, ?_, ?_⟩
         ·((try dsimp only); omega)
         ·omega
         ·omega
         ·exact fun i u v => if e : i = k then e ▸ (by exact ok_y1 ⟨by omega, by omega⟩ (by omega) (by omega) (nf ‹(!fitsS _ _) = false›)) else hg i u (by omega)
      ·refine SR <| V (run_eql rfl rfl) <| aB rfl <| RL.nil <| CW.condP rfl (fun h40 => ?_) (fun h40 => ?_)
       ·refine CW.seq <| CW.regionD (by kernel_rfl) hH27 <| fun w41 hH42 => have zh42 := hH42.sub sR; AQ 0 rfl zh42 (fA underlying29 0 rfl sizeOf26 e3_11) <| AT 1 rfl zh42 (fun w hS => run_ldV (ha.labels.sl.hp hS) underlying26 rfl rfl (hS.cell (i := 2) rfl rfl)) <| AQ 2 rfl zh42 (mV (I _) rfl) <| AT 3 rfl zh42 (fun w hS => run_indexAddrS (ha.labels.sl.hp hS) underlying26 sizeOf51 rfl rfl (by omega)) <| AT 4 rfl zh42 (fun w hS => run_ldElS (ha.labels.sl.hp hS) underlying51 rfl rfl rfl (by omega)) <| AQ 5 rfl zh42 (run_bld (vs := []) rfl (built_el0)) <| AQ 6 rfl zh42 (run_neqEl elT_fact rfl rfl) <| AQ 7 rfl zh42 (mV (B _) rfl) <| AN.split (dj := 80) rfl (fun h44 => ?_) (fun h44 => ?_)
        ·refine AK 8 rfl rfl (bR (c := true) h44) (hH42.sub sR) <| AK 9 rfl rfl (bR (c := true) h44) (hH42.sub sR) <| AK 10 rfl rfl (bR (c := true) h44) (hH42.sub sR) <| AK 11 rfl rfl (bR (c := true) h44) (hH42.sub sR) <| AK 12 rfl rfl (bR (c := true) h44) (hH42.sub sR) <| AK 13 rfl rfl (bR (c := true) h44) (hH42.sub sR) <| AK 14 rfl rfl (bR (c := true) h44) (hH42.sub sR) <| AQ 15 rfl zh42 (run_pickT (bR (c := true) h44) (v := B true) rfl) <| AQ 16 rfl zh42 (mV (B _) rfl) <| AK 17 rfl rfl rfl (hH42.sub sR) <| AK 18 rfl rfl rfl (hH42.sub sR) <| AK 19 rfl rfl rfl (hH42.sub sR) <| AK 20 rfl rfl rfl (hH42.sub sR) <| AK 21 rfl rfl rfl (hH42.sub sR) <| AK 22 rfl rfl rfl (hH42.sub sR) <| AK 23 rfl rfl rfl (hH42.sub sR) <| AK 24 rfl rfl rfl (hH42.sub sR) <| AQ 25 rfl zh42 (run_pickT rfl (v := B true) rfl) <| AD <| CW.condT rfl <| SR <| va (v := B false) rfl <| RL.nil <| CW.ret <| outP1 Tryz.results9 (congrArg B ?_) hH42.below
         exact (right_3 h0 ‹k < _› (ok_2a (by omega) (nt ‹(!decide (eqE _ _)) = true›))).symm
        ·refine AG 8 rfl rfl (bR (c := false) h44) (hH42.sub sR) (fun w hS => fA underlying29 1 rfl sizeOf27 e3_11) <| AG 9 rfl rfl (bR (c := false) h44) (hH42.sub sR) (fun w hS => run_ldV (ha.rows.sl.hp hS) underlying27 rfl rfl (hS.cell (i := 2) rfl rfl)) <| AG 10 rfl rfl (bR (c := false) h44) (hH42.sub sR) (fun w hS => mV (I _) rfl) <| AG 11 rfl rfl (bR (c := false) h44) (hH42.sub sR) (fun w hS => run_indexAddrS (ha.rows.sl.hp hS) underlying27 sizeOf48 rfl rfl (by omega)) <| AG 12 rfl rfl (bR (c := false) h44) (hH42.sub sR) (fun w hS => run_ld underlying48 rfl rfl ((ha.rows.sl.hp hS).cell _ _ (rowsC_at (by omega)))) <| A1 13 <| AO.callP rfl (gsome rfl (bR (c := false) h44)) rfl hH42 sR (c_assign_ordered _ _  _ ((ha.at (by omega) (by omega)).sl.hp hH42)) (run_call1 call25 rfl) <| fun w45 hH46 => AG 14 rfl rfl (bR (c := false) h44) (hH46.sub sR) (fun w hS => run_not rfl) <| have zh46 := hH46.sub sR; AQ 15 rfl zh46 (run_pickF (bR (c := false) h44) (v := B _) rfl) <| AQ 16 rfl zh46 (mV (B _) rfl) <| AN.split (dj := 89) rfl (fun h49 => ?_) (fun h49 => ?_)
         ·refine AK 17 rfl rfl (bR (c := true) h49) (hH46.sub sR) <| AK 18 rfl rfl (bR (c := true) h49) (hH46.sub sR) <| AK 19 rfl rfl (bR (c := true) h49) (hH46.sub sR) <| AK 20 rfl rfl (bR (c := true) h49) (hH46.sub sR) <| AK 21 rfl rfl (bR (c := true) h49) (hH46.sub sR) <| AK 22 rfl rfl (bR (c := true) h49) (hH46.sub sR) <| AK 23 rfl rfl (bR (c := true) h49) (hH46.sub sR) <| AK 24 rfl rfl (bR (c := true) h49) (hH46.sub sR) <| AQ 25 rfl zh46 (run_pickT (bR (c := true) h49) (v := B true) rfl) <| AD <| CW.condT rfl <| SR <| va (v := B false) rfl <| RL.nil <| CW.ret <| outP1 Tryz.results9 (congrArg B ?_) hH46.below
          exact (right_3 h0 ‹k < _› (ok_2b (by omega) (nt ‹(!orderedF _) = true›))).symm
         ·refine AG 17 rfl rfl (bR (c := false) h49) (hH46.sub sR) (fun w hS => run_ldA (cs := [B _, _]) underlying42 rfl rfl rfl (rangeAt_cells (hS.blk (i := 0) rfl))) <| AG 18 rfl rfl (bR (c := false) h49) (hH46.sub sR) (fun w hS => fA underlying29 1 rfl sizeOf27 e3_11) <| AG 19 rfl rfl (bR (c := false) h49) (hH46.sub sR) (fun w hS => run_ldV (ha.rows.sl.hp hS) underlying27 rfl rfl (hS.cell (i := 2) rfl rfl)) <| AG 20 rfl rfl (bR (c := false) h49) (hH46.sub sR) (fun w hS => mV (I _) rfl) <| AG 21 rfl rfl (bR (c := false) h49) (hH46.sub sR) (fun w hS => run_indexAddrS (ha.rows.sl.hp hS) underlying27 sizeOf48 rfl rfl (by omega)) <| AG 22 rfl rfl (bR (c := false) h49) (hH46.sub sR) (fun w hS => run_ld underlying48 rfl rfl ((ha.rows.sl.hp hS).cell _ _ (rowsC_at (by omega)))) <| A1 23 <| AO.callP rfl (gsome rfl (bR (c := false) h49)) rfl hH46 sR (c_assign_fits _ _ _  _ ((ha.at (by omega) (by omega)).sl.hp hH46) ((hs.at (by omega) (by omega)).mono hH46.kw) (hT.hp hH46)) (run_call2 call26 rfl rfl) <| fun w50 hH51 => AG 24 rfl rfl (bR (c := false) h49) (hH51.sub sR) (fun w hS => run_not rfl) <| AQ 25 rfl (hH51.sub sR) (run_pickF (bR (c := false) h49) (v := B _) rfl) <| AD <| CW.cond rfl (fun h54 => ?_) (fun h54 => ?_)
          ·refine SR <| va (v := B false) rfl <| RL.nil <| CW.ret <| outP1 Tryz.results9 (congrArg B ?_) hH51.below
           exact (right_3 h0 ‹k < _› (ok_2c (by omega) (nt ‹(!fitsF _ _) = true›))).symm
          ·refine CW.skip <| CW.region <| V (run_add e27_11 rfl (by omega)) <| mI rfl <| RL.nil <| ?_
           refine ⟨k + 1, ?_, fr11.u4.u4.u4.u4.u4.u4.u4.u4.u4.u4.u4.u4.u4.u4.u1.u1.u1, (hH51.sub (sQ (sQ sR))), (congrArg I (by rfl)), ?_, ?_, ?_⟩
           ·((try dsimp only); omega)
           ·omega
           ·omega
           ·exact fun i u v => if e : i = k then e ▸ (by exact ok_y2 ⟨by omega, by omega⟩ (by omega) (nf ‹(!decide (eqE _ _)) = false›) (nf ‹(!orderedF _) = false›) (nf ‹(!fitsF _ _) = false›)) else hg i u (by omega)
       ·refine SR <| va (v := B false) rfl <| RL.nil <| CW.ret <| outP1 Tryz.results9 (congrArg B ?_) hH27.below
        exact (right_3 h0 ‹k < _› (ok_x (by omega) (by omega))).symm
   ·refine CW.exit (id := 0) rfl <| SR <| va (v := B true) rfl <| RL.nil <| CW.ret <| outP1 Tryz.results9 (congrArg B ?_) hH11.below
    exact (right_y e1 e2 ‹¬ k < _› hg).symm
theorem c_clearancelaw18_Big (a : Asg) (hbd : ∀ r ∈ a.rows, r.l.length ≤ 1759218604390) (w : World) (ha : AsgV (Kw w) a) : Calls Tryz.prog 7 #[.agg (asgL a).toArray] w (Pure (B (bigA a)) w) := by
 have hm1 := ha.labels.small
 have hm2 := ha.rows.small
 unfold maxLen at hm1 hm2
 refine enter Tryz.func7 rfl Tryz.ntmps7 rfl <| have hH := Hp.start w; SR <| RL.new rfl hH (f := fun b => (.pointer (some ⟨b, 0, none⟩))) (run_box (v := .agg _) rfl) <| fun b3 w1 hH2 => va (v := B false) rfl <| RL.nil <| CW.seq <| SR <| V (fA underlying29 0 rfl sizeOf26 rfl) <| V (run_ldV (ha.labels.sl.hp hH2) underlying26 rfl rfl (hH2.cell (i := 0) rfl rfl)) <| V (run_lenSl (ha.labels.sl.hp hH2) rfl underlying26 rfl) <| V (run_gtr rfl rfl) <| mB rfl <| RL.splitP (dj := 12) rfl (fun h5 => ?_) (fun h5 => ?_)
 ·refine gF rfl (bT h5) <| gF rfl (bT h5) <| gF rfl (bT h5) <| gF rfl (bT h5) <| V (run_pickT (bT h5) (v := B true) rfl) <| RL.nil <| CW.condT rfl <| SR <| va (v := B true) rfl <| RL.nil <| CW.ret <| outP1 Tryz.results7 (congrArg B ?_) hH2.below
  (rw [bigA, decide_eq_true (by omega)]; rfl)
 ·refine gT rfl (bF h5) <| V (fA underlying29 1 rfl sizeOf27 rfl) <| gT rfl (bF h5) <| V (run_ldV (ha.rows.sl.hp hH2) underlying27 rfl rfl (hH2.cell (i := 0) rfl rfl)) <| gT rfl (bF h5) <| V (run_lenSl (ha.rows.sl.hp hH2) rfl underlying27 rfl) <| gT rfl (bF h5) <| V (run_gtr rfl rfl) <| V (run_pickF (bF h5) (v := B _) rfl) <| RL.nil <| CW.condP rfl (fun h7 => ?_) (fun h7 => ?_)
  ·refine SR <| va (v := B true) rfl <| RL.nil <| CW.ret <| outP1 Tryz.results7 (congrArg B ?_) hH2.below
   (rw [bigA, decide_eq_true (by omega)]; rfl)
  ·refine CW.skip <| SR <| va (v := I 0) rfl <| RL.nil <| CW.seq <| SR <| V (fA underlying29 1 rfl sizeOf27 rfl) <| V (run_ldV (ha.rows.sl.hp hH2) underlying27 rfl rfl (hH2.cell (i := 0) rfl rfl)) <| V (run_lenSl (ha.rows.sl.hp hH2) rfl underlying27 rfl) <| vm (v := I 0) rfl <| RL.nil <| CW.block <| have hno : ¬ (100 < a.labels.length ∨ 100 < a.rows.length) := (by omega); CW.loop (G := Int) (fun k s' w' => (Fr (2 :: 3 :: (5 :: (7 :: (rg 21 20 [])))) _ s') ∧ (Hp w w' _) ∧ (s' 3 = I (rsum (a.rows.take k.toNat))) ∧ (s' 21 = I k) ∧ (0 ≤ k) ∧ (k ≤ a.rows.length) ∧ (∀ i : Int, 0 ≤ i → i < k → bigR (a.rows.getD i.toNat vr0) = false)) (fun k => (a.rows.length - k).toNat) (0) ⟨Fr.refl _ _, hH2, rfl, rfl, (by omega), (by omega), fun j a b => absurd b (by omega)⟩ <| ?_
   rintro k sg8 w8 ⟨fr8, hH8, e3_8, e21_8, h0, hk, hg⟩
   have e19_8 := (fr8 19 rfl).trans (by conv => lhs; whnf)
   have e20_8 := fr8.ii 20 rfl rfl
   refine SR <| V (run_lss e21_8 e20_8) <| RL.nil <| CW.seq <| CW.condP rfl (fun h10 => ?_) (fun h10 => ?_)
   ·refine CW.skip <| CW.seq <| CW.block <| SR <| V (run_indexAddrS (ha.rows.sl.hp hH8) underlying27 sizeOf48 e19_8 e21_8 (by omega)) <| V (run_ld underlying48 rfl rfl ((ha.rows.sl.hp hH8).cell _ _ (rowsC_at (by omega)))) <| ?_
    refine V (run_assign (by conv => lhs; whnf)) ?_
    refine RL.nil <| SR <| vm e3_8 <| ?_
    refine V (run_move (by conv => lhs; whnf)) ?_
    refine V (run_lenSl ((ha.at (by omega) (by omega)).sl.hp hH8) rfl underlying48 rfl) <| V (run_add rfl rfl (by have hb2 := hbd _ (List.mem_of_getElem? (getD_at (d := vr0) h0 ‹k < _›)); have hb3 := rsum_bd hbd h0 (show k ≤ 100 by omega); omega)) <| aI rfl <| RL.nil <| SR <| ?_
    refine V (run_move (by conv => lhs; whnf)) ?_
    refine V (run_lenSl ((ha.at (by omega) (by omega)).sl.hp hH8) rfl underlying48 rfl) <| vm (v := I 0) rfl <| RL.nil <| CW.block <| have hm5 := (ha.at h0 (by omega)).small; ?_
    unfold maxLen at hm5
    refine CW.loop (G := Int) (fun q s' w' => (Fr (2 :: (7 :: (rg 31 9 []))) _ s') ∧ (Hp w w' _) ∧ (s' 31 = I q) ∧ (0 ≤ q) ∧ (q ≤ (a.rows.getD k.toNat vr0).l.length) ∧ (∀ i : Int, 0 ≤ i → i < q → bigNm ((a.rows.getD k.toNat vr0).l.getD i.toNat val0) = false)) (fun q => ((a.rows.getD k.toNat vr0).l.length - q).toNat) (0) ⟨Fr.refl _ _, hH8, rfl, (by omega), (by omega), fun j a b => absurd b (by omega)⟩ ?_
    rintro q sg11 w11 ⟨fr11, hH11, e31_11, q0, qk, hq⟩
    have e3_11 := fr11.ii 3 rfl rfl
    have e21_11 := (fr11 21 rfl).trans e21_8
    have e29_11 := (fr11 29 rfl).trans (by conv => lhs; whnf)
    have e30_11 := fr11.ii 30 rfl rfl
    refine SR <| V (run_lss e31_11 e30_11) <| RL.nil <| CW.seq <| CW.condP rfl (fun h13 => ?_) (fun h13 => ?_)
    ·refine CW.skip <| CW.seq <| CW.block <| SR <| V (run_indexAddrS ((ha.at (by omega) (by omega)).sl.hp hH11) underlying48 sizeOf53 e29_11 e31_11 (by omega)) <| V (run_ldE (dv := val0) valL_len ((ha.at (by omega) (by omega)).sl.hp hH11) underlying53 rfl rfl rfl (by omega)) <| RL.new rfl hH11 (f := fun b => (.pointer (some ⟨b, 0, none⟩))) (run_alloc zero_val) <| fun b16 w14 hH15 => RL.set hH15 (i := 0) rfl (run_stW (c' := (valL _).toArray) rfl rfl rfl (valL_one _) (hH15.blk (i := 0) rfl) rfl) <| fun w17 hH18 => ?_
     simp only [z2] at hH18
     refine RL.nil <| SR <| V (fA underlying53 0 rfl sizeOf9 rfl) <| V (run_ld underlying9 rfl rfl (hH18.cell (i := 0) rfl (v := .string _) rfl)) <| V (run_lenStr rfl underlying9 rfl) <| V (run_gtr rfl rfl) <| RL.nil <| CW.condP rfl (fun h20 => ?_) (fun h20 => ?_)
     ·refine SR <| va (v := B true) rfl <| RL.nil <| CW.ret <| outP1 Tryz.results7 (congrArg B ?_) hH18.below
      (rw [bigA, any_yes (d := vr0) (P := bigR) h0 ‹k < _› (any_yes (d := val0) (P := bigNm) q0 ‹q < _› (decide_eq_true (by omega)))]; simp; done)
     ·refine CW.skip <| CW.region <| V (run_add e31_11 rfl (by omega)) <| mI rfl <| RL.nil <| ?_
      refine ⟨q + 1, ?_, fr11.u4.u4.u1.u1, (hH18.sub (sQ sR)), (congrArg I (by rfl)), ?_, ?_, ?_⟩
      ·((try dsimp only); omega)
      ·omega
      ·omega
      ·exact fun i u v => if e : i = q then e ▸ decide_eq_false (by omega) else hq i u (by omega)
    ·refine CW.exit (id := 2) rfl <| CW.region <| V (run_add e21_11 rfl (by omega)) <| mI rfl <| RL.nil <| ?_
     refine ⟨k + 1, ?_, (((fr8.u4.u4.u4).t fr11 rfl)).u1.u1.u1, hH11, (Eq.trans e3_11 (congrArg I (rsum_next h0 ‹k < _›).symm)), (congrArg I (by rfl)), ?_, ?_, ?_⟩
     ·((try dsimp only); omega)
     ·omega
     ·omega
     ·exact fun i u v => if e : i = k then e ▸ any_no (d := val0) ‹¬ q < _› hq else hg i u (by omega)
   ·refine CW.exit (id := 0) rfl <| SR <| vm e3_8 <| V (run_gtr rfl rfl) <| aB rfl <| RL.nil <| CW.ret <| outP1 Tryz.results7 (congrArg B ?_) hH8.below
    (rw [bigA, decide_eq_false hno, any_no (d := vr0) (P := bigR) ‹¬ k < _› hg, rsum_all ‹¬ k < _›]; rfl)
theorem c_name_Join (v : Value) (l : List Tx) (b : Tx) (hz : szJ b l ≤ 200000000000) (w : World) (hs : Sl w v 1 l.length (txL l)) : Calls Tryz.prog 35 #[v, S b] w (Pure (S (joinF b l)) w) := by
 have hm := hs.small
 unfold maxLen at hm
 refine enter Tryz.func35 rfl Tryz.ntmps35 rfl <| have hH := Hp.start w; SR <| va (v := .string ⟨#[]⟩) rfl <| RL.nil <| SR <| va (v := .slice none 0 0) rfl <| have hH1 := hH.nilRow 5 1; RL.nil <| CW.seq <| SR <| ?_
 refine V (run_move (by conv => lhs; whnf)) ?_
 refine V (run_lenSl (hs.hp hH1) rfl underlying54 rfl) <| vm (v := I 0) rfl <| RL.nil <| CW.block <| CW.loop (G := Int × Tx × Value) (fun ⟨k, m, v5⟩ s' w' => (Fr (5 :: 6 :: (rg 9 15 [])) _ s') ∧ (Hp w w' (.row v5 5 1 (m.size) (byL m) :: _)) ∧ (s' 5 = v5) ∧ (s' 9 = I k) ∧ (0 ≤ k) ∧ (k ≤ l.length) ∧ (m = joinTo b l k)) (fun ⟨k, m, v5⟩ => (l.length - k).toNat) ((0, tx0, (.slice none 0 0 : Value))) ⟨Fr.refl _ _, hH1, rfl, rfl, (by omega), (by omega), rfl⟩ <| ?_
 rintro ⟨k, m, v5⟩ sg2 w2 ⟨fr2, hH2, e5_2, e9_2, h0, hk, hm⟩
 have e0_2 := (fr2 0 rfl).trans (by conv => lhs; whnf)
 have e1_2 := fr2.ss 1 rfl rfl
 have e8_2 := fr2.ii 8 rfl rfl
 subst hm
 refine SR <| V (run_lss e9_2 e8_2) <| RL.nil <| CW.seq <| CW.condP rfl (fun h4 => ?_) (fun h4 => ?_)
 ·refine CW.skip <| CW.seq <| CW.block <| SR <| vm e9_2 <| aI rfl <| RL.nil <| CW.seq <| SR <| mI rfl <| V (run_gtr rfl rfl) <| RL.nil <| CW.condP rfl (fun h6 => ?_) (fun h6 => ?_)
  ·refine CW.region <| vm e5_2 <| vm e1_2 <| RL.appS rfl hH2 (i := 0) rfl rfl rfl underlying98 underlying9 rfl rfl rfl rfl (by have hjz := joinTo_sz (b := b) h0 ‹k < l.length›; (try simp only [List.length_cons, List.length_nil]); omega) <| fun v7 w8 hH9 => ?_
   simp only [z2] at hH9
   refine V (run_assign (by conv => lhs; whnf)) ?_
   refine RL.nil <| CW.region <| ?_
   refine V (run_move (by conv => lhs; whnf)) ?_
   refine vm e0_2 <| mI rfl <| V (run_indexAddrS (hs.hp hH9) underlying54 sizeOf9 rfl rfl (by omega)) <| V (run_ld underlying9 rfl rfl ((hs.hp hH9).cell _ _ (txL_at (by omega)))) <| RL.appS rfl hH9 (i := 0) rfl rfl rfl underlying98 underlying9 rfl rfl rfl rfl (by have hjz := joinTo_sz (b := b) h0 ‹k < l.length›; (try simp only [List.length_cons, List.length_nil]); omega) <| fun v10 w11 hH12 => ?_
   simp only [z2] at hH12
   refine V (run_assign (by conv => lhs; whnf)) ?_
   refine RL.nil <| CW.region <| V (run_add e9_2 rfl (by omega)) <| mI rfl <| RL.nil <| ?_
   refine ⟨(k + 1, joinTo b l (k + 1), v10), ?_, fr2.u4.u4.u4.u4.u1.u1, (Hp.conv hH12 (by rw [← join_2 ‹0 < k› ‹k < _›, tx_size_app, tx_size_app, byL_app, byL_app]; done)), rfl, (congrArg I (by rfl)), ?_, ?_, ?_⟩
   ·((try dsimp only); omega)
   ·omega
   ·omega
   ·rfl
  ·refine CW.skip <| CW.region <| vm e5_2 <| vm e0_2 <| mI rfl <| V (run_indexAddrS (hs.hp hH2) underlying54 sizeOf9 rfl rfl (by omega)) <| V (run_ld underlying9 rfl rfl ((hs.hp hH2).cell _ _ (txL_at (by omega)))) <| RL.appS rfl hH2 (i := 0) rfl rfl rfl underlying98 underlying9 rfl rfl rfl rfl (by have hjz := joinTo_sz (b := b) h0 ‹k < l.length›; (try simp only [List.length_cons, List.length_nil]); omega) <| fun v13 w14 hH15 => ?_
   simp only [z2] at hH15
   refine V (run_assign (by conv => lhs; whnf)) ?_
   refine RL.nil <| CW.region <| V (run_add e9_2 rfl (by omega)) <| mI rfl <| RL.nil <| ?_
   refine ⟨(k + 1, joinTo b l (k + 1), v13), ?_, fr2.u4.u4.u4.u1.u1, (Hp.conv hH15 (by rw [← join_1 (show k = 0 by omega) ‹k < _›, tx_size_app, byL_app])), rfl, (congrArg I (by rfl)), ?_, ?_, ?_⟩
   ·((try dsimp only); omega)
   ·omega
   ·omega
   ·rfl
 ·refine CW.exit (id := 0) rfl <| SR <| vm e5_2 <| V (run_convBS (s := (joinTo b l k)) (hH2.sl (i := 0) rfl) underlying98 underlying5 underlying9 rfl) <| va (v := .string _) rfl <| RL.nil <| CW.ret <| outP1 Tryz.results35 ?_ hH2.below
  exact congrArg S (join_all ‹¬ k < _›)
theorem c_assign_row (s : Shp) (v : Value) (l : List ValR) (hn : ∀ v ∈ l, v.name.size ≤ 40) (hl : l.length ≤ 1000) (w : World) (hs : Sl w v 9 l.length (l.flatMap valL)) (hsh : ShpV (Kw w) s) (hT : Tab w) : Calls Tryz.prog 34 #[.agg (shpC s), v] w (Pure (S (rowT s.sh l)) w) := by
 have hm := hs.small
 unfold maxLen at hm
 refine enter Tryz.func34 rfl Tryz.ntmps34 rfl <| have hH := Hp.start w; SR <| RL.new rfl hH (f := fun b => (.pointer (some ⟨b, 0, none⟩))) (run_box (v := .agg _) rfl) <| fun b3 w1 hH2 => va (v := .string ⟨#[]⟩) rfl <| RL.nil <| SR <| va (v := .slice none 0 0) rfl <| have hH4 := hH2.nilRow 9 1; RL.nil <| CW.seq <| SR <| ?_
 refine V (run_move (by conv => lhs; whnf)) ?_
 refine V (run_lenSl (hs.hp hH4) rfl underlying48 rfl) <| vm (v := I 0) rfl <| RL.nil <| CW.block <| CW.loop (G := Int × (List Tx) × Value) (fun ⟨k, m, v5⟩ s' w' => (Fr (5 :: (7 :: (rg 10 16 []))) _ s') ∧ (Hp w w' (.row v5 9 1 (m.length) (txL m) :: _)) ∧ (s' 5 = v5) ∧ (s' 10 = I k) ∧ (0 ≤ k) ∧ (k ≤ l.length) ∧ (m = (l.take k.toNat).map (fieldT s.sh)) ∧ ((m.length : Int) = k)) (fun ⟨k, m, v5⟩ => (l.length - k).toNat) ((0, [], (.slice none 0 0 : Value))) ⟨Fr.refl _ _, hH4, rfl, rfl, (by omega), (by omega), rfl, rfl⟩ <| ?_
 rintro ⟨k, m, v5⟩ sg5 w5 ⟨fr5, hH5, e5_5, e10_5, h0, hk, hm, hml⟩
 have e2_5 := fr5.pp 2 rfl rfl
 have e8_5 := (fr5 8 rfl).trans (by conv => lhs; whnf)
 have e9_5 := fr5.ii 9 rfl rfl
 refine SR <| V (run_lss e10_5 e9_5) <| RL.nil <| CW.seq <| CW.condP rfl (fun h7 => ?_) (fun h7 => ?_)
 ·refine CW.skip <| CW.seq <| CW.block <| SR <| V (run_indexAddrS (hs.hp hH5) underlying48 sizeOf53 e8_5 e10_5 (by omega)) <| V (run_ldE (dv := val0) valL_len (hs.hp hH5) underlying53 rfl rfl rfl (by omega)) <| RL.new rfl hH5 (f := fun b => (.pointer (some ⟨b, 0, none⟩))) (run_alloc zero_val) <| fun b10 w8 hH9 => RL.set hH9 (i := 0) rfl (run_stW (c' := (valL _).toArray) rfl rfl rfl (valL_one _) (hH9.blk (i := 0) rfl) rfl) <| fun w11 hH12 => ?_
  simp only [z2] at hH12
  refine RL.nil <| CW.regionS (by kernel_rfl) hH12 (sP (sQ sR)) <| fun w13 hH14 => have zh14 := hH14.sub (sP (sQ sR)); AQ 0 rfl zh14 (run_move e5_5) <| AQ 1 rfl zh14 (fA underlying53 0 rfl sizeOf9 rfl) <| AT 2 rfl zh14 (fun w hS => run_ld underlying9 rfl rfl (hS.cell (i := 0) rfl (v := .string _) rfl)) <| AQ 3 rfl zh14 (run_addS rfl rfl (by have hnk := hn _ (List.mem_of_getElem? (getD_at (d := val0) h0 ‹k < _›)); have hss := spell_sz s.sh (l.getD k.toNat val0).el; (try simp only [tx_size_app]); (try simp only [tsz1, tsz2]); omega)) <| AT 4 rfl zh14 (fun w hS => run_ldA (cs := [B _, _]) underlying42 rfl rfl e2_5 (rangeAt_cells (hS.blk (i := 1) rfl))) <| AQ 5 rfl zh14 (fA underlying53 1 rfl sizeOf51 rfl) <| AT 6 rfl zh14 (fun w hS => run_ldVB underlying51 rfl rfl rfl (hS.blk (i := 0) rfl)) <| A1 7 <| AO.callP rfl gnone rfl hH14 (sP (sQ sR)) (c_spell_Text _ _  _ (hsh.mono hH14.kw) (hT.hp hH14)) (run_call2 call33 rfl rfl) <| fun w15 hH16 => AQ 8 rfl (hH16.sub (sP (sQ sR))) (run_addS rfl rfl (by have hnk := hn _ (List.mem_of_getElem? (getD_at (d := val0) h0 ‹k < _›)); have hss := spell_sz s.sh (l.getD k.toNat val0).el; (try simp only [tx_size_app]); (try simp only [tsz1, tsz2]); omega)) <| A1 9 <| AO.new rfl gnone rfl hH16 (sP (sQ sR)) (f := fun b => .slice (some ⟨b, 0, none⟩) 1 1) (run_mkL underlying54 rfl rfl (sz := 1) (vs := [.string _]) rfl rfl (by decide) (by decide) rfl rfl) <| fun b19 w17 hH18 => ?_
  (try simp only [clX] at hH18)
  refine A1 10 <| AO.app rfl gnone rfl hH18 (j := 2) rfl (fun _ => (sQ (sP (sQ sR)))) (hH18.slBlk (i := 0) (n := 1) (sz := 1) rfl rfl (by decide)) rfl rfl underlying54 rfl rfl (size := 1) (bytes := 16) rfl rfl rfl (by decide) (by simp [Value.oneCell']) (by omega) (by simp only [maxLen]; omega) <| fun v22 w20 hH21 => ?_
  simp only [z2] at hH21
  refine AQ 11 rfl (hH21.sub (sQ (sP (sQ sR)))) (run_assign (by conv => lhs; whnf)) ?_
  refine AD <| CW.region <| V (run_add e10_5 rfl (by omega)) <| mI rfl <| RL.nil <| ?_
  refine ⟨(k + 1, m ++ [fieldT s.sh (l.getD k.toNat val0)], v22), ?_, fr5.u4.u4.u4.u4.u1.u1, (Hp.conv (hH21.sub (sQ (sQ sR))) (by (simp only [txL, List.map_append, List.map_cons, List.map_nil, List.length_append, List.length_singleton]; rfl))), rfl, (congrArg I (by rfl)), ?_, ?_, ?_, ?_⟩
  ·((try dsimp only); omega)
  ·omega
  ·omega
  ·rw [fields_next h0 ‹k < _›, ← hm]
  ·simp only [List.length_append, List.length_singleton]; omega
 ·refine CW.exit (id := 0) rfl <| SR <| vm e5_5 <| RL.callP rfl hH5 (c_name_Join _ m (tc 44) (by rw [hm, List.take_of_length_le (show l.length ≤ k.toNat by omega)]; have := fields_sz (s := s.sh) hn hl; omega) _ (hH5.sl (i := 0) rfl)) (run_call2 call35 rfl (show _ = Value.string ⟨#[44]⟩ from rfl)) <| fun w23 hH24 => V (run_addS rfl rfl (by have he : m = l.map (fieldT s.sh) := (by rw [hm, List.take_of_length_le (show l.length ≤ k.toNat by omega)]); rw [he]; have hjs := join_sz (tc 44) (l.map (fieldT s.sh)); have hfs := fields_sz (s := s.sh) hn hl; (try simp only [tx_size_app]); (try simp only [tsz1, tsz2]); omega)) <| V (run_addS rfl rfl (by have he : m = l.map (fieldT s.sh) := (by rw [hm, List.take_of_length_le (show l.length ≤ k.toNat by omega)]); rw [he]; have hjs := join_sz (tc 44) (l.map (fieldT s.sh)); have hfs := fields_sz (s := s.sh) hn hl; (try simp only [tx_size_app]); (try simp only [tsz1, tsz2]); omega)) <| va (v := .string _) rfl <| RL.nil <| CW.ret <| outP1 Tryz.results34 ?_ hH24.below
  (rw [hm, List.take_of_length_le (show l.length ≤ k.toNat by omega)]; rfl)
theorem c_assign_Text (s : Scp) (a : Asg) (hv : s.vars.length ≤ 80) (hvn : ∀ v ∈ s.vars, v.name.size ≤ 40) (hrl : ∀ r ∈ a.rows, r.l.length ≤ 200) (w : World) (hs : ScpV (Kw w) s) (ha : AsgV (Kw w) a) (hT : Tab w) : Calls Tryz.prog 14 #[.agg (scpC s), .agg (asgL a).toArray] w (Pure (S (textA s.sc a.as)) w) := by
 have hm1 := hs.lats.sl.small
 have hm2 := hs.vars.sl.small
 unfold maxLen at hm1 hm2
 have hm3 := ha.labels.small
 have hm4 := ha.rows.small
 unfold maxLen at hm3 hm4
 refine enter Tryz.func14 rfl Tryz.ntmps14 rfl <| have hH := Hp.start w; SR <| RL.new rfl hH (f := fun b => (.pointer (some ⟨b, 0, none⟩))) (run_box (v := .agg _) rfl) <| fun b3 w1 hH2 => RL.new rfl hH2 (f := fun b => (.pointer (some ⟨b, 0, none⟩))) (run_box (v := .agg _) rfl) <| fun b6 w4 hH5 => va (v := .string ⟨#[]⟩) rfl <| RL.nil <| CW.seq <| SR <| V (run_ldA (cs := scpL _) underlying25 rfl rfl rfl (rangeAt_cells (hH5.blk (i := 1) rfl))) <| V (run_ldA (cs := asgL _) underlying29 rfl rfl rfl (rangeAt_cells (hH5.blk (i := 0) rfl))) <| RL.callP rfl hH5 (c_assign_Right _ _  _ (hs.mono hH5.kw) (ha.mono hH5.kw) (hT.hp hH5)) (run_call2 call9 rfl rfl) <| fun w7 hH8 => V (run_not rfl) <| RL.nil <| CW.cond rfl (fun h11 => ?_) (fun h11 => ?_)
 ·refine SR <| va (v := .string ⟨#[]⟩) rfl <| RL.nil <| CW.ret <| outP1 Tryz.results14 ?_ hH8.below
  exact congrArg S (text_no (nt ‹(!rightA _ _) = true›)).symm
 ·refine CW.skip <| SR <| va (v := .slice none 0 0) rfl <| have hH12 := hH8.nilRow 9 1; RL.nil <| CW.seq <| SR <| V (fA underlying25 1 rfl sizeOf23 rfl) <| V (run_ldV (hs.vars.sl.hp hH12) underlying23 rfl rfl (hH12.cell (i := 2) rfl rfl)) <| V (run_lenSl (hs.vars.sl.hp hH12) rfl underlying23 rfl) <| vm (v := I 0) rfl <| RL.nil <| CW.block <| have hR := nf ‹(!rightA _ _) = false›; have hrl2 := right_len hR; have hvz : szJ (tc 32) (VS s a) ≤ 160003443520 := vars_sz hR hv hvn hrl; have hVl := VS_len (s := s) (a := a); CW.loop (G := Int × (List Tx) × Value) (fun ⟨k, m, v5⟩ s' w' => (Fr (rg 5 4 (rg 16 44 [])) _ s') ∧ (Hp w w' (.row v5 9 1 (m.length) (txL m) :: _)) ∧ (s' 5 = v5) ∧ (s' 16 = I k) ∧ (0 ≤ k) ∧ (k ≤ s.vars.length) ∧ (m = varsT s.sc a.as k)) (fun ⟨k, m, v5⟩ => (s.vars.length - k).toNat) ((0, [], (.slice none 0 0 : Value))) ⟨Fr.refl _ _, hH12, rfl, rfl, (by omega), (by omega), rfl⟩ <| ?_
  rintro ⟨k, m, v5⟩ sg13 w13 ⟨fr13, hH13, e5_13, e16_13, h0, hk, hm⟩
  have e2_13 := fr13.pp 2 rfl rfl
  have e3_13 := fr13.pp 3 rfl rfl
  have e14_13 := (fr13 14 rfl).trans (by conv => lhs; whnf)
  have e15_13 := fr13.ii 15 rfl rfl
  subst hm
  refine SR <| V (run_lss e16_13 e15_13) <| RL.nil <| CW.seq <| CW.condP rfl (fun h15 => ?_) (fun h15 => ?_)
  ·refine CW.skip <| CW.seq <| CW.block <| SR <| vm e16_13 <| V (run_indexAddrS (hs.vars.sl.hp hH13) underlying23 sizeOf47 e14_13 e16_13 (by omega)) <| V (run_ldE (dv := var0) varL_len (hs.vars.sl.hp hH13) underlying47 rfl rfl rfl (by omega)) <| RL.new rfl hH13 (f := fun b => (.pointer (some ⟨b, 0, none⟩))) (run_alloc Tryz.zeroValue47) <| fun b18 w16 hH17 => aI rfl <| RL.set hH17 (i := 0) rfl (run_stW (c' := (varL _).toArray) rfl rfl rfl (by simp [varL, Value.oneCell']) (hH17.blk (i := 0) rfl) rfl) <| fun w19 hH20 => ?_
   simp only [z2] at hH20
   refine RL.nil <| SR <| V (fA underlying25 0 rfl sizeOf22 e2_13) <| V (run_ldV (hs.lats.sl.hp hH20) underlying22 rfl rfl (hH20.cell (i := 3) rfl rfl)) <| V (fA underlying47 2 rfl sizeOf3 rfl) <| V (run_ld underlying3 rfl rfl (hH20.cell (i := 0) rfl (v := I _) rfl)) <| V (run_indexAddrS (hs.lats.sl.hp hH20) underlying22 sizeOf44 rfl rfl (by have hok := ok_lat (right_at hR h0 ‹k < s.vars.length›); omega)) <| V (fA underlying44 1 rfl sizeOf42 rfl) <| V (run_ldEA (dv := lat0) (off := 1) (cs := shpL _) latL_len (hs.lats.sl.hp hH20) underlying42 rfl rfl rfl (by have hok := ok_lat (right_at hR h0 ‹k < s.vars.length›); omega) (lat_shp _)) <| RL.new rfl hH20 (f := fun b => (.pointer (some ⟨b, 0, none⟩))) (run_alloc Tryz.zeroValue42) <| fun b23 w21 hH22 => RL.set hH22 (i := 0) rfl (run_stShp (hs.at (by have hok := ok_lat (right_at hR h0 ‹k < s.vars.length›); omega) (by have hok := ok_lat (right_at hR h0 ‹k < s.vars.length›); omega)) rfl rfl rfl (hH22.blk (i := 0) rfl) rfl) <| fun w24 hH25 => ?_
   simp only [z2] at hH25
   refine RL.nil <| CW.seq <| SR <| V (fA underlying47 1 rfl sizeOf3 rfl) <| V (run_ld underlying3 rfl rfl (hH25.cell (i := 1) rfl (v := I _) rfl)) <| V (run_eql rfl rfl) <| RL.nil <| CW.condP rfl (fun h27 => ?_) (fun h27 => ?_)
   ·refine CW.seq <| CW.regionS (by kernel_rfl) hH25 (sP (sP (sQ sR))) <| fun w28 hH29 => have zh29 := hH29.sub (sP (sP (sQ sR))); AQ 0 rfl zh29 (run_move e5_13) <| AQ 1 rfl zh29 (fA underlying47 0 rfl sizeOf9 rfl) <| AT 2 rfl zh29 (fun w hS => run_ld underlying9 rfl rfl (hS.cell (i := 1) rfl (v := .string _) rfl)) <| AQ 3 rfl zh29 (run_addS rfl rfl (by have hnk := hvn _ (List.mem_of_getElem? (getD_at (d := var0) h0 ‹k < s.vars.length›)); have hss := spell_sz (s.lats.getD (s.vars.getD k.toNat var0).lat.toNat lat0).shp.sh (a.labels.getD k.toNat el0); have hrs := row_sz (s := (s.lats.getD (s.vars.getD k.toNat var0).lat.toNat lat0).shp.sh) (names_at hR h0 ‹k < s.vars.length›) (by have := hrl _ (List.mem_of_getElem? (getD_at (d := vr0) h0 (by omega))); omega); (try simp only [tx_size_app]); (try simp only [tsz1, tsz2]); omega)) <| AT 4 rfl zh29 (fun w hS => run_ldA (cs := [B _, _]) underlying42 rfl rfl rfl (rangeAt_cells (hS.blk (i := 0) rfl))) <| AQ 5 rfl zh29 (fA underlying29 0 rfl sizeOf26 e3_13) <| AT 6 rfl zh29 (fun w hS => run_ldV (ha.labels.sl.hp hS) underlying26 rfl rfl (hS.cell (i := 2) rfl rfl)) <| AQ 7 rfl zh29 (mV (I _) rfl) <| AT 8 rfl zh29 (fun w hS => run_indexAddrS (ha.labels.sl.hp hS) underlying26 sizeOf51 rfl rfl (by omega)) <| AT 9 rfl zh29 (fun w hS => run_ldElS (ha.labels.sl.hp hS) underlying51 rfl rfl rfl (by omega)) <| A1 10 <| AO.callP rfl gnone rfl hH29 (sP (sP (sQ sR))) (c_spell_Text _ _  _ ((hs.at (by have hok := ok_lat (right_at hR h0 ‹k < s.vars.length›); omega) (by have hok := ok_lat (right_at hR h0 ‹k < s.vars.length›); omega)).mono hH29.kw) (hT.hp hH29)) (run_call2 call33 rfl rfl) <| fun w30 hH31 => AQ 11 rfl (hH31.sub (sP (sP (sQ sR)))) (run_addS rfl rfl (by have hnk := hvn _ (List.mem_of_getElem? (getD_at (d := var0) h0 ‹k < s.vars.length›)); have hss := spell_sz (s.lats.getD (s.vars.getD k.toNat var0).lat.toNat lat0).shp.sh (a.labels.getD k.toNat el0); have hrs := row_sz (s := (s.lats.getD (s.vars.getD k.toNat var0).lat.toNat lat0).shp.sh) (names_at hR h0 ‹k < s.vars.length›) (by have := hrl _ (List.mem_of_getElem? (getD_at (d := vr0) h0 (by omega))); omega); (try simp only [tx_size_app]); (try simp only [tsz1, tsz2]); omega)) <| A1 12 <| AO.new rfl gnone rfl hH31 (sP (sP (sQ sR))) (f := fun b => .slice (some ⟨b, 0, none⟩) 1 1) (run_mkL underlying54 rfl rfl (sz := 1) (vs := [.string _]) rfl rfl (by decide) (by decide) rfl rfl) <| fun b34 w32 hH33 => ?_
    (try simp only [clX] at hH33)
    refine A1 13 <| AO.app rfl gnone rfl hH33 (j := 3) rfl (fun _ => (sQ (sP (sP (sQ sR))))) (hH33.slBlk (i := 0) (n := 1) (sz := 1) rfl rfl (by decide)) rfl rfl underlying54 rfl rfl (size := 1) (bytes := 16) rfl rfl rfl (by decide) (by simp [Value.oneCell']) (by have := vars_len (s := s.sc) (a := a.as) h0; omega) (by have := vars_len (s := s.sc) (a := a.as) h0; simp only [maxLen]; omega) <| fun v37 w35 hH36 => ?_
    simp only [z2] at hH36
    refine AQ 14 rfl (hH36.sub (sQ (sP (sP (sQ sR))))) (run_assign (by conv => lhs; whnf)) ?_
    refine AD <| CW.exit (id := 1) rfl <| CW.region <| V (run_add e16_13 rfl (by omega)) <| mI rfl <| RL.nil <| ?_
    refine ⟨(k + 1, varsT s.sc a.as (k + 1), v37), ?_, fr13.u4.u4.u4.u4.u4.u4.u4.u4.u1.u1, (Hp.conv (hH36.sub (sQ (sQ (sQ sR)))) (by rw [vars_1 h0 ‹(s.vars.getD k.toNat var0).kind = 1›]; simp only [txL, List.map_append, List.map_cons, List.map_nil, List.length_append, List.length_singleton]; rfl)), rfl, (congrArg I (by rfl)), ?_, ?_, ?_⟩
    ·((try dsimp only); omega)
    ·omega
    ·omega
    ·rfl
   ·refine CW.skip <| CW.regionS (by kernel_rfl) hH25 (sP (sP (sQ sR))) <| fun w38 hH39 => have zh39 := hH39.sub (sP (sP (sQ sR))); AQ 0 rfl zh39 (run_move e5_13) <| AQ 1 rfl zh39 (fA underlying47 0 rfl sizeOf9 rfl) <| AT 2 rfl zh39 (fun w hS => run_ld underlying9 rfl rfl (hS.cell (i := 1) rfl (v := .string _) rfl)) <| AQ 3 rfl zh39 (run_addS rfl rfl (by have hnk := hvn _ (List.mem_of_getElem? (getD_at (d := var0) h0 ‹k < s.vars.length›)); have hss := spell_sz (s.lats.getD (s.vars.getD k.toNat var0).lat.toNat lat0).shp.sh (a.labels.getD k.toNat el0); have hrs := row_sz (s := (s.lats.getD (s.vars.getD k.toNat var0).lat.toNat lat0).shp.sh) (names_at hR h0 ‹k < s.vars.length›) (by have := hrl _ (List.mem_of_getElem? (getD_at (d := vr0) h0 (by omega))); omega); (try simp only [tx_size_app]); (try simp only [tsz1, tsz2]); omega)) <| AT 4 rfl zh39 (fun w hS => run_ldA (cs := [B _, _]) underlying42 rfl rfl rfl (rangeAt_cells (hS.blk (i := 0) rfl))) <| AQ 5 rfl zh39 (fA underlying29 1 rfl sizeOf27 e3_13) <| AT 6 rfl zh39 (fun w hS => run_ldV (ha.rows.sl.hp hS) underlying27 rfl rfl (hS.cell (i := 2) rfl rfl)) <| AQ 7 rfl zh39 (mV (I _) rfl) <| AT 8 rfl zh39 (fun w hS => run_indexAddrS (ha.rows.sl.hp hS) underlying27 sizeOf48 rfl rfl (by omega)) <| AT 9 rfl zh39 (fun w hS => run_ld underlying48 rfl rfl ((ha.rows.sl.hp hS).cell _ _ (rowsC_at (by omega)))) <| A1 10 <| AO.callP rfl gnone rfl hH39 (sP (sP (sQ sR))) (c_assign_row _ _ _ (names_at hR h0 ‹k < s.vars.length›) (by have := hrl _ (List.mem_of_getElem? (getD_at (d := vr0) h0 (by omega))); omega) _ ((ha.at (by omega) (by omega)).sl.hp hH39) ((hs.at (by have hok := ok_lat (right_at hR h0 ‹k < s.vars.length›); omega) (by have hok := ok_lat (right_at hR h0 ‹k < s.vars.length›); omega)).mono hH39.kw) (hT.hp hH39)) (run_call2 call34 rfl rfl) <| fun w40 hH41 => AQ 11 rfl (hH41.sub (sP (sP (sQ sR)))) (run_addS rfl rfl (by have hnk := hvn _ (List.mem_of_getElem? (getD_at (d := var0) h0 ‹k < s.vars.length›)); have hss := spell_sz (s.lats.getD (s.vars.getD k.toNat var0).lat.toNat lat0).shp.sh (a.labels.getD k.toNat el0); have hrs := row_sz (s := (s.lats.getD (s.vars.getD k.toNat var0).lat.toNat lat0).shp.sh) (names_at hR h0 ‹k < s.vars.length›) (by have := hrl _ (List.mem_of_getElem? (getD_at (d := vr0) h0 (by omega))); omega); (try simp only [tx_size_app]); (try simp only [tsz1, tsz2]); omega)) <| A1 12 <| AO.new rfl gnone rfl hH41 (sP (sP (sQ sR))) (f := fun b => .slice (some ⟨b, 0, none⟩) 1 1) (run_mkL underlying54 rfl rfl (sz := 1) (vs := [.string _]) rfl rfl (by decide) (by decide) rfl rfl) <| fun b44 w42 hH43 => ?_
    (try simp only [clX] at hH43)
    refine A1 13 <| AO.app rfl gnone rfl hH43 (j := 3) rfl (fun _ => (sQ (sP (sP (sQ sR))))) (hH43.slBlk (i := 0) (n := 1) (sz := 1) rfl rfl (by decide)) rfl rfl underlying54 rfl rfl (size := 1) (bytes := 16) rfl rfl rfl (by decide) (by simp [Value.oneCell']) (by have := vars_len (s := s.sc) (a := a.as) h0; omega) (by have := vars_len (s := s.sc) (a := a.as) h0; simp only [maxLen]; omega) <| fun v47 w45 hH46 => ?_
    simp only [z2] at hH46
    refine AQ 14 rfl (hH46.sub (sQ (sP (sP (sQ sR))))) (run_assign (by conv => lhs; whnf)) ?_
    refine AD <| CW.region <| V (run_add e16_13 rfl (by omega)) <| mI rfl <| RL.nil <| ?_
    refine ⟨(k + 1, varsT s.sc a.as (k + 1), v47), ?_, fr13.u4.u4.u4.u4.u4.u4.u4.u4.u1.u1, (Hp.conv (hH46.sub (sQ (sQ (sQ sR)))) (by rw [vars_2 h0 ‹¬ (s.vars.getD k.toNat var0).kind = 1›]; simp only [txL, List.map_append, List.map_cons, List.map_nil, List.length_append, List.length_singleton]; rfl)), rfl, (congrArg I (by rfl)), ?_, ?_, ?_⟩
    ·((try dsimp only); omega)
    ·omega
    ·omega
    ·rfl
  ·refine CW.exit (id := 0) rfl <| SR <| vm e5_13 <| RL.callP rfl hH13 (c_name_Join _ (varsT s.sc a.as k) (tc 32) (by rw [show k = s.vars.length by omega]; exact Nat.le_trans hvz (by decide)) _ (hH13.sl (i := 0) rfl)) (run_call2 call35 rfl (show _ = Value.string ⟨#[32]⟩ from rfl)) <| fun w48 hH49 => va (v := .string _) rfl <| RL.nil <| CW.ret <| outP1 Tryz.results14 ?_ hH49.below
   exact congrArg S (by rw [text_yes hR, show (s.vars.length : Int) = k by omega])
theorem c_assign_both (K : Vu) (v u : Value) (l m : List ValR) (hl : l.length ≤ 1000) (w : World) (hK : Le K (Kw w)) (hs : Sl w v 9 l.length (l.flatMap valL)) (ht : Sl w u 9 m.length (m.flatMap valL)) : Calls Tryz.prog 46 #[v, u] w (PureF K (fun K' u => SlV K' u 9 (bothF l m).length ((bothF l m).flatMap valL)) w) := by
 have hm := hs.small
 unfold maxLen at hm
 have hm2 := ht.small
 unfold maxLen at hm2
 refine enter Tryz.func46 rfl Tryz.ntmps46 rfl <| have hH := Hp.start w; SR <| va (v := .slice none 0 0) rfl <| RL.nil <| SR <| va (v := .slice none 0 0) rfl <| have hH1 := hH.nilRow 53 9; RL.nil <| CW.seq <| SR <| ?_
 refine V (run_move (by conv => lhs; whnf)) ?_
 refine V (run_lenSl (hs.hp hH1) rfl underlying48 rfl) <| vm (v := I 0) rfl <| RL.nil <| CW.block <| CW.loop (G := Int × (List ValR) × Value) (fun ⟨k, m2, v5⟩ s' w' => (Fr (5 :: (rg 7 3 (rg 12 23 []))) _ s') ∧ (Hp w w' (.row v5 53 9 (m2.length) (m2.flatMap valL) :: _)) ∧ (s' 5 = v5) ∧ (s' 12 = I k) ∧ (0 ≤ k) ∧ (k ≤ l.length) ∧ (m2 = bothF (l.take k.toNat) m) ∧ ((m2.length : Int) ≤ k)) (fun ⟨k, m2, v5⟩ => (l.length - k).toNat) ((0, [], (.slice none 0 0 : Value))) ⟨Fr.refl _ _, hH1, rfl, rfl, (by omega), (by omega), rfl, (by simp)⟩ <| ?_
 rintro ⟨k, m2, v5⟩ sg2 w2 ⟨fr2, hH2, e5_2, e12_2, h0, hk, hm2, hml⟩
 have e1_2 := (fr2 1 rfl).trans (by conv => lhs; whnf)
 have e10_2 := (fr2 10 rfl).trans (by conv => lhs; whnf)
 have e11_2 := fr2.ii 11 rfl rfl
 refine SR <| V (run_lss e12_2 e11_2) <| RL.nil <| CW.seq <| CW.condP rfl (fun h4 => ?_) (fun h4 => ?_)
 ·refine CW.skip <| CW.seq <| CW.block <| SR <| V (run_indexAddrS (hs.hp hH2) underlying48 sizeOf53 e10_2 e12_2 (by omega)) <| V (run_ldE (dv := val0) valL_len (hs.hp hH2) underlying53 rfl rfl rfl (by omega)) <| RL.new rfl hH2 (f := fun b => (.pointer (some ⟨b, 0, none⟩))) (run_alloc zero_val) <| fun b7 w5 hH6 => RL.set hH6 (i := 0) rfl (run_stW (c' := (valL _).toArray) rfl rfl rfl (valL_one _) (hH6.blk (i := 0) rfl) rfl) <| fun w8 hH9 => ?_
  simp only [z2] at hH9
  refine RL.nil <| SR <| vm e1_2 <| V (fA underlying53 0 rfl sizeOf9 rfl) <| V (run_ld underlying9 rfl rfl (hH9.cell (i := 0) rfl (v := .string _) rfl)) <| RL.callP rfl hH9 (c_assign_Get _ _ _  _ (ht.hp hH9)) (run_call2 call69 rfl rfl) <| fun w10 hH11 => ?_
  refine V (run_move (by conv => lhs; whnf)) ?_
  refine V (run_extract rfl (v := .agg _) rfl) <| V (run_extract rfl (v := B _) rfl) <| RL.new rfl hH11 (f := fun b => (.pointer (some ⟨b, 0, none⟩))) (run_alloc zero_el) <| fun b15 w13 hH14 => RL.set hH14 (i := 0) rfl (run_stEl rfl rfl rfl (hH14.blk (i := 0) rfl)) <| fun w16 hH17 => ?_
  simp only [z2] at hH17
  refine aB rfl <| RL.nil <| SR <| mB rfl <| RL.nil <| CW.cond rfl (fun h18 => ?_) (fun h18 => ?_)
  ·refine CW.regionS (by kernel_rfl) hH17 (sP (sP (sQ sR))) <| fun w19 hH20 => have zh20 := hH20.sub (sP (sP (sQ sR))); AQ 0 rfl zh20 (run_move e5_2) <| AQ 1 rfl zh20 (fA underlying53 0 rfl sizeOf9 rfl) <| AT 2 rfl zh20 (fun w hS => run_ld underlying9 rfl rfl (hS.cell (i := 1) rfl (v := .string _) rfl)) <| AQ 3 rfl zh20 (fA underlying53 1 rfl sizeOf51 rfl) <| AT 4 rfl zh20 (fun w hS => run_ldVB underlying51 rfl rfl rfl (hS.blk (i := 1) rfl)) <| AT 5 rfl zh20 (fun w hS => run_ldEl underlying51 rfl rfl rfl (hS.blk (i := 0) rfl)) <| A1 6 <| AO.callP rfl gnone rfl hH20 (sP (sP (sQ sR))) (c_shape_Meet _ _  _) (run_call2 call45 rfl rfl) <| fun w21 hH22 => AQ 7 rfl (hH22.sub (sP (sP (sQ sR)))) (run_bld (vs := [(0, S _), (1, .agg (elC _))]) rfl (built_val _ _)) <| A1 8 <| AO.new rfl gnone rfl hH22 (sP (sP (sQ sR))) (f := fun b => .slice (some ⟨b, 0, none⟩) 1 1) (run_mkRecs valL_len underlying48 rfl rfl rfl (l := [_]) rfl (by decide) (by decide) rfl) <| fun b25 w23 hH24 => A1 9 <| AO.app rfl gnone rfl hH24 (j := 3) rfl (fun _ => (sQ (sP (sP (sQ sR))))) (Hp.slFlat valL_len hH24 (i := 0) (l := [_]) rfl (by simp [maxLen])) rfl rfl underlying48 rfl rfl (size := 9) (bytes := 80) rfl rfl rfl (by decide) (vals_one _) (by simp only [List.length_cons, List.length_nil]; omega) (by simp only [maxLen, List.length_cons, List.length_nil]; omega) <| fun v28 w26 hH27 => ?_
   simp only [z2] at hH27
   refine AQ 10 rfl (hH27.sub (sQ (sP (sP (sQ sR))))) (run_assign (by conv => lhs; whnf)) ?_
   refine AD <| CW.region <| V (run_add e12_2 rfl (by omega)) <| mI rfl <| RL.nil <| ?_
   refine ⟨(k + 1, m2 ++ [⟨(l.getD k.toNat val0).name, meetE (l.getD k.toNat val0).el (getF m (l.getD k.toNat val0).name).1⟩], v28), ?_, fr2.u4.u4.u4.u4.u4.u4.u1.u1.u1, (Hp.conv (hH27.sub (sQ (sQ (sQ sR)))) (by simp)), rfl, (congrArg I (by rfl)), ?_, ?_, ?_, ?_⟩
   ·((try dsimp only); omega)
   ·omega
   ·omega
   ·(rw [hm2]; exact both_one h0 ‹k < _› ‹(getF _ _).2 = true›)
   ·(simp only [List.length_append, List.length_singleton]; omega)
  ·refine CW.skip <| CW.region <| V (run_add e12_2 rfl (by omega)) <| mI rfl <| RL.nil <| ?_
   refine ⟨(k + 1, m2, v5), ?_, fr2.u4.u4.u4.u4, (Hp.conv (hH17.sub (sQ (sQ sR))) (by rfl)), e5_2, (congrArg I (by rfl)), ?_, ?_, ?_, ?_⟩
   ·((try dsimp only); omega)
   ·omega
   ·omega
   ·(rw [hm2]; exact both_not h0 ‹k < _› ‹(getF _ _).2 = false›)
   ·omega
 ·refine CW.exit (id := 0) rfl <| SR <| vm e5_2 <| ?_
  refine V (run_assign (by conv => lhs; whnf)) ?_
  refine RL.nil <| CW.ret <| ?_
  obtain ⟨Z29, hz30, hv31, -⟩ := hH2.frz (K)
  have hH32 : Hp _ w2 (Z29) := hz30.zin0 (L := [])
  refine out1 Tryz.results46 (v := v5) rfl ⟨Z29, (hH32.sub sR), ?_⟩
  rw [← both_all ‹¬ k < _›, ← hm2]; exact hv31
theorem c_assign_Meet (K : Vu) (a b : Asg) (hrl : ∀ r ∈ a.rows, r.l.length ≤ 1000) (hla : a.labels.length ≤ 1000) (hlr : a.rows.length ≤ 1000) (w : World) (hK : Le K (Kw w)) (ha : AsgV K a) (hb : AsgV K b) : Calls Tryz.prog 19 #[.agg (asgL a).toArray, .agg (asgL b).toArray] w (PureF K (fun K' u => ∃ m : Asg, u = .agg (asgL m).toArray ∧ m.as = meetA a.as b.as ∧ AsgV K' m) w) := by
 have hm1 := ha.labels.small
 have hm2 := ha.rows.small
 have hm3 := hb.labels.small
 have hm4 := hb.rows.small
 unfold maxLen at hm1 hm2 hm3 hm4
 refine enter Tryz.func19 rfl Tryz.ntmps19 rfl <| have hH := Hp.start w; SR <| RL.new rfl hH (f := fun b => (.pointer (some ⟨b, 0, none⟩))) (run_box (v := .agg _) rfl) <| fun b3 w1 hH2 => RL.new rfl hH2 (f := fun b => (.pointer (some ⟨b, 0, none⟩))) (run_box (v := .agg _) rfl) <| fun b6 w4 hH5 => RL.new rfl hH5 (f := fun b => (.pointer (some ⟨b, 0, none⟩))) (run_alloc zero_asg) <| fun b9 w7 hH8 => RL.nil <| SR <| RL.new rfl hH8 (f := fun b => .pointer (some ⟨b, 0, none⟩)) (run_alloc zero_asg) <| fun b12 w10 hH11 => have hH13 := hH11.nilRow 51 8; have hH14 := hH13.nilRow 48 1; RL.nil <| CW.seq <| SR <| V (fA underlying29 0 rfl sizeOf26 rfl) <| V (run_ldV ((ha.mono hK).labels.sl.hp hH14) underlying26 rfl rfl (hH14.cell (i := 5) rfl rfl)) <| V (run_lenSl ((ha.mono hK).labels.sl.hp hH14) rfl underlying26 rfl) <| V (fA underlying29 0 rfl sizeOf26 rfl) <| V (run_ldV ((hb.mono hK).labels.sl.hp hH14) underlying26 rfl rfl (hH14.cell (i := 4) rfl rfl)) <| V (run_lenSl ((hb.mono hK).labels.sl.hp hH14) rfl underlying26 rfl) <| V (run_minI rfl rfl) <| vm (v := I 0) rfl <| RL.nil <| CW.block <| CW.loop (G := Int × Value × (List El)) (fun ⟨k, v0, ls⟩ s' w' => (Fr (6 :: (rg 15 20 [])) _ s') ∧ (Hp w w' (_ :: .row v0 51 8 (ls.length) (ls.flatMap elL) :: .blk b12 (.cells (#[v0, .slice none 0 0]) 29 (0, 0)) :: _)) ∧ (s' 15 = I k) ∧ (0 ≤ k) ∧ (k ≤ a.labels.length) ∧ (ls = ((a.labels.zip b.labels).take k.toNat).map fun p => meetE p.1 p.2) ∧ ((ls.length : Int) = k)) (fun ⟨k, v0, ls⟩ => (a.labels.length - k).toNat) ((0, (.slice none 0 0 : Value), [])) ⟨Fr.refl _ _, hH14, rfl, (by omega), (by omega), rfl, rfl⟩ <| ?_
 rintro ⟨k, v0, ls⟩ sg15 w15 ⟨fr15, hH15, e15_15, h0, hk, hm, hl⟩
 have e2_15 := fr15.pp 2 rfl rfl
 have e3_15 := fr15.pp 3 rfl rfl
 have e4_15 := fr15.pp 4 rfl rfl
 have e5_15 := fr15.pp 5 rfl rfl
 have e14_15 := fr15.ii 14 rfl rfl
 refine SR <| V (run_lss e15_15 e14_15) <| RL.nil <| CW.seq <| CW.condP rfl (fun h17 => ?_) (fun h17 => ?_)
 ·refine CW.skip <| CW.seq <| CW.block <| SR <| vm e15_15 <| aI rfl <| RL.nil <| CW.regionS (by kernel_rfl) hH15 (sP (sQ (sQ sR))) <| fun w18 hH19 => have zh19 := hH19.sub (sP (sQ (sQ sR))); AQ 0 rfl zh19 (fA underlying29 0 rfl sizeOf26 e5_15) <| AQ 2 rfl zh19 (fA underlying29 0 rfl sizeOf26 e2_15) <| AT 3 rfl zh19 (fun w hS => run_ldV ((ha.mono hK).labels.sl.hp hS) underlying26 rfl rfl (hS.cell (i := 3) rfl rfl)) <| AQ 4 rfl zh19 (mV (I _) rfl) <| AT 5 rfl zh19 (fun w hS => run_indexAddrS ((ha.mono hK).labels.sl.hp hS) underlying26 sizeOf51 rfl rfl (by omega)) <| AT 6 rfl zh19 (fun w hS => run_ldElS ((ha.mono hK).labels.sl.hp hS) underlying51 rfl rfl rfl (by omega)) <| AQ 7 rfl zh19 (fA underlying29 0 rfl sizeOf26 e3_15) <| AT 8 rfl zh19 (fun w hS => run_ldV ((hb.mono hK).labels.sl.hp hS) underlying26 rfl rfl (hS.cell (i := 2) rfl rfl)) <| AQ 9 rfl zh19 (mV (I _) rfl) <| AT 10 rfl zh19 (fun w hS => run_indexAddrS ((hb.mono hK).labels.sl.hp hS) underlying26 sizeOf51 rfl rfl (by omega)) <| AT 11 rfl zh19 (fun w hS => run_ldElS ((hb.mono hK).labels.sl.hp hS) underlying51 rfl rfl rfl (by omega)) <| AN.two 1 12 (by kernel_rfl) ?_ ?_
  ·refine AO.read rfl gnone rfl hH19 (sP (sQ (sQ sR))) (run_ld underlying26 rfl rfl (hH19.cell (i := 2) rfl rfl)) <| A1 12 <| AO.callP rfl gnone rfl hH19 (sP (sQ (sQ sR))) (c_shape_Meet _ _  _) (run_call2 call45 rfl rfl) <| fun w22 hH23 => A1 13 <| AO.new rfl gnone rfl hH23 (sP (sQ (sQ sR))) (f := fun b => .slice (some ⟨b, 0, none⟩) 1 1) (run_mkEl1 underlying26 rfl rfl rfl rfl) <| fun b26 w24 hH25 => ?_
   (try simp only [clX] at hH25)
   refine A1 14 <| AO.app rfl gnone rfl hH25 (j := 2) rfl (fun _ => (sQ (sP (sQ (sQ sR))))) (Hp.slFlat elL_len hH25 (i := 0) (l := [_]) rfl (by simp [maxLen])) rfl rfl underlying26 rfl rfl (size := 8) (bytes := 64) rfl rfl rfl (by decide) (els_one _) (by show (ls.length + 1) * _ ≤ _; omega) (by show ls.length + 1 ≤ _; simp only [maxLen]; omega) <| fun v29 w27 hH28 => ?_
   simp only [z2] at hH28
   refine AQ 15 rfl (hH28.sub (sQ (sP (sQ (sQ sR))))) (fA underlying29 0 rfl sizeOf26 e5_15) <| A1 16 <| AO.set rfl gnone hH28 (j := 3) rfl (sQ (sP (sQ (sQ sR)))) (run_st rfl rfl (v := v29) rfl (row_cells (hH28.get (i := 2) rfl)).1 (row_cells (hH28.get (i := 2) rfl)).2 (hH28.blk (i := 3) rfl) (by show 0 < 2; decide)) <| fun w32 hH33 => ?_
   simp only [z2] at hH33
   refine AD <| CW.region <| V (run_add e15_15 rfl (by omega)) <| mI rfl <| RL.nil <| ?_
   refine ⟨(k + 1, v29, (ls ++ [meetE (a.labels.getD k.toNat el0) (b.labels.getD k.toNat el0)])), ?_, fr15.u4.u4.u4.u4.u4.u1, (Hp.conv (hH33.sub (sQ sR)) (by simp; done)), (congrArg I (by rfl)), ?_, ?_, ?_, ?_⟩
   ·((try dsimp only); omega)
   ·omega
   ·omega
   ·rw [hm]; exact labels_next (a := a.as) (b := b.as) h0 (show k < a.labels.length by omega) (show k < b.labels.length by omega)
   ·simp only [List.length_append, List.length_singleton]; omega
  ·refine AO.callP rfl gnone rfl hH19 (sP (sQ (sQ sR))) (c_shape_Meet _ _  _) (run_call2 call45 rfl rfl) <| fun w34 hH35 => AN.two 1 13 (by kernel_rfl) ?_ ?_
   ·refine AO.read rfl gnone rfl hH35 (sP (sQ (sQ sR))) (run_ld underlying26 rfl rfl (hH35.cell (i := 2) rfl rfl)) <| A1 13 <| AO.new rfl gnone rfl hH35 (sP (sQ (sQ sR))) (f := fun b => .slice (some ⟨b, 0, none⟩) 1 1) (run_mkEl1 underlying26 rfl rfl rfl rfl) <| fun b40 w38 hH39 => ?_
    (try simp only [clX] at hH39)
    refine A1 14 <| AO.app rfl gnone rfl hH39 (j := 2) rfl (fun _ => (sQ (sP (sQ (sQ sR))))) (Hp.slFlat elL_len hH39 (i := 0) (l := [_]) rfl (by simp [maxLen])) rfl rfl underlying26 rfl rfl (size := 8) (bytes := 64) rfl rfl rfl (by decide) (els_one _) (by show (ls.length + 1) * _ ≤ _; omega) (by show ls.length + 1 ≤ _; simp only [maxLen]; omega) <| fun v43 w41 hH42 => ?_
    simp only [z2] at hH42
    refine AQ 15 rfl (hH42.sub (sQ (sP (sQ (sQ sR))))) (fA underlying29 0 rfl sizeOf26 e5_15) <| A1 16 <| AO.set rfl gnone hH42 (j := 3) rfl (sQ (sP (sQ (sQ sR)))) (run_st rfl rfl (v := v43) rfl (row_cells (hH42.get (i := 2) rfl)).1 (row_cells (hH42.get (i := 2) rfl)).2 (hH42.blk (i := 3) rfl) (by show 0 < 2; decide)) <| fun w46 hH47 => ?_
    simp only [z2] at hH47
    refine AD <| CW.region <| V (run_add e15_15 rfl (by omega)) <| mI rfl <| RL.nil <| ?_
    refine ⟨(k + 1, v43, (ls ++ [meetE (a.labels.getD k.toNat el0) (b.labels.getD k.toNat el0)])), ?_, fr15.u4.u4.u4.u4.u4.u1, (Hp.conv (hH47.sub (sQ sR)) (by simp; done)), (congrArg I (by rfl)), ?_, ?_, ?_, ?_⟩
    ·((try dsimp only); omega)
    ·omega
    ·omega
    ·rw [hm]; exact labels_next (a := a.as) (b := b.as) h0 (show k < a.labels.length by omega) (show k < b.labels.length by omega)
    ·simp only [List.length_append, List.length_singleton]; omega
   ·refine AO.new rfl gnone rfl hH35 (sP (sQ (sQ sR))) (f := fun b => .slice (some ⟨b, 0, none⟩) 1 1) (run_mkEl1 underlying26 rfl rfl rfl rfl) <| fun b50 w48 hH49 => ?_
    (try simp only [clX] at hH49)
    refine A1 1 <| AO.read rfl gnone rfl hH49 (sQ (sP (sQ (sQ sR)))) (run_ld underlying26 rfl rfl (hH49.cell (i := 3) rfl rfl)) <| A1 14 <| AO.app rfl gnone rfl hH49 (j := 2) rfl (fun _ => (sQ (sP (sQ (sQ sR))))) (Hp.slFlat elL_len hH49 (i := 0) (l := [_]) rfl (by simp [maxLen])) rfl rfl underlying26 rfl rfl (size := 8) (bytes := 64) rfl rfl rfl (by decide) (els_one _) (by show (ls.length + 1) * _ ≤ _; omega) (by show ls.length + 1 ≤ _; simp only [maxLen]; omega) <| fun v55 w53 hH54 => ?_
    simp only [z2] at hH54
    refine AQ 15 rfl (hH54.sub (sQ (sP (sQ (sQ sR))))) (fA underlying29 0 rfl sizeOf26 e5_15) <| A1 16 <| AO.set rfl gnone hH54 (j := 3) rfl (sQ (sP (sQ (sQ sR)))) (run_st rfl rfl (v := v55) rfl (row_cells (hH54.get (i := 2) rfl)).1 (row_cells (hH54.get (i := 2) rfl)).2 (hH54.blk (i := 3) rfl) (by show 0 < 2; decide)) <| fun w58 hH59 => ?_
    simp only [z2] at hH59
    refine AD <| CW.region <| V (run_add e15_15 rfl (by omega)) <| mI rfl <| RL.nil <| ?_
    refine ⟨(k + 1, v55, (ls ++ [meetE (a.labels.getD k.toNat el0) (b.labels.getD k.toNat el0)])), ?_, fr15.u4.u4.u4.u4.u4.u1, (Hp.conv (hH59.sub (sQ sR)) (by simp; done)), (congrArg I (by rfl)), ?_, ?_, ?_, ?_⟩
    ·((try dsimp only); omega)
    ·omega
    ·omega
    ·rw [hm]; exact labels_next (a := a.as) (b := b.as) h0 (show k < a.labels.length by omega) (show k < b.labels.length by omega)
    ·simp only [List.length_append, List.length_singleton]; omega
 ·refine CW.exit (id := 0) rfl <| CW.seq <| SR <| V (fA underlying29 1 rfl sizeOf27 e2_15) <| V (run_ldV ((ha.mono hK).rows.sl.hp hH15) underlying27 rfl rfl (hH15.cell (i := 5) rfl rfl)) <| V (run_lenSl ((ha.mono hK).rows.sl.hp hH15) rfl underlying27 rfl) <| V (fA underlying29 1 rfl sizeOf27 e3_15) <| V (run_ldV ((hb.mono hK).rows.sl.hp hH15) underlying27 rfl rfl (hH15.cell (i := 4) rfl rfl)) <| V (run_lenSl ((hb.mono hK).rows.sl.hp hH15) rfl underlying27 rfl) <| V (run_minI rfl rfl) <| vm (v := I 0) rfl <| RL.nil <| CW.block <| CW.loop (G := Int × Value × (List VrR) × (List Ent)) (fun ⟨j, v1, gr, Z⟩ s' w' => (Fr (7 :: (rg 42 20 [])) _ s') ∧ (Hp w w' (.row v1 48 1 (gr.length) (rowsC gr) :: _ :: .blk b12 (.cells (#[v0, v1]) 29 (0, 0)) :: _ :: _ :: _ :: Z)) ∧ (s' 42 = I j) ∧ (0 ≤ j) ∧ (j ≤ a.rows.length) ∧ (gr.map VrR.l = ((a.as.rows.zip b.as.rows).take j.toNat).map fun p => bothF p.1 p.2) ∧ (RowsV (Kz K Z) gr) ∧ ((gr.length : Int) = j)) (fun ⟨j, v1, gr, Z⟩ => (a.rows.length - j).toNat) ((0, (.slice none 0 0 : Value), [], [])) ⟨Fr.refl _ _, hH15, rfl, (by omega), (by omega), rfl, RowsV.nil _, rfl⟩ <| ?_
  rintro ⟨j, v1, gr, Z⟩ sg60 w60 ⟨fr60, hH60, e42_60, j0, jk, hmr, hr, hgl⟩
  have e2_60 := (fr60 2 rfl).trans e2_15
  have e3_60 := (fr60 3 rfl).trans e3_15
  have e4_60 := (fr60 4 rfl).trans e4_15
  have e5_60 := (fr60 5 rfl).trans e5_15
  have e41_60 := fr60.ii 41 rfl rfl
  refine SR <| V (run_lss e42_60 e41_60) <| RL.nil <| CW.seq <| CW.condP rfl (fun h62 => ?_) (fun h62 => ?_)
  ·refine CW.skip <| CW.seq <| CW.block <| SR <| vm e42_60 <| aI rfl <| RL.nil <| CW.regionS (by kernel_rfl) hH60 (sQ (sP (sQ sR))) <| fun w63 hH64 => have zh64 := hH64.sub (sQ (sP (sQ sR))); AQ 0 rfl zh64 (fA underlying29 1 rfl sizeOf27 e5_60) <| AQ 2 rfl zh64 (fA underlying29 1 rfl sizeOf27 e2_60) <| AT 3 rfl zh64 (fun w hS => run_ldV ((ha.mono hK).rows.sl.hp hS) underlying27 rfl rfl (hS.cell (i := 3) rfl rfl)) <| AQ 4 rfl zh64 (mV (I _) rfl) <| AT 5 rfl zh64 (fun w hS => run_indexAddrS ((ha.mono hK).rows.sl.hp hS) underlying27 sizeOf48 rfl rfl (by omega)) <| AT 6 rfl zh64 (fun w hS => run_ld underlying48 rfl rfl (((ha.mono hK).rows.sl.hp hS).cell _ _ (rowsC_at (by omega)))) <| AQ 7 rfl zh64 (fA underlying29 1 rfl sizeOf27 e3_60) <| AT 8 rfl zh64 (fun w hS => run_ldV ((hb.mono hK).rows.sl.hp hS) underlying27 rfl rfl (hS.cell (i := 2) rfl rfl)) <| AQ 9 rfl zh64 (mV (I _) rfl) <| AT 10 rfl zh64 (fun w hS => run_indexAddrS ((hb.mono hK).rows.sl.hp hS) underlying27 sizeOf48 rfl rfl (by omega)) <| AT 11 rfl zh64 (fun w hS => run_ld underlying48 rfl rfl (((hb.mono hK).rows.sl.hp hS).cell _ _ (rowsC_at (by omega)))) <| AN.two 1 12 (by kernel_rfl) ?_ ?_
   ·refine AO.read rfl gnone rfl hH64 (sQ (sP (sQ sR))) (run_ld underlying27 rfl rfl (hH64.cell (i := 2) rfl rfl)) <| A1 12 <| AO.callF rfl gnone rfl hH64 (sQ (sP (sQ sR))) (c_assign_both K _ _ _ _ (by have := hrl _ (List.mem_of_getElem? (getD_at (d := vr0) j0 (by omega))); omega) _ (hK.trans hH64.kw) (((ha.mono hK).at (by omega) (by omega)).sl.hp hH64) (((hb.mono hK).at (by omega) (by omega)).sl.hp hH64)) (run_call2 call46 rfl rfl) <| fun v69 w70 Z72 hH71 hp73 => have hH74 : Hp _ w70 (_ :: _ :: _ :: _ :: _ :: _ :: (Z72 ++ Z)) := hH71.zin (L := [_, _, _, _, _, _]) (L' := Z); have hv75 := hp73; A1 13 <| AO.new rfl gnone rfl hH74 (sQ (sP (sQ (sP (sP (sP (sA sR))))))) (f := fun b => .slice (some ⟨b, 0, none⟩) 1 1) (run_mkSl1 (v := v69) (one_slv hv75).2 underlying27 rfl rfl rfl rfl) <| fun b78 w76 hH77 => ?_
    (try simp only [clX] at hH77)
    refine A1 14 <| AO.app rfl gnone rfl hH77 (j := 1) rfl (fun _ => (sQ (sQ (sP (sQ (sP (sP (sP (sA sR))))))))) (hH77.slBlk (i := 0) (n := 1) (sz := 1) rfl rfl (by decide)) rfl rfl underlying27 rfl rfl (size := 1) (bytes := 24) rfl rfl rfl (by decide) (one_one (one_slv hv75).1) (by show (gr.length + 1) * _ ≤ _; omega) (by show gr.length + 1 ≤ _; simp only [maxLen]; omega) <| fun v81 w79 hH80 => ?_
    simp only [z2] at hH80
    refine AQ 15 rfl (hH80.sub (sQ (sQ (sP (sQ (sP (sP (sP (sA sR))))))))) (fA underlying29 1 rfl sizeOf27 e5_60) <| A1 16 <| AO.set rfl gnone hH80 (j := 3) rfl (sQ (sQ (sP (sQ (sP (sP (sP (sA sR)))))))) (run_st rfl rfl (v := v81) rfl (row_cells (hH80.get (i := 1) rfl)).1 (row_cells (hH80.get (i := 1) rfl)).2 (hH80.blk (i := 3) rfl) (by show 1 < 2; decide)) <| fun w84 hH85 => ?_
    simp only [z2] at hH85
    refine AD <| CW.region <| V (run_add e42_60 rfl (by omega)) <| mI rfl <| RL.nil <| ?_
    refine ⟨(j + 1, v81, (gr ++ [(⟨v69, bothF (a.rows.getD j.toNat vr0).l (b.rows.getD j.toNat vr0).l⟩ : VrR)]), (Z72 ++ Z)), ?_, fr60.u4.u4.u4.u4.u4.u1, (Hp.conv (hH85.sub (sQ sR)) (by simp; done)), (congrArg I (by rfl)), ?_, ?_, ?_, ?_, ?_⟩
    ·((try dsimp only); omega)
    ·omega
    ·omega
    ·rw [List.map_append, hmr]; exact mrows_next j0 (by omega) (by omega)
    ·exact (hr.mono (Le.zz fun y hy => List.mem_append_right _ hy)).snoc (hv75.mono (Le.zz fun y hy => List.mem_append_left _ hy))
    ·simp only [List.length_append, List.length_singleton]; omega
   ·refine AO.callF rfl gnone rfl hH64 (sQ (sP (sQ sR))) (c_assign_both K _ _ _ _ (by have := hrl _ (List.mem_of_getElem? (getD_at (d := vr0) j0 (by omega))); omega) _ (hK.trans hH64.kw) (((ha.mono hK).at (by omega) (by omega)).sl.hp hH64) (((hb.mono hK).at (by omega) (by omega)).sl.hp hH64)) (run_call2 call46 rfl rfl) <| fun v88 w89 Z91 hH90 hp92 => have hH93 : Hp _ w89 (_ :: _ :: _ :: _ :: _ :: _ :: (Z91 ++ Z)) := hH90.zin (L := [_, _, _, _, _, _]) (L' := Z); have hv94 := hp92; AN.two 1 13 (by kernel_rfl) ?_ ?_
    ·refine AO.read rfl gnone rfl hH93 (sQ (sP (sQ (sP (sP (sP (sA sR))))))) (run_ld underlying27 rfl rfl (hH93.cell (i := 2) rfl rfl)) <| A1 13 <| AO.new rfl gnone rfl hH93 (sQ (sP (sQ (sP (sP (sP (sA sR))))))) (f := fun b => .slice (some ⟨b, 0, none⟩) 1 1) (run_mkSl1 (v := v88) (one_slv hv94).2 underlying27 rfl rfl rfl rfl) <| fun b99 w97 hH98 => ?_
     (try simp only [clX] at hH98)
     refine A1 14 <| AO.app rfl gnone rfl hH98 (j := 1) rfl (fun _ => (sQ (sQ (sP (sQ (sP (sP (sP (sA sR))))))))) (hH98.slBlk (i := 0) (n := 1) (sz := 1) rfl rfl (by decide)) rfl rfl underlying27 rfl rfl (size := 1) (bytes := 24) rfl rfl rfl (by decide) (one_one (one_slv hv94).1) (by show (gr.length + 1) * _ ≤ _; omega) (by show gr.length + 1 ≤ _; simp only [maxLen]; omega) <| fun v102 w100 hH101 => ?_
     simp only [z2] at hH101
     refine AQ 15 rfl (hH101.sub (sQ (sQ (sP (sQ (sP (sP (sP (sA sR))))))))) (fA underlying29 1 rfl sizeOf27 e5_60) <| A1 16 <| AO.set rfl gnone hH101 (j := 3) rfl (sQ (sQ (sP (sQ (sP (sP (sP (sA sR)))))))) (run_st rfl rfl (v := v102) rfl (row_cells (hH101.get (i := 1) rfl)).1 (row_cells (hH101.get (i := 1) rfl)).2 (hH101.blk (i := 3) rfl) (by show 1 < 2; decide)) <| fun w105 hH106 => ?_
     simp only [z2] at hH106
     refine AD <| CW.region <| V (run_add e42_60 rfl (by omega)) <| mI rfl <| RL.nil <| ?_
     refine ⟨(j + 1, v102, (gr ++ [(⟨v88, bothF (a.rows.getD j.toNat vr0).l (b.rows.getD j.toNat vr0).l⟩ : VrR)]), (Z91 ++ Z)), ?_, fr60.u4.u4.u4.u4.u4.u1, (Hp.conv (hH106.sub (sQ sR)) (by simp; done)), (congrArg I (by rfl)), ?_, ?_, ?_, ?_, ?_⟩
     ·((try dsimp only); omega)
     ·omega
     ·omega
     ·rw [List.map_append, hmr]; exact mrows_next j0 (by omega) (by omega)
     ·exact (hr.mono (Le.zz fun y hy => List.mem_append_right _ hy)).snoc (hv94.mono (Le.zz fun y hy => List.mem_append_left _ hy))
     ·simp only [List.length_append, List.length_singleton]; omega
    ·refine AO.new rfl gnone rfl hH93 (sQ (sP (sQ (sP (sP (sP (sA sR))))))) (f := fun b => .slice (some ⟨b, 0, none⟩) 1 1) (run_mkSl1 (v := v88) (one_slv hv94).2 underlying27 rfl rfl rfl rfl) <| fun b109 w107 hH108 => ?_
     (try simp only [clX] at hH108)
     refine A1 1 <| AO.read rfl gnone rfl hH108 (sQ (sQ (sP (sQ (sP (sP (sP (sA sR)))))))) (run_ld underlying27 rfl rfl (hH108.cell (i := 3) rfl rfl)) <| A1 14 <| AO.app rfl gnone rfl hH108 (j := 1) rfl (fun _ => (sQ (sQ (sP (sQ (sP (sP (sP (sA sR))))))))) (hH108.slBlk (i := 0) (n := 1) (sz := 1) rfl rfl (by decide)) rfl rfl underlying27 rfl rfl (size := 1) (bytes := 24) rfl rfl rfl (by decide) (one_one (one_slv hv94).1) (by show (gr.length + 1) * _ ≤ _; omega) (by show gr.length + 1 ≤ _; simp only [maxLen]; omega) <| fun v114 w112 hH113 => ?_
     simp only [z2] at hH113
     refine AQ 15 rfl (hH113.sub (sQ (sQ (sP (sQ (sP (sP (sP (sA sR))))))))) (fA underlying29 1 rfl sizeOf27 e5_60) <| A1 16 <| AO.set rfl gnone hH113 (j := 3) rfl (sQ (sQ (sP (sQ (sP (sP (sP (sA sR)))))))) (run_st rfl rfl (v := v114) rfl (row_cells (hH113.get (i := 1) rfl)).1 (row_cells (hH113.get (i := 1) rfl)).2 (hH113.blk (i := 3) rfl) (by show 1 < 2; decide)) <| fun w117 hH118 => ?_
     simp only [z2] at hH118
     refine AD <| CW.region <| V (run_add e42_60 rfl (by omega)) <| mI rfl <| RL.nil <| ?_
     refine ⟨(j + 1, v114, (gr ++ [(⟨v88, bothF (a.rows.getD j.toNat vr0).l (b.rows.getD j.toNat vr0).l⟩ : VrR)]), (Z91 ++ Z)), ?_, fr60.u4.u4.u4.u4.u4.u1, (Hp.conv (hH118.sub (sQ sR)) (by simp; done)), (congrArg I (by rfl)), ?_, ?_, ?_, ?_, ?_⟩
     ·((try dsimp only); omega)
     ·omega
     ·omega
     ·rw [List.map_append, hmr]; exact mrows_next j0 (by omega) (by omega)
     ·exact (hr.mono (Le.zz fun y hy => List.mem_append_right _ hy)).snoc (hv94.mono (Le.zz fun y hy => List.mem_append_left _ hy))
     ·simp only [List.length_append, List.length_singleton]; omega
  ·refine CW.exit (id := 2) rfl <| SR <| ?_
   obtain ⟨Z119, hz120, hv121, -⟩ := (hH60.perm (((pC pR).trans pS).trans (pC pR))).frz (K)
   have hH122 : Hp _ w60 (_ :: _ :: _ :: _ :: _ :: (Z119 ++ Z)) := hz120.zin (L := [_, _, _, _, _]) (L' := Z)
   obtain ⟨Z123, hz124, hv125, -⟩ := hH122.frz (K)
   have hH126 : Hp _ w60 (_ :: _ :: _ :: _ :: (Z123 ++ (Z119 ++ Z))) := hz124.zin (L := [_, _, _, _]) (L' := (Z119 ++ Z))
   have hN127 : AsgV (Kz K (Z123 ++ (Z119 ++ Z))) (⟨v0, ls, v1, gr⟩ : Asg) := ⟨(hv121.mono (Le.zz (fun x hx => (List.mem_append_right _ (List.mem_append_left _ hx))))), (hv125.mono (Le.zz (fun x hx => (List.mem_append_left _ hx)))), hr.mono (Le.zz (fun x hx => (List.mem_append_right _ (List.mem_append_right _ hx))))⟩
   refine V (run_ldA (cs := asgL (⟨v0, ls, v1, gr⟩ : Asg)) underlying29 rfl rfl e5_60 (rangeAt_cells (hH126.blk (i := 0) rfl))) <| RL.set hH126 (i := 1) rfl (run_stW (c' := (asgL (⟨v0, ls, v1, gr⟩ : Asg)).toArray) rfl e4_60 rfl (asgL_one hN127) (hH126.blk (i := 1) rfl) rfl) <| fun w128 hH129 => ?_
   simp only [z2] at hH129
   refine RL.nil <| CW.ret <| outCg Tryz.results19 e4_60 hH129 (i := 1) rfl underlying29 rfl rfl ⟨(Z123 ++ (Z119 ++ Z)), (hH129.sub (sQ (sQ (sQ (sQ sR))))), (⟨v0, ls, v1, gr⟩ : Asg), rfl, ?_, hN127⟩
   exact meet_is hm hmr (by omega) (by omega)
end Go.Proofs.YtieckcbckgalhaaGreatDoor.W
