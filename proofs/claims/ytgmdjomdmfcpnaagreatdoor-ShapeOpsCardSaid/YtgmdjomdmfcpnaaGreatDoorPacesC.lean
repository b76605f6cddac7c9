/-
  The walks of the functions that the laws of this seat reach, part 3: each returns what its plain counterpart tells, and turns nothing that was there.
-/
import Derived.Test.YtgmdjomdmfcpnaaGreatDoorProg
import Derived.Test.YtgmdjomdmfcpnaaGreatDoorEnv
import Derived.Test.YtgmdjomdmfcpnaaGreatDoorPlain
import Derived.Test.YtgmdjomdmfcpnaaGreatDoorBase
import Derived.Test.YtgmdjomdmfcpnaaGreatDoorOrd
import Derived.Test.YtgmdjomdmfcpnaaGreatDoorRel
import Derived.Test.YtgmdjomdmfcpnaaGreatDoorClo
import Derived.Test.YtgmdjomdmfcpnaaGreatDoorCov
import Derived.Test.YtgmdjomdmfcpnaaGreatDoorArr
import Derived.Test.YtgmdjomdmfcpnaaGreatDoorHas
import Derived.Test.YtgmdjomdmfcpnaaGreatDoorGrd
import Derived.Test.YtgmdjomdmfcpnaaGreatDoorStr
import Derived.Test.YtgmdjomdmfcpnaaGreatDoorVu
import Derived.Test.YtgmdjomdmfcpnaaGreatDoorShp
import Derived.Test.YtgmdjomdmfcpnaaGreatDoorShl
import Derived.Test.YtgmdjomdmfcpnaaGreatDoorShq
import Derived.Test.YtgmdjomdmfcpnaaGreatDoorShr
import Derived.Test.YtgmdjomdmfcpnaaGreatDoorPacesB
namespace Go.Proofs.YtgmdjomdmfcpnaaGreatDoor.W
open Go Go.RowKit Go.Proofs.YtgmdjomdmfcpnaaGreatDoor.E Go.Proofs.YtgmdjomdmfcpnaaGreatDoor.M
set_option linter.unusedVariables false
set_option linter.unusedSimpArgs false
set_option maxRecDepth 100000

theorem c_shape_named (v : Value) (l : List Tx) (w : World) (hs : Sl w v 1 l.length (txL l)) : Calls Tryz.prog 48 #[v] w (Pure (B (namedF l)) w) := by
  have hm := hs.small
  unfold maxLen at hm
  refine enter Tryz.func48 rfl Tryz.ntmps48 rfl ?_
  have hH := Hp.start w
  refine CW.seq ?_
  refine CW.region ?_
  refine RL.val rfl (run_assign (v := B false) rfl) ?_
  refine RL.nil ?_
  refine CW.seq ?_
  refine CW.seq ?_
  refine CW.region ?_
  refine RL.val rfl (run_move (by conv => lhs; whnf)) ?_
  refine RL.val rfl (run_lenSl (hs.hp hH) rfl Tryz.underlying39 rfl) ?_
  refine RL.val rfl (run_lss rfl rfl) ?_
  refine RL.val rfl (run_move (v := B _) rfl) ?_
  refine RL.splitP (dj := 8) rfl (fun h2 => ?_) (fun h2 => ?_)
  · refine RL.gF rfl rfl (bT h2) rfl ?_
    refine RL.gF rfl rfl (bT h2) rfl ?_
    refine RL.gF rfl rfl (bT h2) rfl ?_
    refine RL.val rfl (run_pickT (bT h2) (v := B true) rfl) ?_
    refine RL.val rfl (run_move (v := B _) rfl) ?_
    refine RL.gF rfl rfl rfl rfl ?_
    refine RL.gF rfl rfl rfl rfl ?_
    refine RL.gF rfl rfl rfl rfl ?_
    refine RL.val rfl (run_pickT rfl (v := B true) rfl) ?_
    refine RL.nil ?_
    refine CW.condT rfl ?_
    refine CW.seq ?_
    refine CW.region ?_
    refine RL.val rfl (run_assign (v := B false) rfl) ?_
    refine RL.nil ?_
    refine CW.ret ?_
    refine outP1 Tryz.results48 (congrArg B ?_) hH.below
    first | exact (named_no3 h0 ‹_› (nt ‹_›)).symm | exact (named_yes hn1 hn2 ‹_› hg).symm | exact (named_no1 (by omega)).symm | exact (named_no2 (by omega)).symm
  · refine RL.gT rfl (bF h2) ?_
    refine RL.val rfl (run_move (by conv => lhs; whnf)) ?_
    refine RL.gT rfl (bF h2) ?_
    refine RL.val rfl (run_lenSl (hs.hp hH) rfl Tryz.underlying39 rfl) ?_
    refine RL.gT rfl (bF h2) ?_
    refine RL.val rfl (run_gtr rfl rfl) ?_
    refine RL.val rfl (run_pickF (bF h2) (v := B _) rfl) ?_
    refine RL.val rfl (run_move (v := B _) rfl) ?_
    refine RL.splitP (dj := 13) rfl (fun h4 => ?_) (fun h4 => ?_)
    · refine RL.gF rfl rfl (bT h4) rfl ?_
      refine RL.gF rfl rfl (bT h4) rfl ?_
      refine RL.gF rfl rfl (bT h4) rfl ?_
      refine RL.val rfl (run_pickT (bT h4) (v := B true) rfl) ?_
      refine RL.nil ?_
      refine CW.condT rfl ?_
      refine CW.seq ?_
      refine CW.region ?_
      refine RL.val rfl (run_assign (v := B false) rfl) ?_
      refine RL.nil ?_
      refine CW.ret ?_
      refine outP1 Tryz.results48 (congrArg B ?_) hH.below
      first | exact (named_no3 h0 ‹_› (nt ‹_›)).symm | exact (named_yes hn1 hn2 ‹_› hg).symm | exact (named_no1 (by omega)).symm | exact (named_no2 (by omega)).symm
    · refine RL.gT rfl (bF h4) ?_
      refine RL.val rfl (run_move (by conv => lhs; whnf)) ?_
      refine RL.gT rfl (bF h4) ?_
      refine RL.callP rfl hH (c_name_Twice _ _  _ (hs.hp hH)) (run_call1 Tryz.call81 rfl) ?_
      intro w5 hH6
      refine RL.gT rfl (bF h4) ?_
      refine RL.val rfl (run_geq rfl rfl) ?_
      refine RL.val rfl (run_pickF (bF h4) (v := B _) rfl) ?_
      refine RL.nil ?_
      refine CW.condP rfl (fun h8 => ?_) (fun h8 => ?_)
      · refine CW.seq ?_
        refine CW.region ?_
        refine RL.val rfl (run_assign (v := B false) rfl) ?_
        refine RL.nil ?_
        refine CW.ret ?_
        refine outP1 Tryz.results48 (congrArg B ?_) hH6.below
        first | exact (named_no3 h0 ‹_› (nt ‹_›)).symm | exact (named_yes hn1 hn2 ‹_› hg).symm | exact (named_no1 (by omega)).symm | exact (named_no2 (by omega)).symm
      · refine CW.skip ?_
        refine CW.seq ?_
        refine CW.seq ?_
        refine CW.region ?_
        refine RL.val rfl (run_move (by conv => lhs; whnf)) ?_
        refine RL.val rfl (run_lenSl (hs.hp hH6) rfl Tryz.underlying39 rfl) ?_
        refine RL.val rfl (run_move (v := I 0) rfl) ?_
        refine RL.nil ?_
        refine CW.block ?_
        have hn1 : 1 ≤ l.length ∧ l.length ≤ 64 := by omega
        have hn2 : twice l < 0 := by omega
        refine CW.loop (G := (Int)) (fun (k : Int) s' w' => (Fr [2, 4, 20, 21, 22, 23, 24, 25, 26, 27] _ s') ∧ (Hp w w' _) ∧ (s' 20 = I k) ∧ (0 ≤ k) ∧ (k ≤ l.length) ∧ (∀ j : Int, 0 ≤ j → j < k → nameR (l.getD j.toNat tx0) = true)) (fun (k : Int) => (l.length - k).toNat) (0) ⟨Fr.refl _ _, hH6, rfl, (by omega), (by omega), fun j a b => absurd b (by omega)⟩ ?_
        rintro k sg9 w9 ⟨fr9, hH9, e20_9, h0, hk, hg⟩
        have e18_9 := (fr9 18 rfl).trans (by conv => lhs; whnf)
        have e19_9 : sg9 19 = I _ := (fr9 19 rfl).trans rfl
        refine CW.seq ?_
        refine CW.region ?_
        refine RL.val rfl (run_lss e20_9 e19_9) ?_
        refine RL.nil ?_
        refine CW.seq ?_
        refine CW.condP rfl (fun h11 => ?_) (fun h11 => ?_)
        · refine CW.skip ?_
          refine CW.seq ?_
          refine CW.block ?_
          refine CW.seq ?_
          refine CW.region ?_
          refine RL.val rfl (run_indexAddrS (hs.hp hH9) Tryz.underlying39 Tryz.sizeOf9 e18_9 e20_9 (by omega)) ?_
          refine RL.val rfl (run_ld Tryz.underlying9 rfl rfl ((hs.hp hH9).cell _ _ (txL_at (by omega)))) ?_
          refine RL.val rfl (run_assign (v := .string _) rfl) ?_
          refine RL.nil ?_
          refine CW.seq ?_
          refine CW.region ?_
          refine RL.val rfl (run_move (v := .string _) rfl) ?_
          refine RL.callP rfl hH9 (c_name_Right _  _) (run_call1 Tryz.call82 rfl) ?_
          intro w12 hH13
          refine RL.val rfl (run_not rfl) ?_
          refine RL.nil ?_
          refine CW.cond rfl (fun h16 => ?_) (fun h16 => ?_)
          · refine CW.seq ?_
            refine CW.region ?_
            refine RL.val rfl (run_assign (v := B false) rfl) ?_
            refine RL.nil ?_
            refine CW.ret ?_
            refine outP1 Tryz.results48 (congrArg B ?_) hH13.below
            first | exact (named_no3 h0 ‹_› (nt ‹_›)).symm | exact (named_yes hn1 hn2 ‹_› hg).symm | exact (named_no1 (by omega)).symm | exact (named_no2 (by omega)).symm
          · refine CW.skip ?_
            refine CW.region ?_
            refine RL.val rfl (run_add e20_9 rfl (by omega)) ?_
            refine RL.val rfl (run_move (v := I _) rfl) ?_
            refine RL.nil ?_
            refine ⟨k + 1, ?_, ((((((((fr9.u rfl).u rfl).u rfl).u rfl).u rfl).u rfl).u rfl).u rfl).u rfl, hH13, (congrArg I (by first | rfl | omega)), ?_, ?_, ?_⟩
            · ((try dsimp only); omega)
            · omega
            · omega
            · exact fun j a b => if e : j = k then e ▸ nf ‹_› else hg j a (by omega)
        · refine CW.exit (id := 0) rfl ?_
          refine CW.seq ?_
          refine CW.region ?_
          refine RL.val rfl (run_assign (v := B true) rfl) ?_
          refine RL.nil ?_
          refine CW.ret ?_
          refine outP1 Tryz.results48 (congrArg B ?_) hH9.below
          first | exact (named_no3 h0 ‹_› (nt ‹_›)).symm | exact (named_yes hn1 hn2 ‹_› hg).symm | exact (named_no1 (by omega)).symm | exact (named_no2 (by omega)).symm

theorem c_shape_factor (f : Fac) (w : World) (hf : FacV (Kw w) f) (hT : Tab w) : Calls Tryz.prog 26 #[.agg (facC f)] w (Pure (B (factorR f.fc)) w) := by
  have hm := hf.names.sl.small
  unfold maxLen at hm
  refine enter Tryz.func26 rfl Tryz.ntmps26 rfl ?_
  have hH := Hp.start w
  refine CW.seq ?_
  refine CW.region ?_
  refine RL.new rfl hH (f := fun b => (.pointer (some ⟨b, 0, none⟩))) (run_box (v := .agg _) rfl) ?_
  intro b3 w1 hH2
  refine RL.val rfl (run_assign (v := B false) rfl) ?_
  refine RL.nil ?_
  refine CW.seq ?_
  refine CW.seq ?_
  refine CW.region ?_
  refine RL.val rfl (run_fieldAddr Tryz.underlying44 rfl (off := 1) rfl Tryz.sizeOf39 (by decide) rfl) ?_
  refine RL.val rfl (run_ld Tryz.underlying39 rfl rfl (hH2.cell (i := 0) rfl rfl)) ?_
  refine RL.callP rfl hH2 (c_shape_named _ _  _ (hf.names.sl.hp hH2)) (run_call1 Tryz.call48 rfl) ?_
  intro w4 hH5
  refine RL.val rfl (run_not rfl) ?_
  refine RL.nil ?_
  refine CW.cond rfl (fun h8 => ?_) (fun h8 => ?_)
  · refine CW.seq ?_
    refine CW.region ?_
    refine RL.val rfl (run_assign (v := B false) rfl) ?_
    refine RL.nil ?_
    refine CW.ret ?_
    refine outP1 Tryz.results26 (congrArg B ?_) hH5.below
    first | exact (fac_no (f := f.fc) (nt ‹_›)).symm | exact (fac_12s (f := f.fc) (nf ‹(!namedF f.names) = false›) (.inl ‹_›)).symm | exact (fac_12s (f := f.fc) (nf ‹(!namedF f.names) = false›) (.inr ‹_›)).symm | exact (fac_3y (f := f.fc) (nf ‹(!namedF f.names) = false›) ‹_› ‹_›).symm | exact (fac_3n (f := f.fc) ‹_› ‹_›).symm | exact (fac_4y (f := f.fc) (nf ‹(!namedF f.names) = false›) ‹_› ‹_›).symm | exact (fac_4n (f := f.fc) ‹_› ‹_›).symm | exact (fac_x (f := f.fc) ‹_› ‹_› ‹_› ‹_›).symm
  · refine CW.skip ?_
    refine CW.seq ?_
    refine CW.seq ?_
    refine CW.region ?_
    refine RL.val rfl (run_fieldAddr Tryz.underlying44 rfl (off := 0) rfl Tryz.sizeOf3 (by decide) rfl) ?_
    refine RL.val rfl (run_ld Tryz.underlying3 rfl rfl (hH5.cell (i := 0) rfl (v := I _) rfl)) ?_
    refine RL.nil ?_
    refine CW.block ?_
    refine CW.seq ?_
    refine CW.seq ?_
    refine CW.region ?_
    refine RL.val rfl (run_eql rfl rfl) ?_
    refine RL.val rfl (run_assign (v := B _) rfl) ?_
    refine RL.nil ?_
    refine CW.condP rfl (fun h10 => ?_) (fun h10 => ?_)
    · refine CW.skip ?_
      refine CW.condT (bT h10) ?_
      refine CW.seq ?_
      refine CW.region ?_
      refine RL.val rfl (run_fieldAddr Tryz.underlying44 rfl (off := 2) rfl Tryz.sizeOf42 (by decide) rfl) ?_
      refine RL.val rfl (run_ldBR Tryz.underlying42 rfl rfl rfl (hH5.blk (i := 0) rfl)) ?_
      refine RL.val rfl (run_bld (vs := []) rfl built_rel0) ?_
      refine RL.callP rfl hH5 (c_relate_Same _ _  _) (run_call2 Tryz.call49 rfl rfl) ?_
      intro w11 hH12
      refine RL.val rfl (run_assign (v := B _) rfl) ?_
      refine RL.nil ?_
      refine CW.ret ?_
      refine outP1 Tryz.results26 (congrArg B ?_) hH12.below
      first | exact (fac_no (f := f.fc) (nt ‹_›)).symm | exact (fac_12s (f := f.fc) (nf ‹(!namedF f.names) = false›) (.inl ‹_›)).symm | exact (fac_12s (f := f.fc) (nf ‹(!namedF f.names) = false›) (.inr ‹_›)).symm | exact (fac_3y (f := f.fc) (nf ‹(!namedF f.names) = false›) ‹_› ‹_›).symm | exact (fac_3n (f := f.fc) ‹_› ‹_›).symm | exact (fac_4y (f := f.fc) (nf ‹(!namedF f.names) = false›) ‹_› ‹_›).symm | exact (fac_4n (f := f.fc) ‹_› ‹_›).symm | exact (fac_x (f := f.fc) ‹_› ‹_› ‹_› ‹_›).symm
    · refine CW.region ?_
      refine RL.val rfl (run_eql rfl rfl) ?_
      refine RL.val rfl (run_assign (v := B _) rfl) ?_
      refine RL.nil ?_
      refine CW.condP rfl (fun h16 => ?_) (fun h16 => ?_)
      · refine CW.seq ?_
        refine CW.region ?_
        refine RL.val rfl (run_fieldAddr Tryz.underlying44 rfl (off := 2) rfl Tryz.sizeOf42 (by decide) rfl) ?_
        refine RL.val rfl (run_ldBR Tryz.underlying42 rfl rfl rfl (hH5.blk (i := 0) rfl)) ?_
        refine RL.val rfl (run_bld (vs := []) rfl built_rel0) ?_
        refine RL.callP rfl hH5 (c_relate_Same _ _  _) (run_call2 Tryz.call49 rfl rfl) ?_
        intro w17 hH18
        refine RL.val rfl (run_assign (v := B _) rfl) ?_
        refine RL.nil ?_
        refine CW.ret ?_
        refine outP1 Tryz.results26 (congrArg B ?_) hH18.below
        first | exact (fac_no (f := f.fc) (nt ‹_›)).symm | exact (fac_12s (f := f.fc) (nf ‹(!namedF f.names) = false›) (.inl ‹_›)).symm | exact (fac_12s (f := f.fc) (nf ‹(!namedF f.names) = false›) (.inr ‹_›)).symm | exact (fac_3y (f := f.fc) (nf ‹(!namedF f.names) = false›) ‹_› ‹_›).symm | exact (fac_3n (f := f.fc) ‹_› ‹_›).symm | exact (fac_4y (f := f.fc) (nf ‹(!namedF f.names) = false›) ‹_› ‹_›).symm | exact (fac_4n (f := f.fc) ‹_› ‹_›).symm | exact (fac_x (f := f.fc) ‹_› ‹_› ‹_› ‹_›).symm
      · refine CW.seq ?_
        refine CW.region ?_
        refine RL.val rfl (run_eql rfl rfl) ?_
        refine RL.val rfl (run_assign (v := B _) rfl) ?_
        refine RL.nil ?_
        refine CW.condP rfl (fun h22 => ?_) (fun h22 => ?_)
        · refine CW.seq ?_
          refine CW.region ?_
          refine RL.val rfl (run_fieldAddr Tryz.underlying44 rfl (off := 2) rfl Tryz.sizeOf42 (by decide) rfl) ?_
          refine RL.val rfl (run_fieldAddr Tryz.underlying42 rfl (off := 0) rfl Tryz.sizeOf3 (by decide) rfl) ?_
          refine RL.val rfl (run_ld Tryz.underlying3 rfl rfl (hH5.cell (i := 0) rfl (v := I _) rfl)) ?_
          refine RL.val rfl (run_fieldAddr Tryz.underlying44 rfl (off := 1) rfl Tryz.sizeOf39 (by decide) rfl) ?_
          refine RL.val rfl (run_ld Tryz.underlying39 rfl rfl (hH5.cell (i := 0) rfl rfl)) ?_
          refine RL.val rfl (run_lenSl (hf.names.sl.hp hH5) rfl Tryz.underlying39 rfl) ?_
          refine RL.val rfl (run_eql rfl rfl) ?_
          refine RL.val rfl (run_move (v := B _) rfl) ?_
          refine RL.splitP (dj := 25) rfl (fun h24 => ?_) (fun h24 => ?_)
          · refine RL.gT rfl (bT h24) ?_
            refine RL.val rfl (run_fieldAddr Tryz.underlying44 rfl (off := 2) rfl Tryz.sizeOf42 (by decide) rfl) ?_
            refine RL.gT rfl (bT h24) ?_
            refine RL.val rfl (run_ldBR Tryz.underlying42 rfl rfl rfl (hH5.blk (i := 0) rfl)) ?_
            refine RL.gT rfl (bT h24) ?_
            refine RL.callP rfl hH5 (c_grid_Right _  _) (run_call1 Tryz.call50 rfl) ?_
            intro w25 hH26
            refine RL.val rfl (run_pickT (bT h24) (v := B _) rfl) ?_
            refine RL.val rfl (run_assign (v := B _) rfl) ?_
            refine RL.nil ?_
            refine CW.ret ?_
            refine outP1 Tryz.results26 (congrArg B ?_) hH26.below
            first | exact (fac_no (f := f.fc) (nt ‹_›)).symm | exact (fac_12s (f := f.fc) (nf ‹(!namedF f.names) = false›) (.inl ‹_›)).symm | exact (fac_12s (f := f.fc) (nf ‹(!namedF f.names) = false›) (.inr ‹_›)).symm | exact (fac_3y (f := f.fc) (nf ‹(!namedF f.names) = false›) ‹_› ‹_›).symm | exact (fac_3n (f := f.fc) ‹_› ‹_›).symm | exact (fac_4y (f := f.fc) (nf ‹(!namedF f.names) = false›) ‹_› ‹_›).symm | exact (fac_4n (f := f.fc) ‹_› ‹_›).symm | exact (fac_x (f := f.fc) ‹_› ‹_› ‹_› ‹_›).symm
          · refine RL.gF rfl rfl (bF h24) rfl ?_
            refine RL.gF rfl rfl (bF h24) rfl ?_
            refine RL.gF rfl rfl (bF h24) rfl ?_
            refine RL.val rfl (run_pickF (bF h24) (v := B false) rfl) ?_
            refine RL.val rfl (run_assign (v := B _) rfl) ?_
            refine RL.nil ?_
            refine CW.ret ?_
            refine outP1 Tryz.results26 (congrArg B ?_) hH5.below
            first | exact (fac_no (f := f.fc) (nt ‹_›)).symm | exact (fac_12s (f := f.fc) (nf ‹(!namedF f.names) = false›) (.inl ‹_›)).symm | exact (fac_12s (f := f.fc) (nf ‹(!namedF f.names) = false›) (.inr ‹_›)).symm | exact (fac_3y (f := f.fc) (nf ‹(!namedF f.names) = false›) ‹_› ‹_›).symm | exact (fac_3n (f := f.fc) ‹_› ‹_›).symm | exact (fac_4y (f := f.fc) (nf ‹(!namedF f.names) = false›) ‹_› ‹_›).symm | exact (fac_4n (f := f.fc) ‹_› ‹_›).symm | exact (fac_x (f := f.fc) ‹_› ‹_› ‹_› ‹_›).symm
        · refine CW.seq ?_
          refine CW.region ?_
          refine RL.val rfl (run_eql rfl rfl) ?_
          refine RL.val rfl (run_assign (v := B _) rfl) ?_
          refine RL.nil ?_
          refine CW.condP rfl (fun h29 => ?_) (fun h29 => ?_)
          · refine CW.seq ?_
            refine CW.region ?_
            refine RL.val rfl (run_fieldAddr Tryz.underlying44 rfl (off := 2) rfl Tryz.sizeOf42 (by decide) rfl) ?_
            refine RL.val rfl (run_fieldAddr Tryz.underlying42 rfl (off := 0) rfl Tryz.sizeOf3 (by decide) rfl) ?_
            refine RL.val rfl (run_ld Tryz.underlying3 rfl rfl (hH5.cell (i := 0) rfl (v := I _) rfl)) ?_
            refine RL.val rfl (run_fieldAddr Tryz.underlying44 rfl (off := 1) rfl Tryz.sizeOf39 (by decide) rfl) ?_
            refine RL.val rfl (run_ld Tryz.underlying39 rfl rfl (hH5.cell (i := 0) rfl rfl)) ?_
            refine RL.val rfl (run_lenSl (hf.names.sl.hp hH5) rfl Tryz.underlying39 rfl) ?_
            refine RL.val rfl (run_eql rfl rfl) ?_
            refine RL.val rfl (run_move (v := B _) rfl) ?_
            refine RL.splitP (dj := 39) rfl (fun h31 => ?_) (fun h31 => ?_)
            · refine RL.gT rfl (bT h31) ?_
              refine RL.val rfl (run_fieldAddr Tryz.underlying44 rfl (off := 2) rfl Tryz.sizeOf42 (by decide) rfl) ?_
              refine RL.gT rfl (bT h31) ?_
              refine RL.val rfl (run_ldBR Tryz.underlying42 rfl rfl rfl (hH5.blk (i := 0) rfl)) ?_
              refine RL.gT rfl (bT h31) ?_
              refine RL.callP rfl hH5 (c_hasse_Lattice _  _ (hT.hp hH5)) (run_call1 Tryz.call51 rfl) ?_
              intro w32 hH33
              refine RL.val rfl (run_pickT (bT h31) (v := B _) rfl) ?_
              refine RL.val rfl (run_assign (v := B _) rfl) ?_
              refine RL.nil ?_
              refine CW.ret ?_
              refine outP1 Tryz.results26 (congrArg B ?_) hH33.below
              first | exact (fac_no (f := f.fc) (nt ‹_›)).symm | exact (fac_12s (f := f.fc) (nf ‹(!namedF f.names) = false›) (.inl ‹_›)).symm | exact (fac_12s (f := f.fc) (nf ‹(!namedF f.names) = false›) (.inr ‹_›)).symm | exact (fac_3y (f := f.fc) (nf ‹(!namedF f.names) = false›) ‹_› ‹_›).symm | exact (fac_3n (f := f.fc) ‹_› ‹_›).symm | exact (fac_4y (f := f.fc) (nf ‹(!namedF f.names) = false›) ‹_› ‹_›).symm | exact (fac_4n (f := f.fc) ‹_› ‹_›).symm | exact (fac_x (f := f.fc) ‹_› ‹_› ‹_› ‹_›).symm
            · refine RL.gF rfl rfl (bF h31) rfl ?_
              refine RL.gF rfl rfl (bF h31) rfl ?_
              refine RL.gF rfl rfl (bF h31) rfl ?_
              refine RL.val rfl (run_pickF (bF h31) (v := B false) rfl) ?_
              refine RL.val rfl (run_assign (v := B _) rfl) ?_
              refine RL.nil ?_
              refine CW.ret ?_
              refine outP1 Tryz.results26 (congrArg B ?_) hH5.below
              first | exact (fac_no (f := f.fc) (nt ‹_›)).symm | exact (fac_12s (f := f.fc) (nf ‹(!namedF f.names) = false›) (.inl ‹_›)).symm | exact (fac_12s (f := f.fc) (nf ‹(!namedF f.names) = false›) (.inr ‹_›)).symm | exact (fac_3y (f := f.fc) (nf ‹(!namedF f.names) = false›) ‹_› ‹_›).symm | exact (fac_3n (f := f.fc) ‹_› ‹_›).symm | exact (fac_4y (f := f.fc) (nf ‹(!namedF f.names) = false›) ‹_› ‹_›).symm | exact (fac_4n (f := f.fc) ‹_› ‹_›).symm | exact (fac_x (f := f.fc) ‹_› ‹_› ‹_› ‹_›).symm
          · refine CW.skip ?_
            refine CW.seq ?_
            refine CW.region ?_
            refine RL.val rfl (run_assign (v := B false) rfl) ?_
            refine RL.nil ?_
            refine CW.ret ?_
            refine outP1 Tryz.results26 (congrArg B ?_) hH5.below
            first | exact (fac_no (f := f.fc) (nt ‹_›)).symm | exact (fac_12s (f := f.fc) (nf ‹(!namedF f.names) = false›) (.inl ‹_›)).symm | exact (fac_12s (f := f.fc) (nf ‹(!namedF f.names) = false›) (.inr ‹_›)).symm | exact (fac_3y (f := f.fc) (nf ‹(!namedF f.names) = false›) ‹_› ‹_›).symm | exact (fac_3n (f := f.fc) ‹_› ‹_›).symm | exact (fac_4y (f := f.fc) (nf ‹(!namedF f.names) = false›) ‹_› ‹_›).symm | exact (fac_4n (f := f.fc) ‹_› ‹_›).symm | exact (fac_x (f := f.fc) ‹_› ‹_› ‹_› ‹_›).symm

theorem c_shape_Right (s : Shp) (w : World) (hs : ShpV (Kw w) s) (hT : Tab w) : Calls Tryz.prog 7 #[.agg (shpC s)] w (Pure (B (shR s.sh)) w) := by
  have hsl := sh_len s
  have hm := hs.facs.sl.small
  unfold maxLen at hm
  refine enter Tryz.func7 rfl Tryz.ntmps7 rfl ?_
  have hH := Hp.start w
  refine CW.seq ?_
  refine CW.region ?_
  refine RL.new rfl hH (f := fun b => (.pointer (some ⟨b, 0, none⟩))) (run_box (v := .agg _) rfl) ?_
  intro b3 w1 hH2
  refine RL.val rfl (run_assign (v := B false) rfl) ?_
  refine RL.nil ?_
  refine CW.seq ?_
  refine CW.region ?_
  refine RL.val rfl (run_fieldAddr Tryz.underlying24 rfl (off := 1) rfl Tryz.sizeOf22 (by decide) rfl) ?_
  refine RL.val rfl (run_ld Tryz.underlying22 rfl rfl (hH2.cell (i := 0) rfl rfl)) ?_
  refine RL.val rfl (run_lenSl (hs.facs.sl.hp hH2) rfl Tryz.underlying22 rfl) ?_
  refine RL.val rfl (run_assign (v := I _) rfl) ?_
  refine RL.nil ?_
  refine CW.seq ?_
  refine CW.seq ?_
  refine CW.region ?_
  refine RL.val rfl (run_move (v := I _) rfl) ?_
  refine RL.val rfl (run_lss rfl rfl) ?_
  refine RL.val rfl (run_move (v := B _) rfl) ?_
  refine RL.splitP (dj := 11) rfl (fun h5 => ?_) (fun h5 => ?_)
  · refine RL.gF rfl rfl (bT h5) rfl ?_
    refine RL.gF rfl rfl (bT h5) rfl ?_
    refine RL.val rfl (run_pickT (bT h5) (v := B true) rfl) ?_
    refine RL.val rfl (run_move (v := B _) rfl) ?_
    refine RL.gF rfl rfl rfl rfl ?_
    refine RL.gF rfl rfl rfl rfl ?_
    refine RL.gF rfl rfl rfl rfl ?_
    refine RL.gF rfl rfl rfl rfl ?_
    refine RL.gU rfl rfl rfl ?_
    refine RL.gU rfl rfl rfl ?_
    refine RL.gF rfl rfl rfl rfl ?_
    refine RL.val rfl (run_pickT rfl (v := B true) rfl) ?_
    refine RL.nil ?_
    refine CW.condT rfl ?_
    refine CW.seq ?_
    refine CW.region ?_
    refine RL.val rfl (run_assign (v := B false) rfl) ?_
    refine RL.nil ?_
    refine CW.ret ?_
    refine outP1 Tryz.results7 (congrArg B ?_) hH2.below
    first | exact (shR_no3 (k := k) h0 (by omega) (by rw [sh_get]; exact nt ‹_›)).symm | exact (shR_yes (k := k) (by omega) hc2 (by omega) fun j a b => by rw [sh_get]; exact hg j a b).symm | exact (shR_no1 (by omega)).symm | exact (shR_no2 (by first | exact nt ‹_› | assumption) (by omega)).symm
  · refine RL.gT rfl (bF h5) ?_
    refine RL.val rfl (run_move (v := I _) rfl) ?_
    refine RL.gT rfl (bF h5) ?_
    refine RL.val rfl (run_gtr rfl rfl) ?_
    refine RL.val rfl (run_pickF (bF h5) (v := B _) rfl) ?_
    refine RL.val rfl (run_move (v := B _) rfl) ?_
    refine RL.splitP (dj := 15) rfl (fun h7 => ?_) (fun h7 => ?_)
    · refine RL.gF rfl rfl (bT h7) rfl ?_
      refine RL.gF rfl rfl (bT h7) rfl ?_
      refine RL.gF rfl rfl (bT h7) rfl ?_
      refine RL.gF rfl rfl (bT h7) rfl ?_
      refine RL.gU rfl rfl rfl ?_
      refine RL.gU rfl rfl rfl ?_
      refine RL.gF rfl rfl (bT h7) rfl ?_
      refine RL.val rfl (run_pickT (bT h7) (v := B true) rfl) ?_
      refine RL.nil ?_
      refine CW.condT rfl ?_
      refine CW.seq ?_
      refine CW.region ?_
      refine RL.val rfl (run_assign (v := B false) rfl) ?_
      refine RL.nil ?_
      refine CW.ret ?_
      refine outP1 Tryz.results7 (congrArg B ?_) hH2.below
      first | exact (shR_no3 (k := k) h0 (by omega) (by rw [sh_get]; exact nt ‹_›)).symm | exact (shR_yes (k := k) (by omega) hc2 (by omega) fun j a b => by rw [sh_get]; exact hg j a b).symm | exact (shR_no1 (by omega)).symm | exact (shR_no2 (by first | exact nt ‹_› | assumption) (by omega)).symm
    · refine RL.gT rfl (bF h7) ?_
      refine RL.val rfl (run_fieldAddr Tryz.underlying24 rfl (off := 0) rfl Tryz.sizeOf4 (by decide) rfl) ?_
      refine RL.gT rfl (bF h7) ?_
      refine RL.val rfl (run_ld Tryz.underlying4 rfl rfl (hH2.cell (i := 0) rfl (v := B _) rfl)) ?_
      refine RL.gT rfl (bF h7) ?_
      refine RL.val rfl (run_not rfl) ?_
      refine RL.gT rfl (bF h7) ?_
      refine RL.val rfl (run_move (v := B _) rfl) ?_
      refine RL.split (dj := 19) rfl (fun h10 => ?_) (fun h10 => ?_)
      · refine RL.gT rfl (bR (c := true) h10) ?_
        refine RL.val rfl (run_move (v := I _) rfl) ?_
        refine RL.gT rfl (bR (c := true) h10) ?_
        refine RL.val rfl (run_neq rfl rfl) ?_
        refine RL.gT rfl (bF h7) ?_
        refine RL.val rfl (run_pickT (bR (c := true) h10) (v := B _) rfl) ?_
        refine RL.val rfl (run_pickF (bF h7) (v := B _) rfl) ?_
        refine RL.nil ?_
        refine CW.condP rfl (fun h12 => ?_) (fun h12 => ?_)
        · refine CW.seq ?_
          refine CW.region ?_
          refine RL.val rfl (run_assign (v := B false) rfl) ?_
          refine RL.nil ?_
          refine CW.ret ?_
          refine outP1 Tryz.results7 (congrArg B ?_) hH2.below
          first | exact (shR_no3 (k := k) h0 (by omega) (by rw [sh_get]; exact nt ‹_›)).symm | exact (shR_yes (k := k) (by omega) hc2 (by omega) fun j a b => by rw [sh_get]; exact hg j a b).symm | exact (shR_no1 (by omega)).symm | exact (shR_no2 (by first | exact nt ‹_› | assumption) (by omega)).symm
        · refine CW.skip ?_
          refine CW.seq ?_
          refine CW.seq ?_
          refine CW.region ?_
          refine RL.val rfl (run_fieldAddr Tryz.underlying24 rfl (off := 1) rfl Tryz.sizeOf22 (by decide) rfl) ?_
          refine RL.val rfl (run_ld Tryz.underlying22 rfl rfl (hH2.cell (i := 0) rfl rfl)) ?_
          refine RL.val rfl (run_lenSl (hs.facs.sl.hp hH2) rfl Tryz.underlying22 rfl) ?_
          refine RL.val rfl (run_move (v := I 0) rfl) ?_
          refine RL.nil ?_
          refine CW.block ?_
          have hc2 : s.sh.tuple = true ∨ s.sh.facs.length = 1 := by first | exact .inl (nf ‹(!s.tuple) = false›) | exact .inl ‹s.tuple = true› | exact .inr (by omega)
          have hc1 : 1 ≤ s.facs.length ∧ s.facs.length ≤ 8 := by omega
          refine CW.loop (G := (Int)) (fun (k : Int) s' w' => (Fr [2, 5, 27, 28, 29, 30, 31, 32, 33, 34] _ s') ∧ (Hp w w' _) ∧ (s' 27 = I k) ∧ (0 ≤ k) ∧ (k ≤ s.facs.length) ∧ (∀ j : Int, 0 ≤ j → j < k → factorR (s.facs.getD j.toNat fac0).fc = true)) (fun (k : Int) => (s.facs.length - k).toNat) (0) ⟨Fr.refl _ _, hH2, rfl, (by omega), (by omega), fun j a b => absurd b (by omega)⟩ ?_
          rintro k sg13 w13 ⟨fr13, hH13, e27_13, h0, hk, hg⟩
          have e25_13 := (fr13 25 rfl).trans (by conv => lhs; whnf)
          have e26_13 : sg13 26 = I _ := (fr13 26 rfl).trans rfl
          refine CW.seq ?_
          refine CW.region ?_
          refine RL.val rfl (run_lss e27_13 e26_13) ?_
          refine RL.nil ?_
          refine CW.seq ?_
          refine CW.condP rfl (fun h15 => ?_) (fun h15 => ?_)
          · refine CW.skip ?_
            refine CW.seq ?_
            refine CW.block ?_
            refine CW.seq ?_
            refine CW.region ?_
            refine RL.val rfl (run_indexAddrS (hs.facs.sl.hp hH13) Tryz.underlying22 Tryz.sizeOf44 e25_13 e27_13 (by omega)) ?_
            refine RL.val rfl (run_ldE (dv := fac0) facL_len (hs.facs.sl.hp hH13) Tryz.underlying44 rfl rfl rfl (by omega)) ?_
            refine RL.new rfl hH13 (f := fun b => (.pointer (some ⟨b, 0, none⟩))) (run_alloc zero_fac) ?_
            intro b18 w16 hH17
            refine RL.set hH17 (i := 0) rfl (run_stFac (hs.at (by omega) (by omega)) rfl rfl rfl (hH17.blk (i := 0) rfl)) ?_
            intro w19 hH20
            simp only [List.set_cons_zero, List.set_cons_succ] at hH20
            refine RL.nil ?_
            refine CW.seq ?_
            refine CW.region ?_
            refine RL.val rfl (run_ldFac Tryz.underlying44 rfl rfl rfl (hH20.blk (i := 0) rfl)) ?_
            refine RL.callP rfl hH20 (c_shape_factor _  _ ((hs.at (by omega) (by omega)).mono hH20.kw) (hT.hp hH20)) (run_call1 Tryz.call26 rfl) ?_
            intro w21 hH22
            refine RL.val rfl (run_not rfl) ?_
            refine RL.nil ?_
            refine CW.cond rfl (fun h25 => ?_) (fun h25 => ?_)
            · refine CW.seq ?_
              refine CW.region ?_
              refine RL.val rfl (run_assign (v := B false) rfl) ?_
              refine RL.nil ?_
              refine CW.ret ?_
              refine outP1 Tryz.results7 (congrArg B ?_) hH22.below
              first | exact (shR_no3 (k := k) h0 (by omega) (by rw [sh_get]; exact nt ‹_›)).symm | exact (shR_yes (k := k) (by omega) hc2 (by omega) fun j a b => by rw [sh_get]; exact hg j a b).symm | exact (shR_no1 (by omega)).symm | exact (shR_no2 (by first | exact nt ‹_› | assumption) (by omega)).symm
            · refine CW.skip ?_
              refine CW.region ?_
              refine RL.val rfl (run_add e27_13 rfl (by omega)) ?_
              refine RL.val rfl (run_move (v := I _) rfl) ?_
              refine RL.nil ?_
              refine ⟨k + 1, ?_, ((((((((fr13.u rfl).u rfl).u rfl).u rfl).u rfl).u rfl).u rfl).u rfl).u rfl, (hH22.sub (.cons _ (List.Sublist.refl _))), (congrArg I (by first | rfl | omega)), ?_, ?_, ?_⟩
              · ((try dsimp only); omega)
              · omega
              · omega
              · exact fun j a b => if e : j = k then e ▸ nf ‹_› else hg j a (by omega)
          · refine CW.exit (id := 0) rfl ?_
            refine CW.seq ?_
            refine CW.region ?_
            refine RL.val rfl (run_assign (v := B true) rfl) ?_
            refine RL.nil ?_
            refine CW.ret ?_
            refine outP1 Tryz.results7 (congrArg B ?_) hH13.below
            first | exact (shR_no3 (k := k) h0 (by omega) (by rw [sh_get]; exact nt ‹_›)).symm | exact (shR_yes (k := k) (by omega) hc2 (by omega) fun j a b => by rw [sh_get]; exact hg j a b).symm | exact (shR_no1 (by omega)).symm | exact (shR_no2 (by first | exact nt ‹_› | assumption) (by omega)).symm
      · refine RL.gF rfl rfl (bR (c := false) h10) rfl ?_
        refine RL.gF rfl rfl (bR (c := false) h10) rfl ?_
        refine RL.gT rfl (bF h7) ?_
        refine RL.val rfl (run_pickF (bR (c := false) h10) (v := B false) rfl) ?_
        refine RL.val rfl (run_pickF (bF h7) (v := B _) rfl) ?_
        refine RL.nil ?_
        refine CW.condF rfl ?_
        refine CW.skip ?_
        refine CW.seq ?_
        refine CW.seq ?_
        refine CW.region ?_
        refine RL.val rfl (run_fieldAddr Tryz.underlying24 rfl (off := 1) rfl Tryz.sizeOf22 (by decide) rfl) ?_
        refine RL.val rfl (run_ld Tryz.underlying22 rfl rfl (hH2.cell (i := 0) rfl rfl)) ?_
        refine RL.val rfl (run_lenSl (hs.facs.sl.hp hH2) rfl Tryz.underlying22 rfl) ?_
        refine RL.val rfl (run_move (v := I 0) rfl) ?_
        refine RL.nil ?_
        refine CW.block ?_
        have hc2 : s.sh.tuple = true ∨ s.sh.facs.length = 1 := by first | exact .inl (nf ‹(!s.tuple) = false›) | exact .inl ‹s.tuple = true› | exact .inr (by omega)
        have hc1 : 1 ≤ s.facs.length ∧ s.facs.length ≤ 8 := by omega
        refine CW.loop (G := (Int)) (fun (k : Int) s' w' => (Fr [2, 5, 27, 28, 29, 30, 31, 32, 33, 34] _ s') ∧ (Hp w w' _) ∧ (s' 27 = I k) ∧ (0 ≤ k) ∧ (k ≤ s.facs.length) ∧ (∀ j : Int, 0 ≤ j → j < k → factorR (s.facs.getD j.toNat fac0).fc = true)) (fun (k : Int) => (s.facs.length - k).toNat) (0) ⟨Fr.refl _ _, hH2, rfl, (by omega), (by omega), fun j a b => absurd b (by omega)⟩ ?_
        rintro k sg26 w26 ⟨fr26, hH26, e27_26, h0, hk, hg⟩
        have e25_26 := (fr26 25 rfl).trans (by conv => lhs; whnf)
        have e26_26 : sg26 26 = I _ := (fr26 26 rfl).trans rfl
        refine CW.seq ?_
        refine CW.region ?_
        refine RL.val rfl (run_lss e27_26 e26_26) ?_
        refine RL.nil ?_
        refine CW.seq ?_
        refine CW.condP rfl (fun h28 => ?_) (fun h28 => ?_)
        · refine CW.skip ?_
          refine CW.seq ?_
          refine CW.block ?_
          refine CW.seq ?_
          refine CW.region ?_
          refine RL.val rfl (run_indexAddrS (hs.facs.sl.hp hH26) Tryz.underlying22 Tryz.sizeOf44 e25_26 e27_26 (by omega)) ?_
          refine RL.val rfl (run_ldE (dv := fac0) facL_len (hs.facs.sl.hp hH26) Tryz.underlying44 rfl rfl rfl (by omega)) ?_
          refine RL.new rfl hH26 (f := fun b => (.pointer (some ⟨b, 0, none⟩))) (run_alloc zero_fac) ?_
          intro b31 w29 hH30
          refine RL.set hH30 (i := 0) rfl (run_stFac (hs.at (by omega) (by omega)) rfl rfl rfl (hH30.blk (i := 0) rfl)) ?_
          intro w32 hH33
          simp only [List.set_cons_zero, List.set_cons_succ] at hH33
          refine RL.nil ?_
          refine CW.seq ?_
          refine CW.region ?_
          refine RL.val rfl (run_ldFac Tryz.underlying44 rfl rfl rfl (hH33.blk (i := 0) rfl)) ?_
          refine RL.callP rfl hH33 (c_shape_factor _  _ ((hs.at (by omega) (by omega)).mono hH33.kw) (hT.hp hH33)) (run_call1 Tryz.call26 rfl) ?_
          intro w34 hH35
          refine RL.val rfl (run_not rfl) ?_
          refine RL.nil ?_
          refine CW.cond rfl (fun h38 => ?_) (fun h38 => ?_)
          · refine CW.seq ?_
            refine CW.region ?_
            refine RL.val rfl (run_assign (v := B false) rfl) ?_
            refine RL.nil ?_
            refine CW.ret ?_
            refine outP1 Tryz.results7 (congrArg B ?_) hH35.below
            first | exact (shR_no3 (k := k) h0 (by omega) (by rw [sh_get]; exact nt ‹_›)).symm | exact (shR_yes (k := k) (by omega) hc2 (by omega) fun j a b => by rw [sh_get]; exact hg j a b).symm | exact (shR_no1 (by omega)).symm | exact (shR_no2 (by first | exact nt ‹_› | assumption) (by omega)).symm
          · refine CW.skip ?_
            refine CW.region ?_
            refine RL.val rfl (run_add e27_26 rfl (by omega)) ?_
            refine RL.val rfl (run_move (v := I _) rfl) ?_
            refine RL.nil ?_
            refine ⟨k + 1, ?_, ((((((((fr26.u rfl).u rfl).u rfl).u rfl).u rfl).u rfl).u rfl).u rfl).u rfl, (hH35.sub (.cons _ (List.Sublist.refl _))), (congrArg I (by first | rfl | omega)), ?_, ?_, ?_⟩
            · ((try dsimp only); omega)
            · omega
            · omega
            · exact fun j a b => if e : j = k then e ▸ nf ‹_› else hg j a (by omega)
        · refine CW.exit (id := 0) rfl ?_
          refine CW.seq ?_
          refine CW.region ?_
          refine RL.val rfl (run_assign (v := B true) rfl) ?_
          refine RL.nil ?_
          refine CW.ret ?_
          refine outP1 Tryz.results7 (congrArg B ?_) hH26.below
          first | exact (shR_no3 (k := k) h0 (by omega) (by rw [sh_get]; exact nt ‹_›)).symm | exact (shR_yes (k := k) (by omega) hc2 (by omega) fun j a b => by rw [sh_get]; exact hg j a b).symm | exact (shR_no1 (by omega)).symm | exact (shR_no2 (by first | exact nt ‹_› | assumption) (by omega)).symm

theorem c_shape_alike (a b : Fac) (w : World) (ha : FacV (Kw w) a) (hb : FacV (Kw w) b) : Calls Tryz.prog 28 #[.agg (facC a), .agg (facC b)] w (Pure (B (alikeF a.fc b.fc)) w) := by
  refine enter Tryz.func28 rfl Tryz.ntmps28 rfl ?_
  have hH := Hp.start w
  refine CW.seq ?_
  refine CW.region ?_
  refine RL.new rfl hH (f := fun b => (.pointer (some ⟨b, 0, none⟩))) (run_box (v := .agg _) rfl) ?_
  intro b3 w1 hH2
  refine RL.new rfl hH2 (f := fun b => (.pointer (some ⟨b, 0, none⟩))) (run_box (v := .agg _) rfl) ?_
  intro b6 w4 hH5
  refine RL.val rfl (run_assign (v := B false) rfl) ?_
  refine RL.nil ?_
  refine CW.seq ?_
  refine CW.region ?_
  refine RL.val rfl (run_fieldAddr Tryz.underlying44 rfl (off := 0) rfl Tryz.sizeOf3 (by decide) rfl) ?_
  refine RL.val rfl (run_ld Tryz.underlying3 rfl rfl (hH5.cell (i := 1) rfl (v := I _) rfl)) ?_
  refine RL.val rfl (run_fieldAddr Tryz.underlying44 rfl (off := 0) rfl Tryz.sizeOf3 (by decide) rfl) ?_
  refine RL.val rfl (run_ld Tryz.underlying3 rfl rfl (hH5.cell (i := 0) rfl (v := I _) rfl)) ?_
  refine RL.val rfl (run_eql rfl rfl) ?_
  refine RL.val rfl (run_move (v := B _) rfl) ?_
  refine RL.splitP (dj := 10) rfl (fun h8 => ?_) (fun h8 => ?_)
  · refine RL.gT rfl (bT h8) ?_
    refine RL.val rfl (run_fieldAddr Tryz.underlying44 rfl (off := 1) rfl Tryz.sizeOf39 (by decide) rfl) ?_
    refine RL.gT rfl (bT h8) ?_
    refine RL.val rfl (run_ld Tryz.underlying39 rfl rfl (hH5.cell (i := 1) rfl rfl)) ?_
    refine RL.gT rfl (bT h8) ?_
    refine RL.val rfl (run_fieldAddr Tryz.underlying44 rfl (off := 1) rfl Tryz.sizeOf39 (by decide) rfl) ?_
    refine RL.gT rfl (bT h8) ?_
    refine RL.val rfl (run_ld Tryz.underlying39 rfl rfl (hH5.cell (i := 0) rfl rfl)) ?_
    refine RL.gT rfl (bT h8) ?_
    refine RL.callP rfl hH5 (c_name_Same _ _ _ _  _ (ha.names.sl.hp hH5) (hb.names.sl.hp hH5)) (run_call2 Tryz.call57 rfl rfl) ?_
    intro w9 hH10
    refine RL.val rfl (run_pickT (bT h8) (v := B _) rfl) ?_
    refine RL.val rfl (run_move (v := B _) rfl) ?_
    refine RL.splitP (dj := 17) rfl (fun h13 => ?_) (fun h13 => ?_)
    · refine RL.gT rfl (bT h13) ?_
      refine RL.val rfl (run_fieldAddr Tryz.underlying44 rfl (off := 2) rfl Tryz.sizeOf42 (by decide) rfl) ?_
      refine RL.gT rfl (bT h13) ?_
      refine RL.val rfl (run_ldBR Tryz.underlying42 rfl rfl rfl (hH10.blk (i := 1) rfl)) ?_
      refine RL.gT rfl (bT h13) ?_
      refine RL.val rfl (run_fieldAddr Tryz.underlying44 rfl (off := 2) rfl Tryz.sizeOf42 (by decide) rfl) ?_
      refine RL.gT rfl (bT h13) ?_
      refine RL.val rfl (run_ldBR Tryz.underlying42 rfl rfl rfl (hH10.blk (i := 0) rfl)) ?_
      refine RL.gT rfl (bT h13) ?_
      refine RL.callP rfl hH10 (c_relate_Same _ _  _) (run_call2 Tryz.call49 rfl rfl) ?_
      intro w14 hH15
      refine RL.val rfl (run_pickT (bT h13) (v := B _) rfl) ?_
      refine RL.val rfl (run_assign (v := B _) rfl) ?_
      refine RL.nil ?_
      refine CW.ret ?_
      refine outP1 Tryz.results28 (congrArg B ?_) hH15.below
      first | exact (alike_no1 (a := a.fc) (b := b.fc) ‹_›).symm | exact (alike_no2 (a := a.fc) (b := b.fc) ‹_›).symm | exact (alike_is (a := a.fc) (b := b.fc) ‹_› ‹_›).symm
    · refine RL.gF rfl rfl (bF h13) rfl ?_
      refine RL.gF rfl rfl (bF h13) rfl ?_
      refine RL.gF rfl rfl (bF h13) rfl ?_
      refine RL.gF rfl rfl (bF h13) rfl ?_
      refine RL.gF rfl rfl (bF h13) rfl ?_
      refine RL.val rfl (run_pickF (bF h13) (v := B false) rfl) ?_
      refine RL.val rfl (run_assign (v := B _) rfl) ?_
      refine RL.nil ?_
      refine CW.ret ?_
      refine outP1 Tryz.results28 (congrArg B ?_) hH10.below
      first | exact (alike_no1 (a := a.fc) (b := b.fc) ‹_›).symm | exact (alike_no2 (a := a.fc) (b := b.fc) ‹_›).symm | exact (alike_is (a := a.fc) (b := b.fc) ‹_› ‹_›).symm
  · refine RL.gF rfl rfl (bF h8) rfl ?_
    refine RL.gF rfl rfl (bF h8) rfl ?_
    refine RL.gF rfl rfl (bF h8) rfl ?_
    refine RL.gF rfl rfl (bF h8) rfl ?_
    refine RL.gF rfl rfl (bF h8) rfl ?_
    refine RL.val rfl (run_pickF (bF h8) (v := B false) rfl) ?_
    refine RL.val rfl (run_move (v := B _) rfl) ?_
    refine RL.gF rfl rfl rfl rfl ?_
    refine RL.gF rfl rfl rfl rfl ?_
    refine RL.gF rfl rfl rfl rfl ?_
    refine RL.gF rfl rfl rfl rfl ?_
    refine RL.gF rfl rfl rfl rfl ?_
    refine RL.val rfl (run_pickF rfl (v := B false) rfl) ?_
    refine RL.val rfl (run_assign (v := B _) rfl) ?_
    refine RL.nil ?_
    refine CW.ret ?_
    refine outP1 Tryz.results28 (congrArg B ?_) hH5.below
    first | exact (alike_no1 (a := a.fc) (b := b.fc) ‹_›).symm | exact (alike_no2 (a := a.fc) (b := b.fc) ‹_›).symm | exact (alike_is (a := a.fc) (b := b.fc) ‹_› ‹_›).symm

theorem c_shape_Same (a b : Shp) (w : World) (ha : ShpV (Kw w) a) (hb : ShpV (Kw w) b) : Calls Tryz.prog 9 #[.agg (shpC a), .agg (shpC b)] w (Pure (B (sameS a.sh b.sh)) w) := by
  have hla := sh_len a
  have hlb := sh_len b
  have hm := ha.facs.sl.small
  have hm2 := hb.facs.sl.small
  unfold maxLen at hm hm2
  refine enter Tryz.func9 rfl Tryz.ntmps9 rfl ?_
  have hH := Hp.start w
  refine CW.seq ?_
  refine CW.region ?_
  refine RL.new rfl hH (f := fun b => (.pointer (some ⟨b, 0, none⟩))) (run_box (v := .agg _) rfl) ?_
  intro b3 w1 hH2
  refine RL.new rfl hH2 (f := fun b => (.pointer (some ⟨b, 0, none⟩))) (run_box (v := .agg _) rfl) ?_
  intro b6 w4 hH5
  refine RL.val rfl (run_assign (v := B false) rfl) ?_
  refine RL.nil ?_
  refine CW.seq ?_
  refine CW.seq ?_
  refine CW.region ?_
  refine RL.val rfl (run_fieldAddr Tryz.underlying24 rfl (off := 0) rfl Tryz.sizeOf4 (by decide) rfl) ?_
  refine RL.val rfl (run_ld Tryz.underlying4 rfl rfl (hH5.cell (i := 1) rfl (v := B _) rfl)) ?_
  refine RL.val rfl (run_fieldAddr Tryz.underlying24 rfl (off := 0) rfl Tryz.sizeOf4 (by decide) rfl) ?_
  refine RL.val rfl (run_ld Tryz.underlying4 rfl rfl (hH5.cell (i := 0) rfl (v := B _) rfl)) ?_
  refine RL.val rfl (run_neqB Tryz.underlying4 rfl rfl) ?_
  refine RL.val rfl (run_move (v := B _) rfl) ?_
  refine RL.split (dj := 11) rfl (fun h10 => ?_) (fun h10 => ?_)
  · refine RL.gF rfl rfl (bR (c := true) h10) rfl ?_
    refine RL.gF rfl rfl (bR (c := true) h10) rfl ?_
    refine RL.gF rfl rfl (bR (c := true) h10) rfl ?_
    refine RL.gF rfl rfl (bR (c := true) h10) rfl ?_
    refine RL.gF rfl rfl (bR (c := true) h10) rfl ?_
    refine RL.gF rfl rfl (bR (c := true) h10) rfl ?_
    refine RL.gF rfl rfl (bR (c := true) h10) rfl ?_
    refine RL.val rfl (run_pickT (bR (c := true) h10) (v := B true) rfl) ?_
    refine RL.nil ?_
    refine CW.condT rfl ?_
    refine CW.seq ?_
    refine CW.region ?_
    refine RL.val rfl (run_assign (v := B false) rfl) ?_
    refine RL.nil ?_
    refine CW.ret ?_
    refine outP1 Tryz.results9 (congrArg B ?_) hH5.below
    first | exact (sameS_no3 (k := k) h0 (by omega) (by rw [sh_get, sh_get]; first | exact nt ‹_› | exact alike_no1 (show ¬ (a.facs.getD k.toNat fac0).kind = (b.facs.getD k.toNat fac0).kind from ‹_›) | exact alike_no2 (show ¬ (a.facs.getD k.toNat fac0).names = (b.facs.getD k.toNat fac0).names from ‹_›) | exact alike_no3 (show ¬ (plainR (a.facs.getD k.toNat fac0).rel).eq (plainR (b.facs.getD k.toNat fac0).rel) from ‹_›))).symm | exact (sameS_yes (k := k) htu (by omega) (by omega) fun j u v => by rw [sh_get, sh_get]; exact hg j u v).symm | exact (sameS_no1 (show ¬ a.tuple = b.tuple by simpa using ‹(!(a.tuple == b.tuple)) = true›)).symm | exact (sameS_no2 (by omega)).symm
  · refine RL.gT rfl (bR (c := false) h10) ?_
    refine RL.val rfl (run_fieldAddr Tryz.underlying24 rfl (off := 1) rfl Tryz.sizeOf22 (by decide) rfl) ?_
    refine RL.gT rfl (bR (c := false) h10) ?_
    refine RL.val rfl (run_ld Tryz.underlying22 rfl rfl (hH5.cell (i := 1) rfl rfl)) ?_
    refine RL.gT rfl (bR (c := false) h10) ?_
    refine RL.val rfl (run_lenSl (ha.facs.sl.hp hH5) rfl Tryz.underlying22 rfl) ?_
    refine RL.gT rfl (bR (c := false) h10) ?_
    refine RL.val rfl (run_fieldAddr Tryz.underlying24 rfl (off := 1) rfl Tryz.sizeOf22 (by decide) rfl) ?_
    refine RL.gT rfl (bR (c := false) h10) ?_
    refine RL.val rfl (run_ld Tryz.underlying22 rfl rfl (hH5.cell (i := 0) rfl rfl)) ?_
    refine RL.gT rfl (bR (c := false) h10) ?_
    refine RL.val rfl (run_lenSl (hb.facs.sl.hp hH5) rfl Tryz.underlying22 rfl) ?_
    refine RL.gT rfl (bR (c := false) h10) ?_
    refine RL.val rfl (run_neq rfl rfl) ?_
    refine RL.val rfl (run_pickF (bR (c := false) h10) (v := B _) rfl) ?_
    refine RL.nil ?_
    refine CW.condP rfl (fun h12 => ?_) (fun h12 => ?_)
    · refine CW.seq ?_
      refine CW.region ?_
      refine RL.val rfl (run_assign (v := B false) rfl) ?_
      refine RL.nil ?_
      refine CW.ret ?_
      refine outP1 Tryz.results9 (congrArg B ?_) hH5.below
      first | exact (sameS_no3 (k := k) h0 (by omega) (by rw [sh_get, sh_get]; first | exact nt ‹_› | exact alike_no1 (show ¬ (a.facs.getD k.toNat fac0).kind = (b.facs.getD k.toNat fac0).kind from ‹_›) | exact alike_no2 (show ¬ (a.facs.getD k.toNat fac0).names = (b.facs.getD k.toNat fac0).names from ‹_›) | exact alike_no3 (show ¬ (plainR (a.facs.getD k.toNat fac0).rel).eq (plainR (b.facs.getD k.toNat fac0).rel) from ‹_›))).symm | exact (sameS_yes (k := k) htu (by omega) (by omega) fun j u v => by rw [sh_get, sh_get]; exact hg j u v).symm | exact (sameS_no1 (show ¬ a.tuple = b.tuple by simpa using ‹(!(a.tuple == b.tuple)) = true›)).symm | exact (sameS_no2 (by omega)).symm
    · refine CW.skip ?_
      refine CW.seq ?_
      refine CW.seq ?_
      refine CW.region ?_
      refine RL.val rfl (run_fieldAddr Tryz.underlying24 rfl (off := 1) rfl Tryz.sizeOf22 (by decide) rfl) ?_
      refine RL.val rfl (run_ld Tryz.underlying22 rfl rfl (hH5.cell (i := 1) rfl rfl)) ?_
      refine RL.val rfl (run_lenSl (ha.facs.sl.hp hH5) rfl Tryz.underlying22 rfl) ?_
      refine RL.val rfl (run_move (v := I 0) rfl) ?_
      refine RL.nil ?_
      refine CW.block ?_
      have hlab : a.facs.length = b.facs.length := by omega
      have htu : a.tuple = b.tuple := by simpa using ‹(!(a.tuple == b.tuple)) = false›
      refine CW.loop (G := (Int)) (fun (k : Int) s' w' => (Fr [4, 5, 23, 24, 25, 26, 27, 28, 29, 30, 31, 32, 33, 34, 35, 36, 37, 38] _ s') ∧ (Hp w w' _) ∧ (s' 23 = I k) ∧ (0 ≤ k) ∧ (k ≤ a.facs.length) ∧ (∀ j : Int, 0 ≤ j → j < k → alikeF (a.facs.getD j.toNat fac0).fc (b.facs.getD j.toNat fac0).fc = true)) (fun (k : Int) => (a.facs.length - k).toNat) (0) ⟨Fr.refl _ _, hH5, rfl, (by omega), (by omega), fun j a b => absurd b (by omega)⟩ ?_
      rintro k sg13 w13 ⟨fr13, hH13, e23_13, h0, hk, hg⟩
      have e2_13 : sg13 2 = .pointer (some ⟨_, _, none⟩) := (fr13 2 rfl).trans rfl
      have e3_13 : sg13 3 = .pointer (some ⟨_, _, none⟩) := (fr13 3 rfl).trans rfl
      have e22_13 : sg13 22 = I _ := (fr13 22 rfl).trans rfl
      refine CW.seq ?_
      refine CW.region ?_
      refine RL.val rfl (run_lss e23_13 e22_13) ?_
      refine RL.nil ?_
      refine CW.seq ?_
      refine CW.condP rfl (fun h15 => ?_) (fun h15 => ?_)
      · refine CW.skip ?_
        refine CW.seq ?_
        refine CW.block ?_
        refine CW.seq ?_
        refine CW.region ?_
        refine RL.val rfl (run_move e23_13) ?_
        refine RL.val rfl (run_assign (v := I _) rfl) ?_
        refine RL.nil ?_
        refine CW.seq ?_
        refine CW.regionD (by kernel_rfl) hH13 ?_
        intro w16 hH17
        refine AN.take 0 rfl rfl (by kernel_rfl) (by kernel_rfl) (by kernel_rfl) (hH17.sub (List.Sublist.refl _)) (fun w hS => run_fieldAddr Tryz.underlying24 rfl (off := 1) rfl Tryz.sizeOf22 (by decide) e2_13) ?_
        refine AN.take 1 rfl rfl (by kernel_rfl) (by kernel_rfl) (by kernel_rfl) (hH17.sub (List.Sublist.refl _)) (fun w hS => run_ld Tryz.underlying22 rfl rfl (hS.cell (i := 1) rfl rfl)) ?_
        refine AN.take 2 rfl rfl (by kernel_rfl) (by kernel_rfl) (by kernel_rfl) (hH17.sub (List.Sublist.refl _)) (fun w hS => run_move (v := I _) rfl) ?_
        refine AN.take 3 rfl rfl (by kernel_rfl) (by kernel_rfl) (by kernel_rfl) (hH17.sub (List.Sublist.refl _)) (fun w hS => run_indexAddrS (ha.facs.sl.hp hS) Tryz.underlying22 Tryz.sizeOf44 rfl rfl (by omega)) ?_
        refine AN.take 4 rfl rfl (by kernel_rfl) (by kernel_rfl) (by kernel_rfl) (hH17.sub (List.Sublist.refl _)) (fun w hS => run_ldE (dv := fac0) facL_len (ha.facs.sl.hp hS) Tryz.underlying44 rfl rfl rfl (by omega)) ?_
        refine AN.take 5 rfl rfl (by kernel_rfl) (by kernel_rfl) (by kernel_rfl) (hH17.sub (List.Sublist.refl _)) (fun w hS => run_fieldAddr Tryz.underlying24 rfl (off := 1) rfl Tryz.sizeOf22 (by decide) e3_13) ?_
        refine AN.take 6 rfl rfl (by kernel_rfl) (by kernel_rfl) (by kernel_rfl) (hH17.sub (List.Sublist.refl _)) (fun w hS => run_ld Tryz.underlying22 rfl rfl (hS.cell (i := 0) rfl rfl)) ?_
        refine AN.take 7 rfl rfl (by kernel_rfl) (by kernel_rfl) (by kernel_rfl) (hH17.sub (List.Sublist.refl _)) (fun w hS => run_move (v := I _) rfl) ?_
        refine AN.take 8 rfl rfl (by kernel_rfl) (by kernel_rfl) (by kernel_rfl) (hH17.sub (List.Sublist.refl _)) (fun w hS => run_indexAddrS (hb.facs.sl.hp hS) Tryz.underlying22 Tryz.sizeOf44 rfl rfl (by omega)) ?_
        refine AN.take 9 rfl rfl (by kernel_rfl) (by kernel_rfl) (by kernel_rfl) (hH17.sub (List.Sublist.refl _)) (fun w hS => run_ldE (dv := fac0) facL_len (hb.facs.sl.hp hS) Tryz.underlying44 rfl rfl rfl (by omega)) ?_
        refine AN.one 10 (by kernel_rfl) ?_
        refine AO.callP rfl gnone rfl hH17 (List.Sublist.refl _) (c_shape_alike _ _  _ ((ha.at (by omega) (by omega)).mono hH17.kw) ((hb.at (by omega) (by omega)).mono hH17.kw)) (run_call2 Tryz.call28 rfl rfl) ?_
        intro w18 hH19
        refine AN.take 11 rfl rfl (by kernel_rfl) (by kernel_rfl) (by kernel_rfl) (hH19.sub (List.Sublist.refl _)) (fun w hS => run_not rfl) ?_
        refine AN.done (by kernel_rfl) ?_
        refine CW.cond rfl (fun h22 => ?_) (fun h22 => ?_)
        · refine CW.seq ?_
          refine CW.region ?_
          refine RL.val rfl (run_assign (v := B false) rfl) ?_
          refine RL.nil ?_
          refine CW.ret ?_
          refine outP1 Tryz.results9 (congrArg B ?_) hH19.below
          first | exact (sameS_no3 (k := k) h0 (by omega) (by rw [sh_get, sh_get]; first | exact nt ‹_› | exact alike_no1 (show ¬ (a.facs.getD k.toNat fac0).kind = (b.facs.getD k.toNat fac0).kind from ‹_›) | exact alike_no2 (show ¬ (a.facs.getD k.toNat fac0).names = (b.facs.getD k.toNat fac0).names from ‹_›) | exact alike_no3 (show ¬ (plainR (a.facs.getD k.toNat fac0).rel).eq (plainR (b.facs.getD k.toNat fac0).rel) from ‹_›))).symm | exact (sameS_yes (k := k) htu (by omega) (by omega) fun j u v => by rw [sh_get, sh_get]; exact hg j u v).symm | exact (sameS_no1 (show ¬ a.tuple = b.tuple by simpa using ‹(!(a.tuple == b.tuple)) = true›)).symm | exact (sameS_no2 (by omega)).symm
        · refine CW.skip ?_
          refine CW.region ?_
          refine RL.val rfl (run_add e23_13 rfl (by omega)) ?_
          refine RL.val rfl (run_move (v := I _) rfl) ?_
          refine RL.nil ?_
          refine ⟨k + 1, ?_, ((((((((((((((((fr13.u rfl).u rfl).u rfl).u rfl).u rfl).u rfl).u rfl).u rfl).u rfl).u rfl).u rfl).u rfl).u rfl).u rfl).u rfl).u rfl).u rfl, hH19, (congrArg I (by first | rfl | omega)), ?_, ?_, ?_⟩
          · ((try dsimp only); omega)
          · omega
          · omega
          · exact fun j u v => if e : j = k then e ▸ (by first | exact nf ‹_› | exact alike_all (a := (a.facs.getD k.toNat fac0).fc) (b := (b.facs.getD k.toNat fac0).fc) (show (a.facs.getD k.toNat fac0).kind = (b.facs.getD k.toNat fac0).kind by omega) (Decidable.of_not_not ‹¬ ¬ (a.facs.getD k.toNat fac0).names = (b.facs.getD k.toNat fac0).names›) (Decidable.of_not_not ‹¬ ¬ (plainR _).eq (plainR _)›)) else hg j u (by omega)
      · refine CW.exit (id := 0) rfl ?_
        refine CW.seq ?_
        refine CW.region ?_
        refine RL.val rfl (run_assign (v := B true) rfl) ?_
        refine RL.nil ?_
        refine CW.ret ?_
        refine outP1 Tryz.results9 (congrArg B ?_) hH13.below
        first | exact (sameS_no3 (k := k) h0 (by omega) (by rw [sh_get, sh_get]; first | exact nt ‹_› | exact alike_no1 (show ¬ (a.facs.getD k.toNat fac0).kind = (b.facs.getD k.toNat fac0).kind from ‹_›) | exact alike_no2 (show ¬ (a.facs.getD k.toNat fac0).names = (b.facs.getD k.toNat fac0).names from ‹_›) | exact alike_no3 (show ¬ (plainR (a.facs.getD k.toNat fac0).rel).eq (plainR (b.facs.getD k.toNat fac0).rel) from ‹_›))).symm | exact (sameS_yes (k := k) htu (by omega) (by omega) fun j u v => by rw [sh_get, sh_get]; exact hg j u v).symm | exact (sameS_no1 (show ¬ a.tuple = b.tuple by simpa using ‹(!(a.tuple == b.tuple)) = true›)).symm | exact (sameS_no2 (by omega)).symm

theorem c_clearanceref07_Same (a b : Shp) (w : World) (ha : ShpV (Kw w) a) (hb : ShpV (Kw w) b) : Calls Tryz.prog 10 #[.agg (shpC a), .agg (shpC b)] w (Pure (B (sameS a.sh b.sh)) w) := by
  have hla := sh_len a
  have hlb := sh_len b
  have hm := ha.facs.sl.small
  have hm2 := hb.facs.sl.small
  unfold maxLen at hm hm2
  refine enter Tryz.func10 rfl Tryz.ntmps10 rfl ?_
  have hH := Hp.start w
  refine CW.seq ?_
  refine CW.region ?_
  refine RL.new rfl hH (f := fun b => (.pointer (some ⟨b, 0, none⟩))) (run_box (v := .agg _) rfl) ?_
  intro b3 w1 hH2
  refine RL.new rfl hH2 (f := fun b => (.pointer (some ⟨b, 0, none⟩))) (run_box (v := .agg _) rfl) ?_
  intro b6 w4 hH5
  refine RL.val rfl (run_assign (v := B false) rfl) ?_
  refine RL.nil ?_
  refine CW.seq ?_
  refine CW.seq ?_
  refine CW.region ?_
  refine RL.val rfl (run_fieldAddr Tryz.underlying24 rfl (off := 0) rfl Tryz.sizeOf4 (by decide) rfl) ?_
  refine RL.val rfl (run_ld Tryz.underlying4 rfl rfl (hH5.cell (i := 1) rfl (v := B _) rfl)) ?_
  refine RL.val rfl (run_fieldAddr Tryz.underlying24 rfl (off := 0) rfl Tryz.sizeOf4 (by decide) rfl) ?_
  refine RL.val rfl (run_ld Tryz.underlying4 rfl rfl (hH5.cell (i := 0) rfl (v := B _) rfl)) ?_
  refine RL.val rfl (run_neqB Tryz.underlying4 rfl rfl) ?_
  refine RL.val rfl (run_move (v := B _) rfl) ?_
  refine RL.split (dj := 13) rfl (fun h10 => ?_) (fun h10 => ?_)
  · refine RL.gF rfl rfl (bR (c := true) h10) rfl ?_
    refine RL.gF rfl rfl (bR (c := true) h10) rfl ?_
    refine RL.gF rfl rfl (bR (c := true) h10) rfl ?_
    refine RL.gF rfl rfl (bR (c := true) h10) rfl ?_
    refine RL.gF rfl rfl (bR (c := true) h10) rfl ?_
    refine RL.gF rfl rfl (bR (c := true) h10) rfl ?_
    refine RL.gF rfl rfl (bR (c := true) h10) rfl ?_
    refine RL.val rfl (run_pickT (bR (c := true) h10) (v := B true) rfl) ?_
    refine RL.nil ?_
    refine CW.condT rfl ?_
    refine CW.seq ?_
    refine CW.region ?_
    refine RL.val rfl (run_assign (v := B false) rfl) ?_
    refine RL.nil ?_
    refine CW.ret ?_
    refine outP1 Tryz.results10 (congrArg B ?_) hH5.below
    first | exact (sameS_no3 (k := k) h0 (by omega) (by rw [sh_get, sh_get]; first | exact nt ‹_› | exact alike_no1 (show ¬ (a.facs.getD k.toNat fac0).kind = (b.facs.getD k.toNat fac0).kind from ‹_›) | exact alike_no2 (show ¬ (a.facs.getD k.toNat fac0).names = (b.facs.getD k.toNat fac0).names from ‹_›) | exact alike_no3 (show ¬ (plainR (a.facs.getD k.toNat fac0).rel).eq (plainR (b.facs.getD k.toNat fac0).rel) from ‹_›))).symm | exact (sameS_yes (k := k) htu (by omega) (by omega) fun j u v => by rw [sh_get, sh_get]; exact hg j u v).symm | exact (sameS_no1 (show ¬ a.tuple = b.tuple by simpa using ‹(!(a.tuple == b.tuple)) = true›)).symm | exact (sameS_no2 (by omega)).symm
  · refine RL.gT rfl (bR (c := false) h10) ?_
    refine RL.val rfl (run_fieldAddr Tryz.underlying24 rfl (off := 1) rfl Tryz.sizeOf22 (by decide) rfl) ?_
    refine RL.gT rfl (bR (c := false) h10) ?_
    refine RL.val rfl (run_ld Tryz.underlying22 rfl rfl (hH5.cell (i := 1) rfl rfl)) ?_
    refine RL.gT rfl (bR (c := false) h10) ?_
    refine RL.val rfl (run_lenSl (ha.facs.sl.hp hH5) rfl Tryz.underlying22 rfl) ?_
    refine RL.gT rfl (bR (c := false) h10) ?_
    refine RL.val rfl (run_fieldAddr Tryz.underlying24 rfl (off := 1) rfl Tryz.sizeOf22 (by decide) rfl) ?_
    refine RL.gT rfl (bR (c := false) h10) ?_
    refine RL.val rfl (run_ld Tryz.underlying22 rfl rfl (hH5.cell (i := 0) rfl rfl)) ?_
    refine RL.gT rfl (bR (c := false) h10) ?_
    refine RL.val rfl (run_lenSl (hb.facs.sl.hp hH5) rfl Tryz.underlying22 rfl) ?_
    refine RL.gT rfl (bR (c := false) h10) ?_
    refine RL.val rfl (run_neq rfl rfl) ?_
    refine RL.val rfl (run_pickF (bR (c := false) h10) (v := B _) rfl) ?_
    refine RL.nil ?_
    refine CW.condP rfl (fun h12 => ?_) (fun h12 => ?_)
    · refine CW.seq ?_
      refine CW.region ?_
      refine RL.val rfl (run_assign (v := B false) rfl) ?_
      refine RL.nil ?_
      refine CW.ret ?_
      refine outP1 Tryz.results10 (congrArg B ?_) hH5.below
      first | exact (sameS_no3 (k := k) h0 (by omega) (by rw [sh_get, sh_get]; first | exact nt ‹_› | exact alike_no1 (show ¬ (a.facs.getD k.toNat fac0).kind = (b.facs.getD k.toNat fac0).kind from ‹_›) | exact alike_no2 (show ¬ (a.facs.getD k.toNat fac0).names = (b.facs.getD k.toNat fac0).names from ‹_›) | exact alike_no3 (show ¬ (plainR (a.facs.getD k.toNat fac0).rel).eq (plainR (b.facs.getD k.toNat fac0).rel) from ‹_›))).symm | exact (sameS_yes (k := k) htu (by omega) (by omega) fun j u v => by rw [sh_get, sh_get]; exact hg j u v).symm | exact (sameS_no1 (show ¬ a.tuple = b.tuple by simpa using ‹(!(a.tuple == b.tuple)) = true›)).symm | exact (sameS_no2 (by omega)).symm
    · refine CW.skip ?_
      refine CW.seq ?_
      refine CW.seq ?_
      refine CW.region ?_
      refine RL.val rfl (run_assign (v := I 0) rfl) ?_
      refine RL.nil ?_
      refine CW.block ?_
      have hlab : a.facs.length = b.facs.length := by omega
      have htu : a.tuple = b.tuple := by simpa using ‹(!(a.tuple == b.tuple)) = false›
      refine CW.loop (G := (Int)) (fun (k : Int) s' w' => (Fr [4, 5, 6, 7, 22, 23, 24, 25, 26, 27, 28, 29, 30, 31, 32, 33, 34, 35, 36, 37, 38, 39, 40, 41, 42, 43, 44, 45, 46, 47, 48, 49, 50, 51, 52, 53, 54, 55, 56, 57, 58, 59] _ s') ∧ (Hp w w' _) ∧ (s' 5 = I k) ∧ (0 ≤ k) ∧ (k ≤ a.facs.length) ∧ (∀ j : Int, 0 ≤ j → j < k → alikeF (a.facs.getD j.toNat fac0).fc (b.facs.getD j.toNat fac0).fc = true)) (fun (k : Int) => (a.facs.length - k).toNat) (0) ⟨Fr.refl _ _, hH5, rfl, (by omega), (by omega), fun j a b => absurd b (by omega)⟩ ?_
      rintro k sg13 w13 ⟨fr13, hH13, e5_13, h0, hk, hg⟩
      have e2_13 : sg13 2 = .pointer (some ⟨_, _, none⟩) := (fr13 2 rfl).trans rfl
      have e3_13 : sg13 3 = .pointer (some ⟨_, _, none⟩) := (fr13 3 rfl).trans rfl
      refine CW.seq ?_
      refine CW.seq ?_
      refine CW.region ?_
      refine RL.val rfl (run_move e5_13) ?_
      refine RL.val rfl (run_fieldAddr Tryz.underlying24 rfl (off := 1) rfl Tryz.sizeOf22 (by decide) e2_13) ?_
      refine RL.val rfl (run_ld Tryz.underlying22 rfl rfl (hH13.cell (i := 1) rfl rfl)) ?_
      refine RL.val rfl (run_lenSl (ha.facs.sl.hp hH13) rfl Tryz.underlying22 rfl) ?_
      refine RL.val rfl (run_lss rfl rfl) ?_
      refine RL.nil ?_
      refine CW.condP rfl (fun h15 => ?_) (fun h15 => ?_)
      · refine CW.skip ?_
        refine CW.seq ?_
        refine CW.block ?_
        refine CW.seq ?_
        refine CW.regionD (by kernel_rfl) hH13 ?_
        intro w16 hH17
        refine AN.take 0 rfl rfl (by kernel_rfl) (by kernel_rfl) (by kernel_rfl) (hH17.sub (List.Sublist.refl _)) (fun w hS => run_fieldAddr Tryz.underlying24 rfl (off := 1) rfl Tryz.sizeOf22 (by decide) e2_13) ?_
        refine AN.take 1 rfl rfl (by kernel_rfl) (by kernel_rfl) (by kernel_rfl) (hH17.sub (List.Sublist.refl _)) (fun w hS => run_ld Tryz.underlying22 rfl rfl (hS.cell (i := 1) rfl rfl)) ?_
        refine AN.take 2 rfl rfl (by kernel_rfl) (by kernel_rfl) (by kernel_rfl) (hH17.sub (List.Sublist.refl _)) (fun w hS => run_move e5_13) ?_
        refine AN.take 3 rfl rfl (by kernel_rfl) (by kernel_rfl) (by kernel_rfl) (hH17.sub (List.Sublist.refl _)) (fun w hS => run_indexAddrS (ha.facs.sl.hp hS) Tryz.underlying22 Tryz.sizeOf44 rfl rfl (by omega)) ?_
        refine AN.take 4 rfl rfl (by kernel_rfl) (by kernel_rfl) (by kernel_rfl) (hH17.sub (List.Sublist.refl _)) (fun w hS => run_ldE (dv := fac0) facL_len (ha.facs.sl.hp hS) Tryz.underlying44 rfl rfl rfl (by omega)) ?_
        refine AN.take 5 rfl rfl (by kernel_rfl) (by kernel_rfl) (by kernel_rfl) (hH17.sub (List.Sublist.refl _)) (fun w hS => run_fieldAddr Tryz.underlying24 rfl (off := 1) rfl Tryz.sizeOf22 (by decide) e3_13) ?_
        refine AN.take 6 rfl rfl (by kernel_rfl) (by kernel_rfl) (by kernel_rfl) (hH17.sub (List.Sublist.refl _)) (fun w hS => run_ld Tryz.underlying22 rfl rfl (hS.cell (i := 0) rfl rfl)) ?_
        refine AN.take 7 rfl rfl (by kernel_rfl) (by kernel_rfl) (by kernel_rfl) (hH17.sub (List.Sublist.refl _)) (fun w hS => run_move e5_13) ?_
        refine AN.take 8 rfl rfl (by kernel_rfl) (by kernel_rfl) (by kernel_rfl) (hH17.sub (List.Sublist.refl _)) (fun w hS => run_indexAddrS (hb.facs.sl.hp hS) Tryz.underlying22 Tryz.sizeOf44 rfl rfl (by omega)) ?_
        refine AN.take 9 rfl rfl (by kernel_rfl) (by kernel_rfl) (by kernel_rfl) (hH17.sub (List.Sublist.refl _)) (fun w hS => run_ldE (dv := fac0) facL_len (hb.facs.sl.hp hS) Tryz.underlying44 rfl rfl rfl (by omega)) ?_
        refine AN.two 10 11 (by kernel_rfl) ?_ ?_
        · refine AO.new rfl gnone rfl hH17 (List.Sublist.refl _) (f := fun b => .pointer (some ⟨b, 0, none⟩)) (run_alloc zero_fac) ?_
          intro b20 w18 hH19
          refine AN.one 11 (by kernel_rfl) ?_
          refine AO.new rfl gnone rfl hH19 (.cons _ (List.Sublist.refl _)) (f := fun b => .pointer (some ⟨b, 0, none⟩)) (run_alloc zero_fac) ?_
          intro b23 w21 hH22
          refine AN.one 12 (by kernel_rfl) ?_
          refine AO.set rfl gnone hH22 (j := 1) rfl (.cons _ (.cons _ (List.Sublist.refl _))) (run_stFac (ha.at (by omega) (by omega)) rfl rfl rfl (hH22.blk (i := 1) rfl)) ?_
          intro w26 hH27
          simp only [List.set_cons_zero, List.set_cons_succ] at hH27
          refine AN.one 13 (by kernel_rfl) ?_
          refine AO.set rfl gnone hH27 (j := 0) rfl (.cons _ (.cons _ (List.Sublist.refl _))) (run_stFac (hb.at (by omega) (by omega)) rfl rfl rfl (hH27.blk (i := 0) rfl)) ?_
          intro w30 hH31
          simp only [List.set_cons_zero, List.set_cons_succ] at hH31
          refine AN.done (by kernel_rfl) ?_
          refine CW.seq ?_
          refine CW.region ?_
          refine RL.val rfl (run_fieldAddr Tryz.underlying44 rfl (off := 0) rfl Tryz.sizeOf3 (by decide) rfl) ?_
          refine RL.val rfl (run_ld Tryz.underlying3 rfl rfl (hH31.cell (i := 1) rfl (v := I _) rfl)) ?_
          refine RL.val rfl (run_fieldAddr Tryz.underlying44 rfl (off := 0) rfl Tryz.sizeOf3 (by decide) rfl) ?_
          refine RL.val rfl (run_ld Tryz.underlying3 rfl rfl (hH31.cell (i := 0) rfl (v := I _) rfl)) ?_
          refine RL.val rfl (run_neq rfl rfl) ?_
          refine RL.val rfl (run_move (v := B _) rfl) ?_
          refine RL.splitP (dj := 44) rfl (fun h33 => ?_) (fun h33 => ?_)
          · refine RL.gF rfl rfl (bT h33) rfl ?_
            refine RL.gF rfl rfl (bT h33) rfl ?_
            refine RL.gF rfl rfl (bT h33) rfl ?_
            refine RL.gF rfl rfl (bT h33) rfl ?_
            refine RL.gF rfl rfl (bT h33) rfl ?_
            refine RL.gF rfl rfl (bT h33) rfl ?_
            refine RL.val rfl (run_pickT (bT h33) (v := B true) rfl) ?_
            refine RL.val rfl (run_move (v := B _) rfl) ?_
            refine RL.gF rfl rfl rfl rfl ?_
            refine RL.gF rfl rfl rfl rfl ?_
            refine RL.gF rfl rfl rfl rfl ?_
            refine RL.gF rfl rfl rfl rfl ?_
            refine RL.gF rfl rfl rfl rfl ?_
            refine RL.gF rfl rfl rfl rfl ?_
            refine RL.val rfl (run_pickT rfl (v := B true) rfl) ?_
            refine RL.nil ?_
            refine CW.condT rfl ?_
            refine CW.seq ?_
            refine CW.region ?_
            refine RL.val rfl (run_assign (v := B false) rfl) ?_
            refine RL.nil ?_
            refine CW.ret ?_
            refine outP1 Tryz.results10 (congrArg B ?_) hH31.below
            first | exact (sameS_no3 (k := k) h0 (by omega) (by rw [sh_get, sh_get]; first | exact nt ‹_› | exact alike_no1 (show ¬ (a.facs.getD k.toNat fac0).kind = (b.facs.getD k.toNat fac0).kind from ‹_›) | exact alike_no2 (show ¬ (a.facs.getD k.toNat fac0).names = (b.facs.getD k.toNat fac0).names from ‹_›) | exact alike_no3 (show ¬ (plainR (a.facs.getD k.toNat fac0).rel).eq (plainR (b.facs.getD k.toNat fac0).rel) from ‹_›))).symm | exact (sameS_yes (k := k) htu (by omega) (by omega) fun j u v => by rw [sh_get, sh_get]; exact hg j u v).symm | exact (sameS_no1 (show ¬ a.tuple = b.tuple by simpa using ‹(!(a.tuple == b.tuple)) = true›)).symm | exact (sameS_no2 (by omega)).symm
          · refine RL.gT rfl (bF h33) ?_
            refine RL.val rfl (run_fieldAddr Tryz.underlying44 rfl (off := 1) rfl Tryz.sizeOf39 (by decide) rfl) ?_
            refine RL.gT rfl (bF h33) ?_
            refine RL.val rfl (run_ld Tryz.underlying39 rfl rfl (hH31.cell (i := 1) rfl rfl)) ?_
            refine RL.gT rfl (bF h33) ?_
            refine RL.val rfl (run_fieldAddr Tryz.underlying44 rfl (off := 1) rfl Tryz.sizeOf39 (by decide) rfl) ?_
            refine RL.gT rfl (bF h33) ?_
            refine RL.val rfl (run_ld Tryz.underlying39 rfl rfl (hH31.cell (i := 0) rfl rfl)) ?_
            refine RL.gT rfl (bF h33) ?_
            refine RL.callP rfl hH31 (c_clearanceref02_Same _ _ _ _  _ ((ha.at (by omega) (by omega)).names.sl.hp hH31) ((hb.at (by omega) (by omega)).names.sl.hp hH31)) (run_call2 Tryz.call29 rfl rfl) ?_
            intro w34 hH35
            refine RL.gT rfl (bF h33) ?_
            refine RL.val rfl (run_notP rfl) ?_
            refine RL.val rfl (run_pickF (bF h33) (v := B _) rfl) ?_
            refine RL.val rfl (run_move (v := B _) rfl) ?_
            refine RL.splitP (dj := 52) rfl (fun h39 => ?_) (fun h39 => ?_)
            · refine RL.gF rfl rfl (bT h39) rfl ?_
              refine RL.gF rfl rfl (bT h39) rfl ?_
              refine RL.gF rfl rfl (bT h39) rfl ?_
              refine RL.gF rfl rfl (bT h39) rfl ?_
              refine RL.gF rfl rfl (bT h39) rfl ?_
              refine RL.gF rfl rfl (bT h39) rfl ?_
              refine RL.val rfl (run_pickT (bT h39) (v := B true) rfl) ?_
              refine RL.nil ?_
              refine CW.condT rfl ?_
              refine CW.seq ?_
              refine CW.region ?_
              refine RL.val rfl (run_assign (v := B false) rfl) ?_
              refine RL.nil ?_
              refine CW.ret ?_
              refine outP1 Tryz.results10 (congrArg B ?_) hH35.below
              first | exact (sameS_no3 (k := k) h0 (by omega) (by rw [sh_get, sh_get]; first | exact nt ‹_› | exact alike_no1 (show ¬ (a.facs.getD k.toNat fac0).kind = (b.facs.getD k.toNat fac0).kind from ‹_›) | exact alike_no2 (show ¬ (a.facs.getD k.toNat fac0).names = (b.facs.getD k.toNat fac0).names from ‹_›) | exact alike_no3 (show ¬ (plainR (a.facs.getD k.toNat fac0).rel).eq (plainR (b.facs.getD k.toNat fac0).rel) from ‹_›))).symm | exact (sameS_yes (k := k) htu (by omega) (by omega) fun j u v => by rw [sh_get, sh_get]; exact hg j u v).symm | exact (sameS_no1 (show ¬ a.tuple = b.tuple by simpa using ‹(!(a.tuple == b.tuple)) = true›)).symm | exact (sameS_no2 (by omega)).symm
            · refine RL.gT rfl (bF h39) ?_
              refine RL.val rfl (run_fieldAddr Tryz.underlying44 rfl (off := 2) rfl Tryz.sizeOf42 (by decide) rfl) ?_
              refine RL.gT rfl (bF h39) ?_
              refine RL.val rfl (run_ldBR Tryz.underlying42 rfl rfl rfl (hH35.blk (i := 1) rfl)) ?_
              refine RL.gT rfl (bF h39) ?_
              refine RL.val rfl (run_fieldAddr Tryz.underlying44 rfl (off := 2) rfl Tryz.sizeOf42 (by decide) rfl) ?_
              refine RL.gT rfl (bF h39) ?_
              refine RL.val rfl (run_ldBR Tryz.underlying42 rfl rfl rfl (hH35.blk (i := 0) rfl)) ?_
              refine RL.gT rfl (bF h39) ?_
              refine RL.callP rfl hH35 (c_clearanceref03_Same _ _  _) (run_call2 Tryz.call30 rfl rfl) ?_
              intro w40 hH41
              refine RL.gT rfl (bF h39) ?_
              refine RL.val rfl (run_notP rfl) ?_
              refine RL.val rfl (run_pickF (bF h39) (v := B _) rfl) ?_
              refine RL.nil ?_
              refine CW.condP rfl (fun h45 => ?_) (fun h45 => ?_)
              · refine CW.seq ?_
                refine CW.region ?_
                refine RL.val rfl (run_assign (v := B false) rfl) ?_
                refine RL.nil ?_
                refine CW.ret ?_
                refine outP1 Tryz.results10 (congrArg B ?_) hH41.below
                first | exact (sameS_no3 (k := k) h0 (by omega) (by rw [sh_get, sh_get]; first | exact nt ‹_› | exact alike_no1 (show ¬ (a.facs.getD k.toNat fac0).kind = (b.facs.getD k.toNat fac0).kind from ‹_›) | exact alike_no2 (show ¬ (a.facs.getD k.toNat fac0).names = (b.facs.getD k.toNat fac0).names from ‹_›) | exact alike_no3 (show ¬ (plainR (a.facs.getD k.toNat fac0).rel).eq (plainR (b.facs.getD k.toNat fac0).rel) from ‹_›))).symm | exact (sameS_yes (k := k) htu (by omega) (by omega) fun j u v => by rw [sh_get, sh_get]; exact hg j u v).symm | exact (sameS_no1 (show ¬ a.tuple = b.tuple by simpa using ‹(!(a.tuple == b.tuple)) = true›)).symm | exact (sameS_no2 (by omega)).symm
              · refine CW.skip ?_
                refine CW.region ?_
                refine RL.val rfl (run_move e5_13) ?_
                refine RL.val rfl (run_add rfl rfl (by omega)) ?_
                refine RL.val rfl (run_assign (v := I _) rfl) ?_
                refine RL.nil ?_
                refine ⟨k + 1, ?_, ((((((((((((((((((((((((((((((((((((((((fr13.u rfl).u rfl).u rfl).u rfl).u rfl).u rfl).u rfl).u rfl).u rfl).u rfl).u rfl).u rfl).u rfl).u rfl).u rfl).u rfl).u rfl).u rfl).u rfl).u rfl).u rfl).u rfl).u rfl).u rfl).u rfl).u rfl).u rfl).u rfl).u rfl).u rfl).u rfl).u rfl).u rfl).u rfl).u rfl).u rfl).u rfl).u rfl).u rfl).u rfl).u rfl, (hH41.sub (.cons _ (.cons _ (List.Sublist.refl _)))), (congrArg I (by first | rfl | omega)), ?_, ?_, ?_⟩
                · ((try dsimp only); omega)
                · omega
                · omega
                · exact fun j u v => if e : j = k then e ▸ (by first | exact nf ‹_› | exact alike_all (a := (a.facs.getD k.toNat fac0).fc) (b := (b.facs.getD k.toNat fac0).fc) (show (a.facs.getD k.toNat fac0).kind = (b.facs.getD k.toNat fac0).kind by omega) (Decidable.of_not_not ‹¬ ¬ (a.facs.getD k.toNat fac0).names = (b.facs.getD k.toNat fac0).names›) (Decidable.of_not_not ‹¬ ¬ (plainR _).eq (plainR _)›)) else hg j u (by omega)
        · refine AO.new rfl gnone rfl hH17 (List.Sublist.refl _) (f := fun b => .pointer (some ⟨b, 0, none⟩)) (run_alloc zero_fac) ?_
          intro b48 w46 hH47
          refine AN.one 10 (by kernel_rfl) ?_
          refine AO.new rfl gnone rfl hH47 (.cons _ (List.Sublist.refl _)) (f := fun b => .pointer (some ⟨b, 0, none⟩)) (run_alloc zero_fac) ?_
          intro b51 w49 hH50
          refine AN.one 12 (by kernel_rfl) ?_
          refine AO.set rfl gnone hH50 (j := 0) rfl (.cons _ (.cons _ (List.Sublist.refl _))) (run_stFac (ha.at (by omega) (by omega)) rfl rfl rfl (hH50.blk (i := 0) rfl)) ?_
          intro w54 hH55
          simp only [List.set_cons_zero, List.set_cons_succ] at hH55
          refine AN.one 13 (by kernel_rfl) ?_
          refine AO.set rfl gnone hH55 (j := 1) rfl (.cons _ (.cons _ (List.Sublist.refl _))) (run_stFac (hb.at (by omega) (by omega)) rfl rfl rfl (hH55.blk (i := 1) rfl)) ?_
          intro w58 hH59
          simp only [List.set_cons_zero, List.set_cons_succ] at hH59
          refine AN.done (by kernel_rfl) ?_
          refine CW.seq ?_
          refine CW.region ?_
          refine RL.val rfl (run_fieldAddr Tryz.underlying44 rfl (off := 0) rfl Tryz.sizeOf3 (by decide) rfl) ?_
          refine RL.val rfl (run_ld Tryz.underlying3 rfl rfl (hH59.cell (i := 0) rfl (v := I _) rfl)) ?_
          refine RL.val rfl (run_fieldAddr Tryz.underlying44 rfl (off := 0) rfl Tryz.sizeOf3 (by decide) rfl) ?_
          refine RL.val rfl (run_ld Tryz.underlying3 rfl rfl (hH59.cell (i := 1) rfl (v := I _) rfl)) ?_
          refine RL.val rfl (run_neq rfl rfl) ?_
          refine RL.val rfl (run_move (v := B _) rfl) ?_
          refine RL.splitP (dj := 44) rfl (fun h61 => ?_) (fun h61 => ?_)
          · refine RL.gF rfl rfl (bT h61) rfl ?_
            refine RL.gF rfl rfl (bT h61) rfl ?_
            refine RL.gF rfl rfl (bT h61) rfl ?_
            refine RL.gF rfl rfl (bT h61) rfl ?_
            refine RL.gF rfl rfl (bT h61) rfl ?_
            refine RL.gF rfl rfl (bT h61) rfl ?_
            refine RL.val rfl (run_pickT (bT h61) (v := B true) rfl) ?_
            refine RL.val rfl (run_move (v := B _) rfl) ?_
            refine RL.gF rfl rfl rfl rfl ?_
            refine RL.gF rfl rfl rfl rfl ?_
            refine RL.gF rfl rfl rfl rfl ?_
            refine RL.gF rfl rfl rfl rfl ?_
            refine RL.gF rfl rfl rfl rfl ?_
            refine RL.gF rfl rfl rfl rfl ?_
            refine RL.val rfl (run_pickT rfl (v := B true) rfl) ?_
            refine RL.nil ?_
            refine CW.condT rfl ?_
            refine CW.seq ?_
            refine CW.region ?_
            refine RL.val rfl (run_assign (v := B false) rfl) ?_
            refine RL.nil ?_
            refine CW.ret ?_
            refine outP1 Tryz.results10 (congrArg B ?_) hH59.below
            first | exact (sameS_no3 (k := k) h0 (by omega) (by rw [sh_get, sh_get]; first | exact nt ‹_› | exact alike_no1 (show ¬ (a.facs.getD k.toNat fac0).kind = (b.facs.getD k.toNat fac0).kind from ‹_›) | exact alike_no2 (show ¬ (a.facs.getD k.toNat fac0).names = (b.facs.getD k.toNat fac0).names from ‹_›) | exact alike_no3 (show ¬ (plainR (a.facs.getD k.toNat fac0).rel).eq (plainR (b.facs.getD k.toNat fac0).rel) from ‹_›))).symm | exact (sameS_yes (k := k) htu (by omega) (by omega) fun j u v => by rw [sh_get, sh_get]; exact hg j u v).symm | exact (sameS_no1 (show ¬ a.tuple = b.tuple by simpa using ‹(!(a.tuple == b.tuple)) = true›)).symm | exact (sameS_no2 (by omega)).symm
          · refine RL.gT rfl (bF h61) ?_
            refine RL.val rfl (run_fieldAddr Tryz.underlying44 rfl (off := 1) rfl Tryz.sizeOf39 (by decide) rfl) ?_
            refine RL.gT rfl (bF h61) ?_
            refine RL.val rfl (run_ld Tryz.underlying39 rfl rfl (hH59.cell (i := 0) rfl rfl)) ?_
            refine RL.gT rfl (bF h61) ?_
            refine RL.val rfl (run_fieldAddr Tryz.underlying44 rfl (off := 1) rfl Tryz.sizeOf39 (by decide) rfl) ?_
            refine RL.gT rfl (bF h61) ?_
            refine RL.val rfl (run_ld Tryz.underlying39 rfl rfl (hH59.cell (i := 1) rfl rfl)) ?_
            refine RL.gT rfl (bF h61) ?_
            refine RL.callP rfl hH59 (c_clearanceref02_Same _ _ _ _  _ ((ha.at (by omega) (by omega)).names.sl.hp hH59) ((hb.at (by omega) (by omega)).names.sl.hp hH59)) (run_call2 Tryz.call29 rfl rfl) ?_
            intro w62 hH63
            refine RL.gT rfl (bF h61) ?_
            refine RL.val rfl (run_notP rfl) ?_
            refine RL.val rfl (run_pickF (bF h61) (v := B _) rfl) ?_
            refine RL.val rfl (run_move (v := B _) rfl) ?_
            refine RL.splitP (dj := 52) rfl (fun h67 => ?_) (fun h67 => ?_)
            · refine RL.gF rfl rfl (bT h67) rfl ?_
              refine RL.gF rfl rfl (bT h67) rfl ?_
              refine RL.gF rfl rfl (bT h67) rfl ?_
              refine RL.gF rfl rfl (bT h67) rfl ?_
              refine RL.gF rfl rfl (bT h67) rfl ?_
              refine RL.gF rfl rfl (bT h67) rfl ?_
              refine RL.val rfl (run_pickT (bT h67) (v := B true) rfl) ?_
              refine RL.nil ?_
              refine CW.condT rfl ?_
              refine CW.seq ?_
              refine CW.region ?_
              refine RL.val rfl (run_assign (v := B false) rfl) ?_
              refine RL.nil ?_
              refine CW.ret ?_
              refine outP1 Tryz.results10 (congrArg B ?_) hH63.below
              first | exact (sameS_no3 (k := k) h0 (by omega) (by rw [sh_get, sh_get]; first | exact nt ‹_› | exact alike_no1 (show ¬ (a.facs.getD k.toNat fac0).kind = (b.facs.getD k.toNat fac0).kind from ‹_›) | exact alike_no2 (show ¬ (a.facs.getD k.toNat fac0).names = (b.facs.getD k.toNat fac0).names from ‹_›) | exact alike_no3 (show ¬ (plainR (a.facs.getD k.toNat fac0).rel).eq (plainR (b.facs.getD k.toNat fac0).rel) from ‹_›))).symm | exact (sameS_yes (k := k) htu (by omega) (by omega) fun j u v => by rw [sh_get, sh_get]; exact hg j u v).symm | exact (sameS_no1 (show ¬ a.tuple = b.tuple by simpa using ‹(!(a.tuple == b.tuple)) = true›)).symm | exact (sameS_no2 (by omega)).symm
            · refine RL.gT rfl (bF h67) ?_
              refine RL.val rfl (run_fieldAddr Tryz.underlying44 rfl (off := 2) rfl Tryz.sizeOf42 (by decide) rfl) ?_
              refine RL.gT rfl (bF h67) ?_
              refine RL.val rfl (run_ldBR Tryz.underlying42 rfl rfl rfl (hH63.blk (i := 0) rfl)) ?_
              refine RL.gT rfl (bF h67) ?_
              refine RL.val rfl (run_fieldAddr Tryz.underlying44 rfl (off := 2) rfl Tryz.sizeOf42 (by decide) rfl) ?_
              refine RL.gT rfl (bF h67) ?_
              refine RL.val rfl (run_ldBR Tryz.underlying42 rfl rfl rfl (hH63.blk (i := 1) rfl)) ?_
              refine RL.gT rfl (bF h67) ?_
              refine RL.callP rfl hH63 (c_clearanceref03_Same _ _  _) (run_call2 Tryz.call30 rfl rfl) ?_
              intro w68 hH69
              refine RL.gT rfl (bF h67) ?_
              refine RL.val rfl (run_notP rfl) ?_
              refine RL.val rfl (run_pickF (bF h67) (v := B _) rfl) ?_
              refine RL.nil ?_
              refine CW.condP rfl (fun h73 => ?_) (fun h73 => ?_)
              · refine CW.seq ?_
                refine CW.region ?_
                refine RL.val rfl (run_assign (v := B false) rfl) ?_
                refine RL.nil ?_
                refine CW.ret ?_
                refine outP1 Tryz.results10 (congrArg B ?_) hH69.below
                first | exact (sameS_no3 (k := k) h0 (by omega) (by rw [sh_get, sh_get]; first | exact nt ‹_› | exact alike_no1 (show ¬ (a.facs.getD k.toNat fac0).kind = (b.facs.getD k.toNat fac0).kind from ‹_›) | exact alike_no2 (show ¬ (a.facs.getD k.toNat fac0).names = (b.facs.getD k.toNat fac0).names from ‹_›) | exact alike_no3 (show ¬ (plainR (a.facs.getD k.toNat fac0).rel).eq (plainR (b.facs.getD k.toNat fac0).rel) from ‹_›))).symm | exact (sameS_yes (k := k) htu (by omega) (by omega) fun j u v => by rw [sh_get, sh_get]; exact hg j u v).symm | exact (sameS_no1 (show ¬ a.tuple = b.tuple by simpa using ‹(!(a.tuple == b.tuple)) = true›)).symm | exact (sameS_no2 (by omega)).symm
              · refine CW.skip ?_
                refine CW.region ?_
                refine RL.val rfl (run_move e5_13) ?_
                refine RL.val rfl (run_add rfl rfl (by omega)) ?_
                refine RL.val rfl (run_assign (v := I _) rfl) ?_
                refine RL.nil ?_
                refine ⟨k + 1, ?_, ((((((((((((((((((((((((((((((((((((((((fr13.u rfl).u rfl).u rfl).u rfl).u rfl).u rfl).u rfl).u rfl).u rfl).u rfl).u rfl).u rfl).u rfl).u rfl).u rfl).u rfl).u rfl).u rfl).u rfl).u rfl).u rfl).u rfl).u rfl).u rfl).u rfl).u rfl).u rfl).u rfl).u rfl).u rfl).u rfl).u rfl).u rfl).u rfl).u rfl).u rfl).u rfl).u rfl).u rfl).u rfl).u rfl, (hH69.sub (.cons _ (.cons _ (List.Sublist.refl _)))), (congrArg I (by first | rfl | omega)), ?_, ?_, ?_⟩
                · ((try dsimp only); omega)
                · omega
                · omega
                · exact fun j u v => if e : j = k then e ▸ (by first | exact nf ‹_› | exact alike_all (a := (a.facs.getD k.toNat fac0).fc) (b := (b.facs.getD k.toNat fac0).fc) (show (a.facs.getD k.toNat fac0).kind = (b.facs.getD k.toNat fac0).kind by omega) (Decidable.of_not_not ‹¬ ¬ (a.facs.getD k.toNat fac0).names = (b.facs.getD k.toNat fac0).names›) (Decidable.of_not_not ‹¬ ¬ (plainR _).eq (plainR _)›)) else hg j u (by omega)
      · refine CW.exit (id := 0) rfl ?_
        refine CW.seq ?_
        refine CW.region ?_
        refine RL.val rfl (run_assign (v := B true) rfl) ?_
        refine RL.nil ?_
        refine CW.ret ?_
        refine outP1 Tryz.results10 (congrArg B ?_) hH13.below
        first | exact (sameS_no3 (k := k) h0 (by omega) (by rw [sh_get, sh_get]; first | exact nt ‹_› | exact alike_no1 (show ¬ (a.facs.getD k.toNat fac0).kind = (b.facs.getD k.toNat fac0).kind from ‹_›) | exact alike_no2 (show ¬ (a.facs.getD k.toNat fac0).names = (b.facs.getD k.toNat fac0).names from ‹_›) | exact alike_no3 (show ¬ (plainR (a.facs.getD k.toNat fac0).rel).eq (plainR (b.facs.getD k.toNat fac0).rel) from ‹_›))).symm | exact (sameS_yes (k := k) htu (by omega) (by omega) fun j u v => by rw [sh_get, sh_get]; exact hg j u v).symm | exact (sameS_no1 (show ¬ a.tuple = b.tuple by simpa using ‹(!(a.tuple == b.tuple)) = true›)).symm | exact (sameS_no2 (by omega)).symm

theorem c_shape_word (f : Fac) (s : BitVec 64) (w : World) (hf : FacV (Kw w) f) (hT : Tab w) : Calls Tryz.prog 41 #[.agg (facC f), U s] w (Pure (B (wordF f.fc s)) w) := by
  have hm := hf.names.sl.small
  unfold maxLen at hm
  refine enter Tryz.func41 rfl Tryz.ntmps41 rfl ?_
  have hH := Hp.start w
  refine CW.seq ?_
  refine CW.region ?_
  refine RL.new rfl hH (f := fun b => (.pointer (some ⟨b, 0, none⟩))) (run_box (v := .agg _) rfl) ?_
  intro b3 w1 hH2
  refine RL.val rfl (run_assign (v := B false) rfl) ?_
  refine RL.nil ?_
  refine CW.seq ?_
  refine CW.seq ?_
  refine CW.region ?_
  refine RL.val rfl (run_fieldAddr Tryz.underlying44 rfl (off := 0) rfl Tryz.sizeOf3 (by decide) rfl) ?_
  refine RL.val rfl (run_ld Tryz.underlying3 rfl rfl (hH2.cell (i := 0) rfl (v := I _) rfl)) ?_
  refine RL.nil ?_
  refine CW.block ?_
  refine CW.seq ?_
  refine CW.region ?_
  refine RL.val rfl (run_eql rfl rfl) ?_
  refine RL.val rfl (run_assign (v := B _) rfl) ?_
  refine RL.nil ?_
  refine CW.condP rfl (fun h5 => ?_) (fun h5 => ?_)
  · refine CW.seq ?_
    refine CW.region ?_
    refine RL.val rfl (run_fieldAddr Tryz.underlying44 rfl (off := 1) rfl Tryz.sizeOf39 (by decide) rfl) ?_
    refine RL.val rfl (run_ld Tryz.underlying39 rfl rfl (hH2.cell (i := 0) rfl rfl)) ?_
    refine RL.val rfl (run_lenSl (hf.names.sl.hp hH2) rfl Tryz.underlying39 rfl) ?_
    refine RL.val rfl (run_move (v := U _) rfl) ?_
    refine RL.callP rfl hH2 (c_rung_Right _ _  _) (run_call2 Tryz.call71 rfl rfl) ?_
    intro w6 hH7
    refine RL.val rfl (run_assign (v := B _) rfl) ?_
    refine RL.nil ?_
    refine CW.ret ?_
    refine outP1 Tryz.results41 (congrArg B ?_) hH7.below
    first | exact (word1 (f := f.fc) ‹_› s).symm | exact (word2 (f := f.fc) ‹_› s).symm | exact (word3 (f := f.fc) ‹_› s).symm | exact (wordx (f := f.fc) ‹_› ‹_› ‹_› s).symm
  · refine CW.seq ?_
    refine CW.region ?_
    refine RL.val rfl (run_eql rfl rfl) ?_
    refine RL.val rfl (run_assign (v := B _) rfl) ?_
    refine RL.nil ?_
    refine CW.condP rfl (fun h10 => ?_) (fun h10 => ?_)
    · refine CW.seq ?_
      refine CW.region ?_
      refine RL.val rfl (run_move (v := U _) rfl) ?_
      refine RL.val rfl (run_fieldAddr Tryz.underlying44 rfl (off := 1) rfl Tryz.sizeOf39 (by decide) rfl) ?_
      refine RL.val rfl (run_ld Tryz.underlying39 rfl rfl (hH2.cell (i := 0) rfl rfl)) ?_
      refine RL.val rfl (run_lenSl (hf.names.sl.hp hH2) rfl Tryz.underlying39 rfl) ?_
      refine RL.callP rfl hH2 (c_mask_Below _  _) (run_call1 Tryz.call64 rfl) ?_
      intro w11 hH12
      refine RL.callP rfl hH12 (c_mask_Sub _ _  _) (run_call2 Tryz.call43 rfl rfl) ?_
      intro w13 hH14
      refine RL.val rfl (run_assign (v := B _) rfl) ?_
      refine RL.nil ?_
      refine CW.ret ?_
      refine outP1 Tryz.results41 (congrArg B ?_) hH14.below
      first | exact (word1 (f := f.fc) ‹_› s).symm | exact (word2 (f := f.fc) ‹_› s).symm | exact (word3 (f := f.fc) ‹_› s).symm | exact (wordx (f := f.fc) ‹_› ‹_› ‹_› s).symm
    · refine CW.seq ?_
      refine CW.region ?_
      refine RL.val rfl (run_eql rfl rfl) ?_
      refine RL.val rfl (run_assign (v := B _) rfl) ?_
      refine RL.nil ?_
      refine CW.condP rfl (fun h17 => ?_) (fun h17 => ?_)
      · refine CW.seq ?_
        refine CW.region ?_
        refine RL.val rfl (run_fieldAddr Tryz.underlying44 rfl (off := 2) rfl Tryz.sizeOf42 (by decide) rfl) ?_
        refine RL.val rfl (run_ldBR Tryz.underlying42 rfl rfl rfl (hH2.blk (i := 0) rfl)) ?_
        refine RL.val rfl (run_move (v := U _) rfl) ?_
        refine RL.callP rfl hH2 (c_grid_Closed _ _  _ (hT.hp hH2)) (run_call2 Tryz.call72 rfl rfl) ?_
        intro w18 hH19
        refine RL.val rfl (run_assign (v := B _) rfl) ?_
        refine RL.nil ?_
        refine CW.ret ?_
        refine outP1 Tryz.results41 (congrArg B ?_) hH19.below
        first | exact (word1 (f := f.fc) ‹_› s).symm | exact (word2 (f := f.fc) ‹_› s).symm | exact (word3 (f := f.fc) ‹_› s).symm | exact (wordx (f := f.fc) ‹_› ‹_› ‹_› s).symm
      · refine CW.skip ?_
        refine CW.seq ?_
        refine CW.region ?_
        refine RL.val rfl (run_fieldAddr Tryz.underlying44 rfl (off := 2) rfl Tryz.sizeOf42 (by decide) rfl) ?_
        refine RL.val rfl (run_ldBR Tryz.underlying42 rfl rfl rfl (hH2.blk (i := 0) rfl)) ?_
        refine RL.val rfl (run_move (v := U _) rfl) ?_
        refine RL.callP rfl hH2 (c_hasse_Point _ _  _ (hT.hp hH2)) (run_call2 Tryz.call73 rfl rfl) ?_
        intro w21 hH22
        refine RL.val rfl (run_move (by conv => lhs; whnf)) ?_
        refine RL.val rfl (run_extract rfl (v := I _) rfl) ?_
        refine RL.val rfl (run_extract rfl (v := B _) rfl) ?_
        refine RL.val rfl (run_assign (v := I _) rfl) ?_
        refine RL.val rfl (run_assign (v := B _) rfl) ?_
        refine RL.nil ?_
        refine CW.seq ?_
        refine CW.region ?_
        refine RL.val rfl (run_move (v := B _) rfl) ?_
        refine RL.val rfl (run_assign (v := B _) rfl) ?_
        refine RL.nil ?_
        refine CW.ret ?_
        refine outP1 Tryz.results41 (congrArg B ?_) hH22.below
        first | exact (word1 (f := f.fc) ‹_› s).symm | exact (word2 (f := f.fc) ‹_› s).symm | exact (word3 (f := f.fc) ‹_› s).symm | exact (wordx (f := f.fc) ‹_› ‹_› ‹_› s).symm

theorem c_shape_Fits (s : Shp) (e : El) (w : World) (hs : ShpV (Kw w) s) (hT : Tab w) : Calls Tryz.prog 16 #[.agg (shpC s), .agg (elC e)] w (Pure (B (fitsS s.sh e)) w) := by
  have hsl := sh_len s
  have hm := hs.facs.sl.small
  unfold maxLen at hm
  refine enter Tryz.func16 rfl Tryz.ntmps16 rfl ?_
  have hH := Hp.start w
  refine CW.seq ?_
  refine CW.region ?_
  refine RL.new rfl hH (f := fun b => (.pointer (some ⟨b, 0, none⟩))) (run_box (v := .agg _) rfl) ?_
  intro b3 w1 hH2
  refine RL.new rfl hH2 (f := fun b => (.pointer (some ⟨b, 0, none⟩))) (run_box (v := .agg _) rfl) ?_
  intro b6 w4 hH5
  refine RL.val rfl (run_assign (v := B false) rfl) ?_
  refine RL.nil ?_
  refine CW.seq ?_
  refine CW.seq ?_
  refine CW.region ?_
  refine RL.val rfl (run_ldA (cs := [B _, _]) Tryz.underlying24 rfl rfl rfl (rangeAt_cells (hH5.blk (i := 1) rfl))) ?_
  refine RL.callP rfl hH5 (c_shape_Right _  _ (hs.mono hH5.kw) (hT.hp hH5)) (run_call1 Tryz.call7 rfl) ?_
  intro w7 hH8
  refine RL.val rfl (run_not rfl) ?_
  refine RL.nil ?_
  refine CW.cond rfl (fun h11 => ?_) (fun h11 => ?_)
  · refine CW.seq ?_
    refine CW.region ?_
    refine RL.val rfl (run_assign (v := B false) rfl) ?_
    refine RL.nil ?_
    refine CW.ret ?_
    refine outP1 Tryz.results16 (congrArg B ?_) hH8.below
    first | exact (fits_no1 (nt ‹_›)).symm | exact (fits_no3 h0 ‹_› (by omega) ‹_›).symm | exact (fits_no2 h0 ‹_› (by omega) (by rw [sh_get]; exact nt ‹_›)).symm | exact (fits_yes hr ‹_› hf).symm
  · refine CW.skip ?_
    refine CW.seq ?_
    refine CW.seq ?_
    refine CW.region ?_
    refine RL.val rfl (run_ldEl Tryz.underlying30 rfl rfl rfl (hH8.blk (i := 0) rfl)) ?_
    refine RL.val rfl (run_move (v := I 0) rfl) ?_
    refine RL.nil ?_
    refine CW.block ?_
    have hr : shR s.sh = true := nf ‹_›
    refine CW.loop (G := (Int)) (fun (k : Int) s' w' => (Fr [4, 5, 6, 11, 12, 13, 14, 15, 16, 17, 18, 19, 20, 21, 22, 23, 24, 25, 26, 27, 28, 29, 30] _ s') ∧ (Hp w w' _) ∧ (s' 11 = I k) ∧ (0 ≤ k) ∧ (k ≤ 8) ∧ (FitTo s.sh e k)) (fun (k : Int) => (8 - k).toNat) (0) ⟨Fr.refl _ _, hH8, rfl, (by omega), (by omega), FitTo.none _ _⟩ ?_
    rintro k sg12 w12 ⟨fr12, hH12, e11_12, h0, hk, hf⟩
    have e2_12 : sg12 2 = .pointer (some ⟨_, _, none⟩) := (fr12 2 rfl).trans rfl
    have e10_12 : sg12 10 = .agg _ := (fr12 10 rfl).trans rfl
    refine CW.seq ?_
    refine CW.region ?_
    refine RL.val rfl (run_lss e11_12 rfl) ?_
    refine RL.nil ?_
    refine CW.seq ?_
    refine CW.condP rfl (fun h14 => ?_) (fun h14 => ?_)
    · refine CW.skip ?_
      refine CW.seq ?_
      refine CW.block ?_
      refine CW.seq ?_
      refine CW.region ?_
      refine RL.val rfl (run_move e11_12) ?_
      refine RL.val rfl (run_indexA Tryz.underlying30 Tryz.isAgg28 Tryz.sizeOf28 e10_12 e11_12 (by omega) (elC_ix _ (by omega))) ?_
      refine RL.val rfl (run_assign (v := I _) rfl) ?_
      refine RL.val rfl (run_assign (v := U _) rfl) ?_
      refine RL.nil ?_
      refine CW.seq ?_
      refine CW.seq ?_
      refine CW.region ?_
      refine RL.val rfl (run_move (v := I _) rfl) ?_
      refine RL.val rfl (run_fieldAddr Tryz.underlying24 rfl (off := 1) rfl Tryz.sizeOf22 (by decide) e2_12) ?_
      refine RL.val rfl (run_ld Tryz.underlying22 rfl rfl (hH12.cell (i := 1) rfl rfl)) ?_
      refine RL.val rfl (run_lenSl (hs.facs.sl.hp hH12) rfl Tryz.underlying22 rfl) ?_
      refine RL.val rfl (run_geq rfl rfl) ?_
      refine RL.nil ?_
      refine CW.condP rfl (fun h16 => ?_) (fun h16 => ?_)
      · refine CW.seq ?_
        refine CW.seq ?_
        refine CW.region ?_
        refine RL.val rfl (run_move (v := U _) rfl) ?_
        refine RL.val rfl (run_neqU rfl (b := 0#64) rfl) ?_
        refine RL.nil ?_
        refine CW.condP rfl (fun h18 => ?_) (fun h18 => ?_)
        · refine CW.seq ?_
          refine CW.region ?_
          refine RL.val rfl (run_assign (v := B false) rfl) ?_
          refine RL.nil ?_
          refine CW.ret ?_
          refine outP1 Tryz.results16 (congrArg B ?_) hH12.below
          first | exact (fits_no1 (nt ‹_›)).symm | exact (fits_no3 h0 ‹_› (by omega) ‹_›).symm | exact (fits_no2 h0 ‹_› (by omega) (by rw [sh_get]; exact nt ‹_›)).symm | exact (fits_yes hr ‹_› hf).symm
        · refine CW.skip ?_
          refine CW.exit (id := 1) rfl ?_
          refine CW.region ?_
          refine RL.val rfl (run_add e11_12 rfl (by omega)) ?_
          refine RL.val rfl (run_move (v := I _) rfl) ?_
          refine RL.nil ?_
          refine ⟨k + 1, ?_, (((((((((((((fr12.u rfl).u rfl).u rfl).u rfl).u rfl).u rfl).u rfl).u rfl).u rfl).u rfl).u rfl).u rfl).u rfl).u rfl, hH12, (congrArg I (by first | rfl | omega)), ?_, ?_, ?_⟩
          · ((try dsimp only); omega)
          · omega
          · omega
          · exact hf.next (fun h => by first | (exfalso; omega) | (rw [sh_get]; exact nf ‹_›)) (fun h => by first | exact Decidable.of_not_not ‹_› | (exfalso; omega))
      · refine CW.skip ?_
        refine CW.seq ?_
        refine CW.region ?_
        refine RL.val rfl (run_fieldAddr Tryz.underlying24 rfl (off := 1) rfl Tryz.sizeOf22 (by decide) e2_12) ?_
        refine RL.val rfl (run_ld Tryz.underlying22 rfl rfl (hH12.cell (i := 1) rfl rfl)) ?_
        refine RL.val rfl (run_move (v := I _) rfl) ?_
        refine RL.val rfl (run_indexAddrS (hs.facs.sl.hp hH12) Tryz.underlying22 Tryz.sizeOf44 rfl rfl (by omega)) ?_
        refine RL.val rfl (run_ldE (dv := fac0) facL_len (hs.facs.sl.hp hH12) Tryz.underlying44 rfl rfl rfl (by omega)) ?_
        refine RL.val rfl (run_move (v := U _) rfl) ?_
        refine RL.callP rfl hH12 (c_shape_word _ _  _ ((hs.at (by omega) (by omega)).mono hH12.kw) (hT.hp hH12)) (run_call2 Tryz.call41 rfl rfl) ?_
        intro w19 hH20
        refine RL.val rfl (run_not rfl) ?_
        refine RL.nil ?_
        refine CW.cond rfl (fun h23 => ?_) (fun h23 => ?_)
        · refine CW.seq ?_
          refine CW.region ?_
          refine RL.val rfl (run_assign (v := B false) rfl) ?_
          refine RL.nil ?_
          refine CW.ret ?_
          refine outP1 Tryz.results16 (congrArg B ?_) hH20.below
          first | exact (fits_no1 (nt ‹_›)).symm | exact (fits_no3 h0 ‹_› (by omega) ‹_›).symm | exact (fits_no2 h0 ‹_› (by omega) (by rw [sh_get]; exact nt ‹_›)).symm | exact (fits_yes hr ‹_› hf).symm
        · refine CW.skip ?_
          refine CW.region ?_
          refine RL.val rfl (run_add e11_12 rfl (by omega)) ?_
          refine RL.val rfl (run_move (v := I _) rfl) ?_
          refine RL.nil ?_
          refine ⟨k + 1, ?_, (((((((((((((((((((fr12.u rfl).u rfl).u rfl).u rfl).u rfl).u rfl).u rfl).u rfl).u rfl).u rfl).u rfl).u rfl).u rfl).u rfl).u rfl).u rfl).u rfl).u rfl).u rfl).u rfl, hH20, (congrArg I (by first | rfl | omega)), ?_, ?_, ?_⟩
          · ((try dsimp only); omega)
          · omega
          · omega
          · exact hf.next (fun h => by first | (exfalso; omega) | (rw [sh_get]; exact nf ‹_›)) (fun h => by first | exact Decidable.of_not_not ‹_› | (exfalso; omega))
    · refine CW.exit (id := 0) rfl ?_
      refine CW.seq ?_
      refine CW.region ?_
      refine RL.val rfl (run_assign (v := B true) rfl) ?_
      refine RL.nil ?_
      refine CW.ret ?_
      refine outP1 Tryz.results16 (congrArg B ?_) hH12.below
      first | exact (fits_no1 (nt ‹_›)).symm | exact (fits_no3 h0 ‹_› (by omega) ‹_›).symm | exact (fits_no2 h0 ‹_› (by omega) (by rw [sh_get]; exact nt ‹_›)).symm | exact (fits_yes hr ‹_› hf).symm

theorem c_shape_Leq (a b : El) (w : World) : Calls Tryz.prog 18 #[.agg (elC a), .agg (elC b)] w (Pure (B (leqE a b)) w) := by
  refine enter Tryz.func18 rfl Tryz.ntmps18 rfl ?_
  have hH := Hp.start w
  refine CW.seq ?_
  refine CW.region ?_
  refine RL.new rfl hH (f := fun b => (.pointer (some ⟨b, 0, none⟩))) (run_box (v := .agg _) rfl) ?_
  intro b3 w1 hH2
  refine RL.new rfl hH2 (f := fun b => (.pointer (some ⟨b, 0, none⟩))) (run_box (v := .agg _) rfl) ?_
  intro b6 w4 hH5
  refine RL.val rfl (run_assign (v := B false) rfl) ?_
  refine RL.nil ?_
  refine CW.seq ?_
  refine CW.seq ?_
  refine CW.region ?_
  refine RL.val rfl (run_move (v := I 0) rfl) ?_
  refine RL.nil ?_
  refine CW.block ?_
  refine CW.loop (G := (Int)) (fun (k : Int) s' w' => (Fr [4, 5, 6, 7, 8, 9, 10, 11, 12, 13, 14, 15, 16, 17] _ s') ∧ (Hp w w' _) ∧ (s' 6 = I k) ∧ (0 ≤ k) ∧ (k ≤ 8) ∧ (∀ j : Int, 0 ≤ j → j < k → subB (a j.toNat) (b j.toNat) = true)) (fun (k : Int) => (8 - k).toNat) (0) ⟨Fr.refl _ _, hH5, rfl, (by omega), (by omega), fun j u v => absurd v (by omega)⟩ ?_
  rintro k sg7 w7 ⟨fr7, hH7, e6_7, h0, hk, hf⟩
  have e2_7 : sg7 2 = .pointer (some ⟨_, _, none⟩) := (fr7 2 rfl).trans rfl
  have e3_7 : sg7 3 = .pointer (some ⟨_, _, none⟩) := (fr7 3 rfl).trans rfl
  refine CW.seq ?_
  refine CW.region ?_
  refine RL.val rfl (run_lss e6_7 rfl) ?_
  refine RL.nil ?_
  refine CW.seq ?_
  refine CW.condP rfl (fun h9 => ?_) (fun h9 => ?_)
  · refine CW.skip ?_
    refine CW.seq ?_
    refine CW.block ?_
    refine CW.seq ?_
    refine CW.region ?_
    refine RL.val rfl (run_move e6_7) ?_
    refine RL.val rfl (run_assign (v := I _) rfl) ?_
    refine RL.nil ?_
    refine CW.seq ?_
    refine CW.regionD (by kernel_rfl) hH7 ?_
    intro w10 hH11
    refine AN.take 0 rfl rfl (by kernel_rfl) (by kernel_rfl) (by kernel_rfl) (hH11.sub (List.Sublist.refl _)) (fun w hS => run_move (v := I _) rfl) ?_
    refine AN.take 1 rfl rfl (by kernel_rfl) (by kernel_rfl) (by kernel_rfl) (hH11.sub (List.Sublist.refl _)) (fun w hS => run_indexAddrA Tryz.underlying30 Tryz.sizeOf28 e2_7 rfl (by omega)) ?_
    refine AN.take 2 rfl rfl (by kernel_rfl) (by kernel_rfl) (by kernel_rfl) (hH11.sub (List.Sublist.refl _)) (fun w hS => run_ld Tryz.underlying28 rfl rfl (hS.cell (i := 1) rfl (elC_at _ (by omega)))) ?_
    refine AN.take 3 rfl rfl (by kernel_rfl) (by kernel_rfl) (by kernel_rfl) (hH11.sub (List.Sublist.refl _)) (fun w hS => run_move (v := I _) rfl) ?_
    refine AN.take 4 rfl rfl (by kernel_rfl) (by kernel_rfl) (by kernel_rfl) (hH11.sub (List.Sublist.refl _)) (fun w hS => run_indexAddrA Tryz.underlying30 Tryz.sizeOf28 e3_7 rfl (by omega)) ?_
    refine AN.take 5 rfl rfl (by kernel_rfl) (by kernel_rfl) (by kernel_rfl) (hH11.sub (List.Sublist.refl _)) (fun w hS => run_ld Tryz.underlying28 rfl rfl (hS.cell (i := 0) rfl (elC_at _ (by omega)))) ?_
    refine AN.one 6 (by kernel_rfl) ?_
    refine AO.callP rfl gnone rfl hH11 (List.Sublist.refl _) (c_mask_Sub _ _  _) (run_call2 Tryz.call43 rfl rfl) ?_
    intro w12 hH13
    refine AN.take 7 rfl rfl (by kernel_rfl) (by kernel_rfl) (by kernel_rfl) (hH13.sub (List.Sublist.refl _)) (fun w hS => run_not rfl) ?_
    refine AN.done (by kernel_rfl) ?_
    refine CW.cond rfl (fun h16 => ?_) (fun h16 => ?_)
    · refine CW.seq ?_
      refine CW.region ?_
      refine RL.val rfl (run_assign (v := B false) rfl) ?_
      refine RL.nil ?_
      refine CW.ret ?_
      refine outP1 Tryz.results18 (congrArg B ?_) hH13.below
      first | exact (leq_no h0 ‹_› (nt ‹_›)).symm | exact (leq_yes ‹_› hf).symm
    · refine CW.skip ?_
      refine CW.region ?_
      refine RL.val rfl (run_add e6_7 rfl (by omega)) ?_
      refine RL.val rfl (run_move (v := I _) rfl) ?_
      refine RL.nil ?_
      refine ⟨k + 1, ?_, ((((((((((((fr7.u rfl).u rfl).u rfl).u rfl).u rfl).u rfl).u rfl).u rfl).u rfl).u rfl).u rfl).u rfl).u rfl, hH13, (congrArg I (by first | rfl | omega)), ?_, ?_, ?_⟩
      · ((try dsimp only); omega)
      · omega
      · omega
      · exact fun j u v => if e : j = k then e ▸ nf ‹_› else hf j u (by omega)
  · refine CW.exit (id := 0) rfl ?_
    refine CW.seq ?_
    refine CW.region ?_
    refine RL.val rfl (run_assign (v := B true) rfl) ?_
    refine RL.nil ?_
    refine CW.ret ?_
    refine outP1 Tryz.results18 (congrArg B ?_) hH7.below
    first | exact (leq_no h0 ‹_› (nt ‹_›)).symm | exact (leq_yes ‹_› hf).symm

theorem c_shape_Join (s : Shp) (a b : El) (w : World) (hs : ShpV (Kw w) s) (hT : Tab w) : Calls Tryz.prog 20 #[.agg (shpC s), .agg (elC a), .agg (elC b)] w (Pure (.agg (elC (joinS s.sh a b))) w) := by
  have hsl := sh_len s
  have hm := hs.facs.sl.small
  unfold maxLen at hm
  refine enter Tryz.func20 rfl Tryz.ntmps20 rfl ?_
  have hH := Hp.start w
  refine CW.seq ?_
  refine CW.region ?_
  refine RL.new rfl hH (f := fun b => (.pointer (some ⟨b, 0, none⟩))) (run_box (v := .agg _) rfl) ?_
  intro b3 w1 hH2
  refine RL.new rfl hH2 (f := fun b => (.pointer (some ⟨b, 0, none⟩))) (run_box (v := .agg _) rfl) ?_
  intro b6 w4 hH5
  refine RL.new rfl hH5 (f := fun b => (.pointer (some ⟨b, 0, none⟩))) (run_box (v := .agg _) rfl) ?_
  intro b9 w7 hH8
  refine RL.new rfl hH8 (f := fun b => (.pointer (some ⟨b, 0, none⟩))) (run_alloc zero_el) ?_
  intro b12 w10 hH11
  refine RL.nil ?_
  refine CW.seq ?_
  refine CW.seq ?_
  refine CW.region ?_
  refine RL.val rfl (run_move (v := I 0) rfl) ?_
  refine RL.nil ?_
  refine CW.block ?_
  refine CW.loop (G := (Int) × (El)) (fun (⟨k, e1⟩ : (Int) × (El)) s' w' => (Fr [7, 8, 9, 10, 11, 12, 13, 14, 15, 16, 17, 18, 19, 20, 21, 22, 23, 24, 25, 26, 27, 28, 29, 30, 31, 32, 33, 34, 35, 36, 37, 38, 39, 40, 41, 42, 43, 44, 45, 46, 47, 48] _ s') ∧ (Hp w w' (_ :: _ :: .blk b6 (.cells (elC e1) 30 (0, 0)) :: _)) ∧ (s' 8 = I k) ∧ (0 ≤ k) ∧ (k ≤ 8) ∧ (e1 = mixE (joinS s.sh a b) a k)) (fun (⟨k, e1⟩ : (Int) × (El)) => (8 - k).toNat) ((0, a)) ⟨Fr.refl _ _, hH11, rfl, (by omega), (by omega), (mix_zero _ _).symm⟩ ?_
  rintro ⟨k, e1⟩ sg13 w13 ⟨fr13, hH13, e8_13, h0, hk, hr⟩
  have e3_13 : sg13 3 = .pointer (some ⟨_, _, none⟩) := (fr13 3 rfl).trans rfl
  have e4_13 : sg13 4 = .pointer (some ⟨_, _, none⟩) := (fr13 4 rfl).trans rfl
  have e5_13 : sg13 5 = .pointer (some ⟨_, _, none⟩) := (fr13 5 rfl).trans rfl
  have e6_13 : sg13 6 = .pointer (some ⟨_, _, none⟩) := (fr13 6 rfl).trans rfl
  refine CW.seq ?_
  refine CW.region ?_
  refine RL.val rfl (run_lss e8_13 rfl) ?_
  refine RL.nil ?_
  refine CW.seq ?_
  refine CW.condP rfl (fun h15 => ?_) (fun h15 => ?_)
  · refine CW.skip ?_
    refine CW.seq ?_
    refine CW.block ?_
    refine CW.seq ?_
    refine CW.region ?_
    refine RL.val rfl (run_move e8_13) ?_
    refine RL.val rfl (run_assign (v := I _) rfl) ?_
    refine RL.nil ?_
    refine CW.seq ?_
    refine CW.seq ?_
    refine CW.region ?_
    refine RL.val rfl (run_move (v := I _) rfl) ?_
    refine RL.val rfl (run_fieldAddr Tryz.underlying24 rfl (off := 1) rfl Tryz.sizeOf22 (by decide) e3_13) ?_
    refine RL.val rfl (run_ld Tryz.underlying22 rfl rfl (hH13.cell (i := 3) rfl rfl)) ?_
    refine RL.val rfl (run_lenSl (hs.facs.sl.hp hH13) rfl Tryz.underlying22 rfl) ?_
    refine RL.val rfl (run_lss rfl rfl) ?_
    refine RL.val rfl (run_move (v := B _) rfl) ?_
    refine RL.splitP (dj := 16) rfl (fun h17 => ?_) (fun h17 => ?_)
    · refine RL.gT rfl (bT h17) ?_
      refine RL.val rfl (run_fieldAddr Tryz.underlying24 rfl (off := 1) rfl Tryz.sizeOf22 (by decide) e3_13) ?_
      refine RL.gT rfl (bT h17) ?_
      refine RL.val rfl (run_ld Tryz.underlying22 rfl rfl (hH13.cell (i := 3) rfl rfl)) ?_
      refine RL.gT rfl (bT h17) ?_
      refine RL.val rfl (run_move (v := I _) rfl) ?_
      refine RL.gT rfl (bT h17) ?_
      refine RL.val rfl (run_indexAddrS (hs.facs.sl.hp hH13) Tryz.underlying22 Tryz.sizeOf44 rfl rfl (by omega)) ?_
      refine RL.gT rfl (bT h17) ?_
      refine RL.val rfl (run_fieldAddr Tryz.underlying44 rfl (off := 0) rfl Tryz.sizeOf3 (by decide) rfl) ?_
      refine RL.gT rfl (bT h17) ?_
      refine RL.val rfl (run_ldE1 (dv := fac0) facL_len (hs.facs.sl.hp hH13) Tryz.underlying3 rfl rfl (by omega) rfl) ?_
      refine RL.gT rfl (bT h17) ?_
      refine RL.val rfl (run_eql rfl rfl) ?_
      refine RL.val rfl (run_pickT (bT h17) (v := B _) rfl) ?_
      refine RL.nil ?_
      refine CW.condP rfl (fun h19 => ?_) (fun h19 => ?_)
      · refine CW.seq ?_
        refine CW.regionS (by kernel_rfl) hH13 (.cons_cons _ (.cons_cons _ (.cons _ (List.Sublist.refl _)))) ?_
        intro w20 hH21
        refine AN.take 0 rfl rfl (by kernel_rfl) (by kernel_rfl) (by kernel_rfl) (hH21.sub (.cons_cons _ (.cons_cons _ (.cons _ (List.Sublist.refl _))))) (fun w hS => run_move (v := I _) rfl) ?_
        refine AN.take 1 rfl rfl (by kernel_rfl) (by kernel_rfl) (by kernel_rfl) (hH21.sub (.cons_cons _ (.cons_cons _ (.cons _ (List.Sublist.refl _))))) (fun w hS => run_fieldAddr Tryz.underlying24 rfl (off := 1) rfl Tryz.sizeOf22 (by decide) e3_13) ?_
        refine AN.take 2 rfl rfl (by kernel_rfl) (by kernel_rfl) (by kernel_rfl) (hH21.sub (.cons_cons _ (.cons_cons _ (.cons _ (List.Sublist.refl _))))) (fun w hS => run_ld Tryz.underlying22 rfl rfl (hS.cell (i := 2) rfl rfl)) ?_
        refine AN.take 3 rfl rfl (by kernel_rfl) (by kernel_rfl) (by kernel_rfl) (hH21.sub (.cons_cons _ (.cons_cons _ (.cons _ (List.Sublist.refl _))))) (fun w hS => run_move (v := I _) rfl) ?_
        refine AN.take 4 rfl rfl (by kernel_rfl) (by kernel_rfl) (by kernel_rfl) (hH21.sub (.cons_cons _ (.cons_cons _ (.cons _ (List.Sublist.refl _))))) (fun w hS => run_indexAddrS (hs.facs.sl.hp hS) Tryz.underlying22 Tryz.sizeOf44 rfl rfl (by omega)) ?_
        refine AN.take 5 rfl rfl (by kernel_rfl) (by kernel_rfl) (by kernel_rfl) (hH21.sub (.cons_cons _ (.cons_cons _ (.cons _ (List.Sublist.refl _))))) (fun w hS => run_fieldAddr Tryz.underlying44 rfl (off := 2) rfl Tryz.sizeOf42 (by decide) rfl) ?_
        refine AN.take 6 rfl rfl (by kernel_rfl) (by kernel_rfl) (by kernel_rfl) (hH21.sub (.cons_cons _ (.cons_cons _ (.cons _ (List.Sublist.refl _))))) (fun w hS => run_ldFR (hs.facs.sl.hp hS) Tryz.underlying42 rfl rfl rfl (by omega)) ?_
        refine AN.take 7 rfl rfl (by kernel_rfl) (by kernel_rfl) (by kernel_rfl) (hH21.sub (.cons_cons _ (.cons_cons _ (.cons _ (List.Sublist.refl _))))) (fun w hS => run_move (v := I _) rfl) ?_
        refine AN.take 8 rfl rfl (by kernel_rfl) (by kernel_rfl) (by kernel_rfl) (hH21.sub (.cons_cons _ (.cons_cons _ (.cons _ (List.Sublist.refl _))))) (fun w hS => run_indexAddrA Tryz.underlying30 Tryz.sizeOf28 e4_13 rfl (by omega)) ?_
        refine AN.take 10 rfl rfl (by kernel_rfl) (by kernel_rfl) (by kernel_rfl) (hH21.sub (.cons_cons _ (.cons_cons _ (.cons _ (List.Sublist.refl _))))) (fun w hS => run_move (v := I _) rfl) ?_
        refine AN.take 11 rfl rfl (by kernel_rfl) (by kernel_rfl) (by kernel_rfl) (hH21.sub (.cons_cons _ (.cons_cons _ (.cons _ (List.Sublist.refl _))))) (fun w hS => run_indexAddrA Tryz.underlying30 Tryz.sizeOf28 e5_13 rfl (by omega)) ?_
        refine AN.take 12 rfl rfl (by kernel_rfl) (by kernel_rfl) (by kernel_rfl) (hH21.sub (.cons_cons _ (.cons_cons _ (.cons _ (List.Sublist.refl _))))) (fun w hS => run_ld Tryz.underlying28 rfl rfl (hS.cell (i := 1) rfl (elC_at _ (by omega)))) ?_
        refine AN.one 9 (by kernel_rfl) ?_
        refine AO.read rfl gnone rfl hH21 (.cons_cons _ (.cons_cons _ (.cons _ (List.Sublist.refl _)))) (run_ld Tryz.underlying28 rfl rfl (hH21.cell (i := 2) rfl (elC_at _ (by omega)))) ?_
        refine AN.one 13 (by kernel_rfl) ?_
        refine AO.callP rfl gnone rfl hH21 (.cons_cons _ (.cons_cons _ (.cons _ (List.Sublist.refl _)))) (c_hasse_Raise _ _ _  _ (hT.hp hH21)) (run_call3 Tryz.call45 rfl rfl rfl) ?_
        intro w24 hH25
        refine AN.take 14 rfl rfl (by kernel_rfl) (by kernel_rfl) (by kernel_rfl) (hH25.sub (.cons_cons _ (.cons_cons _ (.cons _ (List.Sublist.refl _))))) (fun w hS => run_indexAddrA Tryz.underlying30 Tryz.sizeOf28 e4_13 rfl (by omega)) ?_
        refine AN.one 15 (by kernel_rfl) ?_
        refine AO.set rfl gnone hH25 (j := 2) rfl (.cons_cons _ (.cons_cons _ (.cons _ (List.Sublist.refl _)))) (run_st rfl rfl (v := U _) rfl rfl rfl (hH25.blk (i := 2) rfl) (by rw [elC_size]; omega)) ?_
        intro w28 hH29
        simp only [List.set_cons_zero, List.set_cons_succ] at hH29
        rw [elC_put] at hH29
        refine AN.done (by kernel_rfl) ?_
        refine CW.exit (id := 1) rfl ?_
        refine CW.region ?_
        refine RL.val rfl (run_add e8_13 rfl (by omega)) ?_
        refine RL.val rfl (run_move (v := I _) rfl) ?_
        refine RL.nil ?_
        refine ⟨(k + 1, _), ?_, (((((((((((((((((((((((((((((((((fr13.u rfl).u rfl).u rfl).u rfl).u rfl).u rfl).u rfl).u rfl).u rfl).u rfl).u rfl).u rfl).u rfl).u rfl).u rfl).u rfl).u rfl).u rfl).u rfl).u rfl).u rfl).u rfl).u rfl).u rfl).u rfl).u rfl).u rfl).u rfl).u rfl).u rfl).u rfl).u rfl).u rfl).u rfl, hH29, (congrArg I (by first | rfl | omega)), ?_, ?_, ?_⟩
        · ((try dsimp only); omega)
        · omega
        · omega
        · first | exact join_put4 hr h0 ‹_› ‹_› | exact join_putO hr h0 (fun hc => absurd hc.1 (by omega)) | exact join_putO hr h0 (fun hc => absurd hc.2 (by omega))
      · refine CW.skip ?_
        refine CW.regionS (by kernel_rfl) hH13 (.cons_cons _ (.cons_cons _ (.cons _ (List.Sublist.refl _)))) ?_
        intro w30 hH31
        refine AN.take 0 rfl rfl (by kernel_rfl) (by kernel_rfl) (by kernel_rfl) (hH31.sub (.cons_cons _ (.cons_cons _ (.cons _ (List.Sublist.refl _))))) (fun w hS => run_move (v := I _) rfl) ?_
        refine AN.take 1 rfl rfl (by kernel_rfl) (by kernel_rfl) (by kernel_rfl) (hH31.sub (.cons_cons _ (.cons_cons _ (.cons _ (List.Sublist.refl _))))) (fun w hS => run_indexAddrA Tryz.underlying30 Tryz.sizeOf28 e4_13 rfl (by omega)) ?_
        refine AN.take 3 rfl rfl (by kernel_rfl) (by kernel_rfl) (by kernel_rfl) (hH31.sub (.cons_cons _ (.cons_cons _ (.cons _ (List.Sublist.refl _))))) (fun w hS => run_move (v := I _) rfl) ?_
        refine AN.take 4 rfl rfl (by kernel_rfl) (by kernel_rfl) (by kernel_rfl) (hH31.sub (.cons_cons _ (.cons_cons _ (.cons _ (List.Sublist.refl _))))) (fun w hS => run_indexAddrA Tryz.underlying30 Tryz.sizeOf28 e5_13 rfl (by omega)) ?_
        refine AN.take 5 rfl rfl (by kernel_rfl) (by kernel_rfl) (by kernel_rfl) (hH31.sub (.cons_cons _ (.cons_cons _ (.cons _ (List.Sublist.refl _))))) (fun w hS => run_ld Tryz.underlying28 rfl rfl (hS.cell (i := 1) rfl (elC_at _ (by omega)))) ?_
        refine AN.one 2 (by kernel_rfl) ?_
        refine AO.read rfl gnone rfl hH31 (.cons_cons _ (.cons_cons _ (.cons _ (List.Sublist.refl _)))) (run_ld Tryz.underlying28 rfl rfl (hH31.cell (i := 2) rfl (elC_at _ (by omega)))) ?_
        refine AN.take 6 rfl rfl (by kernel_rfl) (by kernel_rfl) (by kernel_rfl) (hH31.sub (.cons_cons _ (.cons_cons _ (.cons _ (List.Sublist.refl _))))) (fun w hS => run_orU rfl rfl) ?_
        refine AN.take 7 rfl rfl (by kernel_rfl) (by kernel_rfl) (by kernel_rfl) (hH31.sub (.cons_cons _ (.cons_cons _ (.cons _ (List.Sublist.refl _))))) (fun w hS => run_indexAddrA Tryz.underlying30 Tryz.sizeOf28 e4_13 rfl (by omega)) ?_
        refine AN.one 8 (by kernel_rfl) ?_
        refine AO.set rfl gnone hH31 (j := 2) rfl (.cons_cons _ (.cons_cons _ (.cons _ (List.Sublist.refl _)))) (run_st rfl rfl (v := U _) rfl rfl rfl (hH31.blk (i := 2) rfl) (by rw [elC_size]; omega)) ?_
        intro w36 hH37
        simp only [List.set_cons_zero, List.set_cons_succ] at hH37
        rw [elC_put] at hH37
        refine AN.done (by kernel_rfl) ?_
        refine CW.region ?_
        refine RL.val rfl (run_add e8_13 rfl (by omega)) ?_
        refine RL.val rfl (run_move (v := I _) rfl) ?_
        refine RL.nil ?_
        refine ⟨(k + 1, _), ?_, ((((((((((((((((((((((((((fr13.u rfl).u rfl).u rfl).u rfl).u rfl).u rfl).u rfl).u rfl).u rfl).u rfl).u rfl).u rfl).u rfl).u rfl).u rfl).u rfl).u rfl).u rfl).u rfl).u rfl).u rfl).u rfl).u rfl).u rfl).u rfl).u rfl).u rfl, hH37, (congrArg I (by first | rfl | omega)), ?_, ?_, ?_⟩
        · ((try dsimp only); omega)
        · omega
        · omega
        · first | exact join_put4 hr h0 ‹_› ‹_› | exact join_putO hr h0 (fun hc => absurd hc.1 (by omega)) | exact join_putO hr h0 (fun hc => absurd hc.2 (by omega))
    · refine RL.gF rfl rfl (bF h17) rfl ?_
      refine RL.gF rfl rfl (bF h17) rfl ?_
      refine RL.gF rfl rfl (bF h17) rfl ?_
      refine RL.gF rfl rfl (bF h17) rfl ?_
      refine RL.gF rfl rfl (bF h17) rfl ?_
      refine RL.gF rfl rfl (bF h17) rfl ?_
      refine RL.gF rfl rfl (bF h17) rfl ?_
      refine RL.val rfl (run_pickF (bF h17) (v := B false) rfl) ?_
      refine RL.nil ?_
      refine CW.condF rfl ?_
      refine CW.skip ?_
      refine CW.regionS (by kernel_rfl) hH13 (.cons_cons _ (.cons_cons _ (.cons _ (List.Sublist.refl _)))) ?_
      intro w38 hH39
      refine AN.take 0 rfl rfl (by kernel_rfl) (by kernel_rfl) (by kernel_rfl) (hH39.sub (.cons_cons _ (.cons_cons _ (.cons _ (List.Sublist.refl _))))) (fun w hS => run_move (v := I _) rfl) ?_
      refine AN.take 1 rfl rfl (by kernel_rfl) (by kernel_rfl) (by kernel_rfl) (hH39.sub (.cons_cons _ (.cons_cons _ (.cons _ (List.Sublist.refl _))))) (fun w hS => run_indexAddrA Tryz.underlying30 Tryz.sizeOf28 e4_13 rfl (by omega)) ?_
      refine AN.take 3 rfl rfl (by kernel_rfl) (by kernel_rfl) (by kernel_rfl) (hH39.sub (.cons_cons _ (.cons_cons _ (.cons _ (List.Sublist.refl _))))) (fun w hS => run_move (v := I _) rfl) ?_
      refine AN.take 4 rfl rfl (by kernel_rfl) (by kernel_rfl) (by kernel_rfl) (hH39.sub (.cons_cons _ (.cons_cons _ (.cons _ (List.Sublist.refl _))))) (fun w hS => run_indexAddrA Tryz.underlying30 Tryz.sizeOf28 e5_13 rfl (by omega)) ?_
      refine AN.take 5 rfl rfl (by kernel_rfl) (by kernel_rfl) (by kernel_rfl) (hH39.sub (.cons_cons _ (.cons_cons _ (.cons _ (List.Sublist.refl _))))) (fun w hS => run_ld Tryz.underlying28 rfl rfl (hS.cell (i := 1) rfl (elC_at _ (by omega)))) ?_
      refine AN.one 2 (by kernel_rfl) ?_
      refine AO.read rfl gnone rfl hH39 (.cons_cons _ (.cons_cons _ (.cons _ (List.Sublist.refl _)))) (run_ld Tryz.underlying28 rfl rfl (hH39.cell (i := 2) rfl (elC_at _ (by omega)))) ?_
      refine AN.take 6 rfl rfl (by kernel_rfl) (by kernel_rfl) (by kernel_rfl) (hH39.sub (.cons_cons _ (.cons_cons _ (.cons _ (List.Sublist.refl _))))) (fun w hS => run_orU rfl rfl) ?_
      refine AN.take 7 rfl rfl (by kernel_rfl) (by kernel_rfl) (by kernel_rfl) (hH39.sub (.cons_cons _ (.cons_cons _ (.cons _ (List.Sublist.refl _))))) (fun w hS => run_indexAddrA Tryz.underlying30 Tryz.sizeOf28 e4_13 rfl (by omega)) ?_
      refine AN.one 8 (by kernel_rfl) ?_
      refine AO.set rfl gnone hH39 (j := 2) rfl (.cons_cons _ (.cons_cons _ (.cons _ (List.Sublist.refl _)))) (run_st rfl rfl (v := U _) rfl rfl rfl (hH39.blk (i := 2) rfl) (by rw [elC_size]; omega)) ?_
      intro w44 hH45
      simp only [List.set_cons_zero, List.set_cons_succ] at hH45
      rw [elC_put] at hH45
      refine AN.done (by kernel_rfl) ?_
      refine CW.region ?_
      refine RL.val rfl (run_add e8_13 rfl (by omega)) ?_
      refine RL.val rfl (run_move (v := I _) rfl) ?_
      refine RL.nil ?_
      refine ⟨(k + 1, _), ?_, ((((((((((((((((((((((((((fr13.u rfl).u rfl).u rfl).u rfl).u rfl).u rfl).u rfl).u rfl).u rfl).u rfl).u rfl).u rfl).u rfl).u rfl).u rfl).u rfl).u rfl).u rfl).u rfl).u rfl).u rfl).u rfl).u rfl).u rfl).u rfl).u rfl).u rfl, hH45, (congrArg I (by first | rfl | omega)), ?_, ?_, ?_⟩
      · ((try dsimp only); omega)
      · omega
      · omega
      · first | exact join_put4 hr h0 ‹_› ‹_› | exact join_putO hr h0 (fun hc => absurd hc.1 (by omega)) | exact join_putO hr h0 (fun hc => absurd hc.2 (by omega))
  · refine CW.exit (id := 0) rfl ?_
    refine CW.seq ?_
    refine CW.region ?_
    refine RL.val rfl (run_ldEl Tryz.underlying30 rfl rfl e4_13 (hH13.blk (i := 2) rfl)) ?_
    refine RL.set hH13 (i := 0) rfl (run_stEl rfl e6_13 rfl (hH13.blk (i := 0) rfl)) ?_
    intro w46 hH47
    simp only [List.set_cons_zero, List.set_cons_succ] at hH47
    refine RL.nil ?_
    refine CW.ret ?_
    refine outCg Tryz.results20 e6_13 hH47 (i := 0) rfl Tryz.underlying30 rfl (by rw [elC_size]; rfl) ⟨?_, hH47.below⟩
    (exact congrArg Value.agg (elC_congr (by rw [hr]; exact mix_all ‹_›)))

theorem c_shape_Meet (a b : El) (w : World) : Calls Tryz.prog 22 #[.agg (elC a), .agg (elC b)] w (Pure (.agg (elC (meetE a b))) w) := by
  refine enter Tryz.func22 rfl Tryz.ntmps22 rfl ?_
  have hH := Hp.start w
  refine CW.seq ?_
  refine CW.region ?_
  refine RL.new rfl hH (f := fun b => (.pointer (some ⟨b, 0, none⟩))) (run_box (v := .agg _) rfl) ?_
  intro b3 w1 hH2
  refine RL.new rfl hH2 (f := fun b => (.pointer (some ⟨b, 0, none⟩))) (run_box (v := .agg _) rfl) ?_
  intro b6 w4 hH5
  refine RL.new rfl hH5 (f := fun b => (.pointer (some ⟨b, 0, none⟩))) (run_alloc zero_el) ?_
  intro b9 w7 hH8
  refine RL.nil ?_
  refine CW.seq ?_
  refine CW.seq ?_
  refine CW.region ?_
  refine RL.val rfl (run_move (v := I 0) rfl) ?_
  refine RL.nil ?_
  refine CW.block ?_
  refine CW.loop (G := (Int) × (El)) (fun (⟨k, e1⟩ : (Int) × (El)) s' w' => (Fr [5, 6, 7, 8, 9, 10, 11, 12, 13, 14, 15, 16, 17] _ s') ∧ (Hp w w' (_ :: _ :: .blk b3 (.cells (elC e1) 30 (0, 0)) :: _)) ∧ (s' 6 = I k) ∧ (0 ≤ k) ∧ (k ≤ 8) ∧ (e1 = mixE (meetE a b) a k)) (fun (⟨k, e1⟩ : (Int) × (El)) => (8 - k).toNat) ((0, a)) ⟨Fr.refl _ _, hH8, rfl, (by omega), (by omega), (mix_zero _ _).symm⟩ ?_
  rintro ⟨k, e1⟩ sg10 w10 ⟨fr10, hH10, e6_10, h0, hk, hr⟩
  have e2_10 : sg10 2 = .pointer (some ⟨_, _, none⟩) := (fr10 2 rfl).trans rfl
  have e3_10 : sg10 3 = .pointer (some ⟨_, _, none⟩) := (fr10 3 rfl).trans rfl
  have e4_10 : sg10 4 = .pointer (some ⟨_, _, none⟩) := (fr10 4 rfl).trans rfl
  refine CW.seq ?_
  refine CW.region ?_
  refine RL.val rfl (run_lss e6_10 rfl) ?_
  refine RL.nil ?_
  refine CW.seq ?_
  refine CW.condP rfl (fun h12 => ?_) (fun h12 => ?_)
  · refine CW.skip ?_
    refine CW.seq ?_
    refine CW.block ?_
    refine CW.seq ?_
    refine CW.region ?_
    refine RL.val rfl (run_move e6_10) ?_
    refine RL.val rfl (run_assign (v := I _) rfl) ?_
    refine RL.nil ?_
    refine CW.regionS (by kernel_rfl) hH10 (.cons_cons _ (.cons_cons _ (.cons _ (List.Sublist.refl _)))) ?_
    intro w13 hH14
    refine AN.take 0 rfl rfl (by kernel_rfl) (by kernel_rfl) (by kernel_rfl) (hH14.sub (.cons_cons _ (.cons_cons _ (.cons _ (List.Sublist.refl _))))) (fun w hS => run_move (v := I _) rfl) ?_
    refine AN.take 1 rfl rfl (by kernel_rfl) (by kernel_rfl) (by kernel_rfl) (hH14.sub (.cons_cons _ (.cons_cons _ (.cons _ (List.Sublist.refl _))))) (fun w hS => run_indexAddrA Tryz.underlying30 Tryz.sizeOf28 e2_10 rfl (by omega)) ?_
    refine AN.take 3 rfl rfl (by kernel_rfl) (by kernel_rfl) (by kernel_rfl) (hH14.sub (.cons_cons _ (.cons_cons _ (.cons _ (List.Sublist.refl _))))) (fun w hS => run_move (v := I _) rfl) ?_
    refine AN.take 4 rfl rfl (by kernel_rfl) (by kernel_rfl) (by kernel_rfl) (hH14.sub (.cons_cons _ (.cons_cons _ (.cons _ (List.Sublist.refl _))))) (fun w hS => run_indexAddrA Tryz.underlying30 Tryz.sizeOf28 e3_10 rfl (by omega)) ?_
    refine AN.take 5 rfl rfl (by kernel_rfl) (by kernel_rfl) (by kernel_rfl) (hH14.sub (.cons_cons _ (.cons_cons _ (.cons _ (List.Sublist.refl _))))) (fun w hS => run_ld Tryz.underlying28 rfl rfl (hS.cell (i := 1) rfl (elC_at _ (by omega)))) ?_
    refine AN.one 2 (by kernel_rfl) ?_
    refine AO.read rfl gnone rfl hH14 (.cons_cons _ (.cons_cons _ (.cons _ (List.Sublist.refl _)))) (run_ld Tryz.underlying28 rfl rfl (hH14.cell (i := 2) rfl (elC_at _ (by omega)))) ?_
    refine AN.take 6 rfl rfl (by kernel_rfl) (by kernel_rfl) (by kernel_rfl) (hH14.sub (.cons_cons _ (.cons_cons _ (.cons _ (List.Sublist.refl _))))) (fun w hS => run_andU rfl rfl) ?_
    refine AN.take 7 rfl rfl (by kernel_rfl) (by kernel_rfl) (by kernel_rfl) (hH14.sub (.cons_cons _ (.cons_cons _ (.cons _ (List.Sublist.refl _))))) (fun w hS => run_indexAddrA Tryz.underlying30 Tryz.sizeOf28 e2_10 rfl (by omega)) ?_
    refine AN.one 8 (by kernel_rfl) ?_
    refine AO.set rfl gnone hH14 (j := 2) rfl (.cons_cons _ (.cons_cons _ (.cons _ (List.Sublist.refl _)))) (run_st rfl rfl (v := U _) rfl rfl rfl (hH14.blk (i := 2) rfl) (by rw [elC_size]; omega)) ?_
    intro w19 hH20
    simp only [List.set_cons_zero, List.set_cons_succ] at hH20
    rw [elC_put] at hH20
    refine AN.done (by kernel_rfl) ?_
    refine CW.region ?_
    refine RL.val rfl (run_add e6_10 rfl (by omega)) ?_
    refine RL.val rfl (run_move (v := I _) rfl) ?_
    refine RL.nil ?_
    refine ⟨(k + 1, _), ?_, ((((((((((((fr10.u rfl).u rfl).u rfl).u rfl).u rfl).u rfl).u rfl).u rfl).u rfl).u rfl).u rfl).u rfl).u rfl, hH20, (congrArg I (by first | rfl | omega)), ?_, ?_, ?_⟩
    · ((try dsimp only); omega)
    · omega
    · omega
    · exact meet_put hr h0
  · refine CW.exit (id := 0) rfl ?_
    refine CW.seq ?_
    refine CW.region ?_
    refine RL.val rfl (run_ldEl Tryz.underlying30 rfl rfl e2_10 (hH10.blk (i := 2) rfl)) ?_
    refine RL.set hH10 (i := 0) rfl (run_stEl rfl e4_10 rfl (hH10.blk (i := 0) rfl)) ?_
    intro w21 hH22
    simp only [List.set_cons_zero, List.set_cons_succ] at hH22
    refine RL.nil ?_
    refine CW.ret ?_
    refine outCg Tryz.results22 e4_10 hH22 (i := 0) rfl Tryz.underlying30 rfl (by rw [elC_size]; rfl) ⟨?_, hH22.below⟩
    (exact congrArg Value.agg (elC_congr (by rw [hr]; exact mix_all ‹_›)))

theorem c_shape_each (s : Shp) (fi : FuncId) (gg : Fc → BitVec 64) (w : World) (hs : ShpV (Kw w) s) (hf : ∀ args w, (callFunc fi args).run Tryz.prog w = .ok (.enter fi args) w) (go : ∀ f w', FacV (Kw w') f → Tab w' → Calls Tryz.prog fi #[.agg (facC f)] w' (Pure (U (gg f.fc)) w')) (hT : Tab w) : Calls Tryz.prog 31 #[.agg (shpC s), .func (.func fi) #[] #[]] w (Pure (.agg (elC (eachS s.sh gg))) w) := by
  have hsl := sh_len s
  have hm := hs.facs.sl.small
  unfold maxLen at hm
  refine enter Tryz.func31 rfl Tryz.ntmps31 rfl ?_
  have hH := Hp.start w
  refine CW.seq ?_
  refine CW.region ?_
  refine RL.new rfl hH (f := fun b => (.pointer (some ⟨b, 0, none⟩))) (run_box (v := .agg _) rfl) ?_
  intro b3 w1 hH2
  refine RL.new rfl hH2 (f := fun b => (.pointer (some ⟨b, 0, none⟩))) (run_alloc zero_el) ?_
  intro b6 w4 hH5
  refine RL.nil ?_
  refine CW.seq ?_
  refine CW.region ?_
  refine RL.new rfl hH5 (f := fun b => (.pointer (some ⟨b, 0, none⟩))) (run_alloc zero_el) ?_
  intro b9 w7 hH8
  refine RL.nil ?_
  refine CW.seq ?_
  refine CW.seq ?_
  refine CW.region ?_
  refine RL.val rfl (run_ldA (cs := [B _, _]) Tryz.underlying24 rfl rfl rfl (rangeAt_cells (hH8.blk (i := 2) rfl))) ?_
  refine RL.callP rfl hH8 (c_shape_Right _  _ (hs.mono hH8.kw) (hT.hp hH8)) (run_call1 Tryz.call7 rfl) ?_
  intro w10 hH11
  refine RL.nil ?_
  refine CW.cond rfl (fun h13 => ?_) (fun h13 => ?_)
  · refine CW.seq ?_
    refine CW.region ?_
    refine RL.val rfl (run_fieldAddr Tryz.underlying24 rfl (off := 1) rfl Tryz.sizeOf22 (by decide) rfl) ?_
    refine RL.val rfl (run_ld Tryz.underlying22 rfl rfl (hH11.cell (i := 2) rfl rfl)) ?_
    refine RL.val rfl (run_lenSl (hs.facs.sl.hp hH11) rfl Tryz.underlying22 rfl) ?_
    refine RL.val rfl (run_move (v := I 0) rfl) ?_
    refine RL.nil ?_
    refine CW.block ?_
    have hln := (sh_spec ‹shR s.sh = true›).1
    refine CW.loop (G := (Int) × (El)) (fun (⟨k, e1⟩ : (Int) × (El)) s' w' => (Fr [6, 7, 13, 14, 15, 16, 17, 18, 19, 20, 21, 22, 23] _ s') ∧ (Hp w w' (.blk b9 (.cells (elC e1) 30 (0, 0)) :: _)) ∧ (s' 13 = I k) ∧ (0 ≤ k) ∧ (k ≤ s.facs.length) ∧ (e1 = mixE (eachS s.sh gg) el0 k)) (fun (⟨k, e1⟩ : (Int) × (El)) => (s.facs.length - k).toNat) ((0, el0)) ⟨Fr.refl _ _, hH11, rfl, (by omega), (by omega), (mix_zero _ _).symm⟩ ?_
    rintro ⟨k, e1⟩ sg14 w14 ⟨fr14, hH14, e13_14, h0, hk, hr⟩
    have e1_14 : sg14 1 = .func _ _ _ := (fr14 1 rfl).trans rfl
    have e4_14 : sg14 4 = .pointer (some ⟨_, _, none⟩) := (fr14 4 rfl).trans rfl
    have e5_14 : sg14 5 = .pointer (some ⟨_, _, none⟩) := (fr14 5 rfl).trans rfl
    have e11_14 := (fr14 11 rfl).trans (by conv => lhs; whnf)
    have e12_14 : sg14 12 = I _ := (fr14 12 rfl).trans rfl
    refine CW.seq ?_
    refine CW.region ?_
    refine RL.val rfl (run_lss e13_14 e12_14) ?_
    refine RL.nil ?_
    refine CW.seq ?_
    refine CW.condP rfl (fun h16 => ?_) (fun h16 => ?_)
    · refine CW.skip ?_
      refine CW.seq ?_
      refine CW.block ?_
      refine CW.seq ?_
      refine CW.region ?_
      refine RL.val rfl (run_move e13_14) ?_
      refine RL.val rfl (run_indexAddrS (hs.facs.sl.hp hH14) Tryz.underlying22 Tryz.sizeOf44 e11_14 e13_14 (by omega)) ?_
      refine RL.val rfl (run_ldE (dv := fac0) facL_len (hs.facs.sl.hp hH14) Tryz.underlying44 rfl rfl rfl (by omega)) ?_
      refine RL.new rfl hH14 (f := fun b => (.pointer (some ⟨b, 0, none⟩))) (run_alloc zero_fac) ?_
      intro b19 w17 hH18
      refine RL.val rfl (run_assign (v := I _) rfl) ?_
      refine RL.set hH18 (i := 0) rfl (run_stFac (hs.at (by omega) (by omega)) rfl rfl rfl (hH18.blk (i := 0) rfl)) ?_
      intro w20 hH21
      simp only [List.set_cons_zero, List.set_cons_succ] at hH21
      refine RL.nil ?_
      refine CW.region ?_
      refine RL.val rfl (run_move (v := I _) rfl) ?_
      refine RL.val rfl (run_move e1_14) ?_
      refine RL.val rfl (run_ldFac Tryz.underlying44 rfl rfl rfl (hH21.blk (i := 0) rfl)) ?_
      refine RL.callP rfl hH21 (go _ _ ((hs.at (by omega) (by omega)).mono hH21.kw) (hT.hp hH21)) (run_callC1 hf (cs := []) rfl rfl) ?_
      intro w22 hH23
      refine RL.val rfl (run_indexAddrA Tryz.underlying30 Tryz.sizeOf28 e5_14 rfl (by omega)) ?_
      refine RL.set hH23 (i := 1) rfl (run_st rfl rfl (v := U _) rfl rfl rfl (hH23.blk (i := 1) rfl) (by rw [elC_size]; omega)) ?_
      intro w24 hH25
      simp only [List.set_cons_zero, List.set_cons_succ] at hH25
      rw [elC_put] at hH25
      refine RL.nil ?_
      refine CW.region ?_
      refine RL.val rfl (run_add e13_14 rfl (by omega)) ?_
      refine RL.val rfl (run_move (v := I _) rfl) ?_
      refine RL.nil ?_
      refine ⟨(k + 1, _), ?_, ((((((((((((fr14.u rfl).u rfl).u rfl).u rfl).u rfl).u rfl).u rfl).u rfl).u rfl).u rfl).u rfl).u rfl).u rfl, (hH25.sub (.cons _ (List.Sublist.refl _))), (congrArg I (by first | rfl | omega)), ?_, ?_, ?_⟩
      · ((try dsimp only); omega)
      · omega
      · omega
      · (have hp := each_put ‹shR s.sh = true› hr h0 (show k < s.sh.facs.length by omega); rw [sh_get] at hp; exact hp)
    · refine CW.exit (id := 0) rfl ?_
      refine CW.seq ?_
      refine CW.region ?_
      refine RL.val rfl (run_ldEl Tryz.underlying30 rfl rfl e5_14 (hH14.blk (i := 0) rfl)) ?_
      refine RL.set hH14 (i := 1) rfl (run_stEl rfl e4_14 rfl (hH14.blk (i := 1) rfl)) ?_
      intro w26 hH27
      simp only [List.set_cons_zero, List.set_cons_succ] at hH27
      refine RL.nil ?_
      refine CW.ret ?_
      refine outCg Tryz.results31 e4_14 hH27 (i := 1) rfl Tryz.underlying30 rfl (by rw [elC_size]; rfl) ⟨?_, hH27.below⟩
      first | exact congrArg Value.agg (elC_congr (by rw [hr]; exact each_all (by omega))) | exact congrArg Value.agg (elC_congr (each_no ‹_›))
  · refine CW.skip ?_
    refine CW.seq ?_
    refine CW.region ?_
    refine RL.val rfl (run_ldEl Tryz.underlying30 rfl rfl rfl (hH11.blk (i := 0) rfl)) ?_
    refine RL.set hH11 (i := 1) rfl (run_stEl rfl rfl rfl (hH11.blk (i := 1) rfl)) ?_
    intro w28 hH29
    simp only [List.set_cons_zero, List.set_cons_succ] at hH29
    refine RL.nil ?_
    refine CW.ret ?_
    refine outCg Tryz.results31 rfl hH29 (i := 1) rfl Tryz.underlying30 rfl (by rw [elC_size]; rfl) ⟨?_, hH29.below⟩
    first | exact congrArg Value.agg (elC_congr (by rw [hr]; exact each_all (by omega))) | exact congrArg Value.agg (elC_congr (each_no ‹_›))

theorem c_shape_least (f : Fac) (w : World) (hf : FacV (Kw w) f) (hT : Tab w) : Calls Tryz.prog 32 #[.agg (facC f)] w (Pure (U (leastF f.fc)) w) := by
  refine enter Tryz.func32 rfl Tryz.ntmps32 rfl ?_
  have hH := Hp.start w
  refine CW.seq ?_
  refine CW.region ?_
  refine RL.new rfl hH (f := fun b => (.pointer (some ⟨b, 0, none⟩))) (run_box (v := .agg _) rfl) ?_
  intro b3 w1 hH2
  refine RL.val rfl (run_assign (v := U 0#64) rfl) ?_
  refine RL.nil ?_
  refine CW.seq ?_
  refine CW.seq ?_
  refine CW.region ?_
  refine RL.val rfl (run_fieldAddr Tryz.underlying44 rfl (off := 0) rfl Tryz.sizeOf3 (by decide) rfl) ?_
  refine RL.val rfl (run_ld Tryz.underlying3 rfl rfl (hH2.cell (i := 0) rfl (v := I _) rfl)) ?_
  refine RL.val rfl (run_neq rfl rfl) ?_
  refine RL.nil ?_
  refine CW.condP rfl (fun h5 => ?_) (fun h5 => ?_)
  · refine CW.seq ?_
    refine CW.region ?_
    refine RL.val rfl (run_assign (v := U 0#64) rfl) ?_
    refine RL.nil ?_
    refine CW.ret ?_
    refine outP1 Tryz.results32 (congrArg U ?_) hH2.below
    first | exact (if_pos (show f.fc.kind ≠ 4 from ‹_›)).symm | exact (if_neg (show ¬ f.fc.kind ≠ 4 from ‹_›)).symm
  · refine CW.skip ?_
    refine CW.seq ?_
    refine CW.region ?_
    refine RL.val rfl (run_fieldAddr Tryz.underlying44 rfl (off := 2) rfl Tryz.sizeOf42 (by decide) rfl) ?_
    refine RL.val rfl (run_ldBR Tryz.underlying42 rfl rfl rfl (hH2.blk (i := 0) rfl)) ?_
    refine RL.callP rfl hH2 (c_hasse_Bottom _  _ (hT.hp hH2)) (run_call1 Tryz.call59 rfl) ?_
    intro w6 hH7
    refine RL.val rfl (run_move (by conv => lhs; whnf)) ?_
    refine RL.val rfl (run_extract rfl (v := I _) rfl) ?_
    refine RL.val rfl (run_extract rfl (v := B _) rfl) ?_
    refine RL.val rfl (run_assign (v := I _) rfl) ?_
    refine RL.val rfl (run_assign (v := B _) rfl) ?_
    refine RL.nil ?_
    refine CW.seq ?_
    refine CW.region ?_
    refine RL.val rfl (run_fieldAddr Tryz.underlying44 rfl (off := 2) rfl Tryz.sizeOf42 (by decide) rfl) ?_
    refine RL.val rfl (run_ldBR Tryz.underlying42 rfl rfl rfl (hH7.blk (i := 0) rfl)) ?_
    refine RL.val rfl (run_move (v := I _) rfl) ?_
    refine RL.callP rfl hH7 (c_hasse_Word _ _  _ (hT.hp hH7)) (run_call2 Tryz.call60 rfl rfl) ?_
    intro w9 hH10
    refine RL.val rfl (run_assign (v := U _) rfl) ?_
    refine RL.nil ?_
    refine CW.ret ?_
    refine outP1 Tryz.results32 (congrArg U ?_) hH10.below
    first | exact (if_pos (show f.fc.kind ≠ 4 from ‹_›)).symm | exact (if_neg (show ¬ f.fc.kind ≠ 4 from ‹_›)).symm

theorem c_shape_greatest (f : Fac) (w : World) (hf : FacV (Kw w) f) (hT : Tab w) : Calls Tryz.prog 37 #[.agg (facC f)] w (Pure (U (greatF f.fc)) w) := by
  have hm := hf.names.sl.small
  unfold maxLen at hm
  refine enter Tryz.func37 rfl Tryz.ntmps37 rfl ?_
  have hH := Hp.start w
  refine CW.seq ?_
  refine CW.region ?_
  refine RL.new rfl hH (f := fun b => (.pointer (some ⟨b, 0, none⟩))) (run_box (v := .agg _) rfl) ?_
  intro b3 w1 hH2
  refine RL.val rfl (run_assign (v := U 0#64) rfl) ?_
  refine RL.nil ?_
  refine CW.seq ?_
  refine CW.seq ?_
  refine CW.region ?_
  refine RL.val rfl (run_fieldAddr Tryz.underlying44 rfl (off := 0) rfl Tryz.sizeOf3 (by decide) rfl) ?_
  refine RL.val rfl (run_ld Tryz.underlying3 rfl rfl (hH2.cell (i := 0) rfl (v := I _) rfl)) ?_
  refine RL.nil ?_
  refine CW.block ?_
  refine CW.seq ?_
  refine CW.region ?_
  refine RL.val rfl (run_eql rfl rfl) ?_
  refine RL.val rfl (run_assign (v := B _) rfl) ?_
  refine RL.nil ?_
  refine CW.condP rfl (fun h5 => ?_) (fun h5 => ?_)
  · refine CW.seq ?_
    refine CW.region ?_
    refine RL.val rfl (run_fieldAddr Tryz.underlying44 rfl (off := 1) rfl Tryz.sizeOf39 (by decide) rfl) ?_
    refine RL.val rfl (run_ld Tryz.underlying39 rfl rfl (hH2.cell (i := 0) rfl rfl)) ?_
    refine RL.val rfl (run_lenSl (hf.names.sl.hp hH2) rfl Tryz.underlying39 rfl) ?_
    refine RL.callP rfl hH2 (c_rung_Top _  _) (run_call1 Tryz.call63 rfl) ?_
    intro w6 hH7
    refine RL.val rfl (run_assign (v := U _) rfl) ?_
    refine RL.nil ?_
    refine CW.ret ?_
    refine outP1 Tryz.results37 (congrArg U ?_) hH7.below
    first | (unfold greatF; rw [if_pos (show f.fc.kind = 1 from ‹_›)]; rfl) | (unfold greatF; rw [if_neg (show ¬ f.fc.kind = 1 from ‹_›), if_pos (show f.fc.kind = 2 from ‹_›)]; rfl) | (unfold greatF; rw [if_neg (show ¬ f.fc.kind = 1 from ‹_›), if_neg (show ¬ f.fc.kind = 2 from ‹_›), if_pos (show f.fc.kind = 3 from ‹_›)]; rfl) | (unfold greatF; rw [if_neg (show ¬ f.fc.kind = 1 from ‹_›), if_neg (show ¬ f.fc.kind = 2 from ‹_›), if_neg (show ¬ f.fc.kind = 3 from ‹_›)]; rfl)
  · refine CW.seq ?_
    refine CW.region ?_
    refine RL.val rfl (run_eql rfl rfl) ?_
    refine RL.val rfl (run_assign (v := B _) rfl) ?_
    refine RL.nil ?_
    refine CW.condP rfl (fun h9 => ?_) (fun h9 => ?_)
    · refine CW.seq ?_
      refine CW.region ?_
      refine RL.val rfl (run_fieldAddr Tryz.underlying44 rfl (off := 1) rfl Tryz.sizeOf39 (by decide) rfl) ?_
      refine RL.val rfl (run_ld Tryz.underlying39 rfl rfl (hH2.cell (i := 0) rfl rfl)) ?_
      refine RL.val rfl (run_lenSl (hf.names.sl.hp hH2) rfl Tryz.underlying39 rfl) ?_
      refine RL.callP rfl hH2 (c_mask_Below _  _) (run_call1 Tryz.call64 rfl) ?_
      intro w10 hH11
      refine RL.val rfl (run_assign (v := U _) rfl) ?_
      refine RL.nil ?_
      refine CW.ret ?_
      refine outP1 Tryz.results37 (congrArg U ?_) hH11.below
      first | (unfold greatF; rw [if_pos (show f.fc.kind = 1 from ‹_›)]; rfl) | (unfold greatF; rw [if_neg (show ¬ f.fc.kind = 1 from ‹_›), if_pos (show f.fc.kind = 2 from ‹_›)]; rfl) | (unfold greatF; rw [if_neg (show ¬ f.fc.kind = 1 from ‹_›), if_neg (show ¬ f.fc.kind = 2 from ‹_›), if_pos (show f.fc.kind = 3 from ‹_›)]; rfl) | (unfold greatF; rw [if_neg (show ¬ f.fc.kind = 1 from ‹_›), if_neg (show ¬ f.fc.kind = 2 from ‹_›), if_neg (show ¬ f.fc.kind = 3 from ‹_›)]; rfl)
    · refine CW.seq ?_
      refine CW.region ?_
      refine RL.val rfl (run_eql rfl rfl) ?_
      refine RL.val rfl (run_assign (v := B _) rfl) ?_
      refine RL.nil ?_
      refine CW.condP rfl (fun h13 => ?_) (fun h13 => ?_)
      · refine CW.seq ?_
        refine CW.region ?_
        refine RL.val rfl (run_fieldAddr Tryz.underlying44 rfl (off := 2) rfl Tryz.sizeOf42 (by decide) rfl) ?_
        refine RL.val rfl (run_ldBR Tryz.underlying42 rfl rfl rfl (hH2.blk (i := 0) rfl)) ?_
        refine RL.callP rfl hH2 (c_grid_Top _  _) (run_call1 Tryz.call65 rfl) ?_
        intro w14 hH15
        refine RL.val rfl (run_assign (v := U _) rfl) ?_
        refine RL.nil ?_
        refine CW.ret ?_
        refine outP1 Tryz.results37 (congrArg U ?_) hH15.below
        first | (unfold greatF; rw [if_pos (show f.fc.kind = 1 from ‹_›)]; rfl) | (unfold greatF; rw [if_neg (show ¬ f.fc.kind = 1 from ‹_›), if_pos (show f.fc.kind = 2 from ‹_›)]; rfl) | (unfold greatF; rw [if_neg (show ¬ f.fc.kind = 1 from ‹_›), if_neg (show ¬ f.fc.kind = 2 from ‹_›), if_pos (show f.fc.kind = 3 from ‹_›)]; rfl) | (unfold greatF; rw [if_neg (show ¬ f.fc.kind = 1 from ‹_›), if_neg (show ¬ f.fc.kind = 2 from ‹_›), if_neg (show ¬ f.fc.kind = 3 from ‹_›)]; rfl)
      · refine CW.skip ?_
        refine CW.seq ?_
        refine CW.region ?_
        refine RL.val rfl (run_fieldAddr Tryz.underlying44 rfl (off := 2) rfl Tryz.sizeOf42 (by decide) rfl) ?_
        refine RL.val rfl (run_ldBR Tryz.underlying42 rfl rfl rfl (hH2.blk (i := 0) rfl)) ?_
        refine RL.callP rfl hH2 (c_hasse_Top _  _ (hT.hp hH2)) (run_call1 Tryz.call66 rfl) ?_
        intro w16 hH17
        refine RL.val rfl (run_move (by conv => lhs; whnf)) ?_
        refine RL.val rfl (run_extract rfl (v := I _) rfl) ?_
        refine RL.val rfl (run_extract rfl (v := B _) rfl) ?_
        refine RL.val rfl (run_assign (v := I _) rfl) ?_
        refine RL.val rfl (run_assign (v := B _) rfl) ?_
        refine RL.nil ?_
        refine CW.seq ?_
        refine CW.region ?_
        refine RL.val rfl (run_fieldAddr Tryz.underlying44 rfl (off := 2) rfl Tryz.sizeOf42 (by decide) rfl) ?_
        refine RL.val rfl (run_ldBR Tryz.underlying42 rfl rfl rfl (hH17.blk (i := 0) rfl)) ?_
        refine RL.val rfl (run_move (v := I _) rfl) ?_
        refine RL.callP rfl hH17 (c_hasse_Word _ _  _ (hT.hp hH17)) (run_call2 Tryz.call60 rfl rfl) ?_
        intro w19 hH20
        refine RL.val rfl (run_assign (v := U _) rfl) ?_
        refine RL.nil ?_
        refine CW.ret ?_
        refine outP1 Tryz.results37 (congrArg U ?_) hH20.below
        first | (unfold greatF; rw [if_pos (show f.fc.kind = 1 from ‹_›)]; rfl) | (unfold greatF; rw [if_neg (show ¬ f.fc.kind = 1 from ‹_›), if_pos (show f.fc.kind = 2 from ‹_›)]; rfl) | (unfold greatF; rw [if_neg (show ¬ f.fc.kind = 1 from ‹_›), if_neg (show ¬ f.fc.kind = 2 from ‹_›), if_pos (show f.fc.kind = 3 from ‹_›)]; rfl) | (unfold greatF; rw [if_neg (show ¬ f.fc.kind = 1 from ‹_›), if_neg (show ¬ f.fc.kind = 2 from ‹_›), if_neg (show ¬ f.fc.kind = 3 from ‹_›)]; rfl)

theorem c_shape_Bottom (s : Shp) (w : World) (hs : ShpV (Kw w) s) (hT : Tab w) : Calls Tryz.prog 11 #[.agg (shpC s)] w (Pure (.agg (elC (eachS s.sh leastF))) w) := by
  refine enter Tryz.func11 rfl Tryz.ntmps11 rfl ?_
  have hH := Hp.start w
  refine CW.seq ?_
  refine CW.region ?_
  refine RL.new rfl hH (f := fun b => (.pointer (some ⟨b, 0, none⟩))) (run_box (v := .agg _) rfl) ?_
  intro b3 w1 hH2
  refine RL.new rfl hH2 (f := fun b => (.pointer (some ⟨b, 0, none⟩))) (run_alloc zero_el) ?_
  intro b6 w4 hH5
  refine RL.nil ?_
  refine CW.seq ?_
  refine CW.region ?_
  refine RL.val rfl (run_ldA (cs := [B _, _]) Tryz.underlying24 rfl rfl rfl (rangeAt_cells (hH5.blk (i := 1) rfl))) ?_
  refine RL.callP rfl hH5 (c_shape_each s 32 leastF _ (hs.mono hH5.kw) Tryz.call32 (fun f w h ht => c_shape_least f w h ht) (hT.hp hH5)) (run_call2 Tryz.call31 rfl rfl) ?_
  intro w7 hH8
  refine RL.set hH8 (i := 0) rfl (run_stEl rfl rfl rfl (hH8.blk (i := 0) rfl)) ?_
  intro w9 hH10
  simp only [List.set_cons_zero, List.set_cons_succ] at hH10
  refine RL.nil ?_
  refine CW.ret ?_
  refine outCg Tryz.results11 rfl hH10 (i := 0) rfl Tryz.underlying30 rfl (by rw [elC_size]; rfl) ⟨?_, hH10.below⟩
  rfl

theorem c_shape_Top (s : Shp) (w : World) (hs : ShpV (Kw w) s) (hT : Tab w) : Calls Tryz.prog 13 #[.agg (shpC s)] w (Pure (.agg (elC (eachS s.sh greatF))) w) := by
  refine enter Tryz.func13 rfl Tryz.ntmps13 rfl ?_
  have hH := Hp.start w
  refine CW.seq ?_
  refine CW.region ?_
  refine RL.new rfl hH (f := fun b => (.pointer (some ⟨b, 0, none⟩))) (run_box (v := .agg _) rfl) ?_
  intro b3 w1 hH2
  refine RL.new rfl hH2 (f := fun b => (.pointer (some ⟨b, 0, none⟩))) (run_alloc zero_el) ?_
  intro b6 w4 hH5
  refine RL.nil ?_
  refine CW.seq ?_
  refine CW.region ?_
  refine RL.val rfl (run_ldA (cs := [B _, _]) Tryz.underlying24 rfl rfl rfl (rangeAt_cells (hH5.blk (i := 1) rfl))) ?_
  refine RL.callP rfl hH5 (c_shape_each s 37 greatF _ (hs.mono hH5.kw) Tryz.call37 (fun f w h ht => c_shape_greatest f w h ht) (hT.hp hH5)) (run_call2 Tryz.call31 rfl rfl) ?_
  intro w7 hH8
  refine RL.set hH8 (i := 0) rfl (run_stEl rfl rfl rfl (hH8.blk (i := 0) rfl)) ?_
  intro w9 hH10
  simp only [List.set_cons_zero, List.set_cons_succ] at hH10
  refine RL.nil ?_
  refine CW.ret ?_
  refine outCg Tryz.results13 rfl hH10 (i := 0) rfl Tryz.underlying30 rfl (by rw [elC_size]; rfl) ⟨?_, hH10.below⟩
  rfl

theorem c_shape_high (f : Fac) (w : World) (hf : FacV (Kw w) f) (hT : Tab w) : Calls Tryz.prog 38 #[.agg (facC f)] w (Pure (I (highF f.fc)) w) := by
  have hm := hf.names.sl.small
  unfold maxLen at hm
  refine enter Tryz.func38 rfl Tryz.ntmps38 rfl ?_
  have hH := Hp.start w
  refine CW.seq ?_
  refine CW.region ?_
  refine RL.new rfl hH (f := fun b => (.pointer (some ⟨b, 0, none⟩))) (run_box (v := .agg _) rfl) ?_
  intro b3 w1 hH2
  refine RL.val rfl (run_assign (v := I 0) rfl) ?_
  refine RL.nil ?_
  refine CW.seq ?_
  refine CW.seq ?_
  refine CW.region ?_
  refine RL.val rfl (run_fieldAddr Tryz.underlying44 rfl (off := 0) rfl Tryz.sizeOf3 (by decide) rfl) ?_
  refine RL.val rfl (run_ld Tryz.underlying3 rfl rfl (hH2.cell (i := 0) rfl (v := I _) rfl)) ?_
  refine RL.nil ?_
  refine CW.block ?_
  refine CW.seq ?_
  refine CW.region ?_
  refine RL.val rfl (run_eql rfl rfl) ?_
  refine RL.val rfl (run_assign (v := B _) rfl) ?_
  refine RL.nil ?_
  refine CW.condP rfl (fun h5 => ?_) (fun h5 => ?_)
  · refine CW.seq ?_
    refine CW.region ?_
    refine RL.val rfl (run_fieldAddr Tryz.underlying44 rfl (off := 1) rfl Tryz.sizeOf39 (by decide) rfl) ?_
    refine RL.val rfl (run_ld Tryz.underlying39 rfl rfl (hH2.cell (i := 0) rfl rfl)) ?_
    refine RL.val rfl (run_lenSl (hf.names.sl.hp hH2) rfl Tryz.underlying39 rfl) ?_
    refine RL.val rfl (run_sub rfl rfl (by omega)) ?_
    refine RL.val rfl (run_assign (v := I _) rfl) ?_
    refine RL.nil ?_
    refine CW.ret ?_
    refine outP1 Tryz.results38 (congrArg I ?_) hH2.below
    first | (unfold highF; rw [if_pos (show f.fc.kind = 1 from ‹_›)]; rfl) | (unfold highF; rw [if_neg (show ¬ f.fc.kind = 1 from ‹_›), if_pos (show f.fc.kind = 2 from ‹_›)]; rfl) | (unfold highF; rw [if_neg (show ¬ f.fc.kind = 1 from ‹_›), if_neg (show ¬ f.fc.kind = 2 from ‹_›), if_pos (show f.fc.kind = 3 from ‹_›)]; rfl) | (unfold highF; rw [if_neg (show ¬ f.fc.kind = 1 from ‹_›), if_neg (show ¬ f.fc.kind = 2 from ‹_›), if_neg (show ¬ f.fc.kind = 3 from ‹_›)]; rfl)
  · refine CW.seq ?_
    refine CW.region ?_
    refine RL.val rfl (run_eql rfl rfl) ?_
    refine RL.val rfl (run_assign (v := B _) rfl) ?_
    refine RL.nil ?_
    refine CW.condP rfl (fun h7 => ?_) (fun h7 => ?_)
    · refine CW.seq ?_
      refine CW.region ?_
      refine RL.val rfl (run_fieldAddr Tryz.underlying44 rfl (off := 1) rfl Tryz.sizeOf39 (by decide) rfl) ?_
      refine RL.val rfl (run_ld Tryz.underlying39 rfl rfl (hH2.cell (i := 0) rfl rfl)) ?_
      refine RL.val rfl (run_lenSl (hf.names.sl.hp hH2) rfl Tryz.underlying39 rfl) ?_
      refine RL.val rfl (run_assign (v := I _) rfl) ?_
      refine RL.nil ?_
      refine CW.ret ?_
      refine outP1 Tryz.results38 (congrArg I ?_) hH2.below
      first | (unfold highF; rw [if_pos (show f.fc.kind = 1 from ‹_›)]; rfl) | (unfold highF; rw [if_neg (show ¬ f.fc.kind = 1 from ‹_›), if_pos (show f.fc.kind = 2 from ‹_›)]; rfl) | (unfold highF; rw [if_neg (show ¬ f.fc.kind = 1 from ‹_›), if_neg (show ¬ f.fc.kind = 2 from ‹_›), if_pos (show f.fc.kind = 3 from ‹_›)]; rfl) | (unfold highF; rw [if_neg (show ¬ f.fc.kind = 1 from ‹_›), if_neg (show ¬ f.fc.kind = 2 from ‹_›), if_neg (show ¬ f.fc.kind = 3 from ‹_›)]; rfl)
    · refine CW.seq ?_
      refine CW.region ?_
      refine RL.val rfl (run_eql rfl rfl) ?_
      refine RL.val rfl (run_assign (v := B _) rfl) ?_
      refine RL.nil ?_
      refine CW.condP rfl (fun h9 => ?_) (fun h9 => ?_)
      · refine CW.seq ?_
        refine CW.region ?_
        refine RL.val rfl (run_fieldAddr Tryz.underlying44 rfl (off := 2) rfl Tryz.sizeOf42 (by decide) rfl) ?_
        refine RL.val rfl (run_ldBR Tryz.underlying42 rfl rfl rfl (hH2.blk (i := 0) rfl)) ?_
        refine RL.callP rfl hH2 (c_grid_Height _  _ (hT.hp hH2)) (run_call1 Tryz.call67 rfl) ?_
        intro w10 hH11
        refine RL.val rfl (run_assign (v := I _) rfl) ?_
        refine RL.nil ?_
        refine CW.ret ?_
        refine outP1 Tryz.results38 (congrArg I ?_) hH11.below
        first | (unfold highF; rw [if_pos (show f.fc.kind = 1 from ‹_›)]; rfl) | (unfold highF; rw [if_neg (show ¬ f.fc.kind = 1 from ‹_›), if_pos (show f.fc.kind = 2 from ‹_›)]; rfl) | (unfold highF; rw [if_neg (show ¬ f.fc.kind = 1 from ‹_›), if_neg (show ¬ f.fc.kind = 2 from ‹_›), if_pos (show f.fc.kind = 3 from ‹_›)]; rfl) | (unfold highF; rw [if_neg (show ¬ f.fc.kind = 1 from ‹_›), if_neg (show ¬ f.fc.kind = 2 from ‹_›), if_neg (show ¬ f.fc.kind = 3 from ‹_›)]; rfl)
      · refine CW.skip ?_
        refine CW.seq ?_
        refine CW.region ?_
        refine RL.val rfl (run_fieldAddr Tryz.underlying44 rfl (off := 2) rfl Tryz.sizeOf42 (by decide) rfl) ?_
        refine RL.val rfl (run_ldBR Tryz.underlying42 rfl rfl rfl (hH2.blk (i := 0) rfl)) ?_
        refine RL.callP rfl hH2 (c_relate_Long _  _ (hT.hp hH2)) (run_call1 Tryz.call68 rfl) ?_
        intro w12 hH13
        refine RL.val rfl (run_move (by conv => lhs; whnf)) ?_
        refine RL.val rfl (run_extract rfl (v := I _) rfl) ?_
        refine RL.val rfl (run_extract rfl (v := B _) rfl) ?_
        refine RL.val rfl (run_assign (v := I _) rfl) ?_
        refine RL.val rfl (run_assign (v := B _) rfl) ?_
        refine RL.nil ?_
        refine CW.seq ?_
        refine CW.region ?_
        refine RL.val rfl (run_move (v := I _) rfl) ?_
        refine RL.val rfl (run_assign (v := I _) rfl) ?_
        refine RL.nil ?_
        refine CW.ret ?_
        refine outP1 Tryz.results38 (congrArg I ?_) hH13.below
        first | (unfold highF; rw [if_pos (show f.fc.kind = 1 from ‹_›)]; rfl) | (unfold highF; rw [if_neg (show ¬ f.fc.kind = 1 from ‹_›), if_pos (show f.fc.kind = 2 from ‹_›)]; rfl) | (unfold highF; rw [if_neg (show ¬ f.fc.kind = 1 from ‹_›), if_neg (show ¬ f.fc.kind = 2 from ‹_›), if_pos (show f.fc.kind = 3 from ‹_›)]; rfl) | (unfold highF; rw [if_neg (show ¬ f.fc.kind = 1 from ‹_›), if_neg (show ¬ f.fc.kind = 2 from ‹_›), if_neg (show ¬ f.fc.kind = 3 from ‹_›)]; rfl)

theorem c_shape_Height (s : Shp) (w : World) (hs : ShpV (Kw w) s) (hT : Tab w) : Calls Tryz.prog 14 #[.agg (shpC s)] w (Pure (I (heightS s.sh)) w) := by
  have hsl := sh_len s
  have hm := hs.facs.sl.small
  unfold maxLen at hm
  refine enter Tryz.func14 rfl Tryz.ntmps14 rfl ?_
  have hH := Hp.start w
  refine CW.seq ?_
  refine CW.region ?_
  refine RL.new rfl hH (f := fun b => (.pointer (some ⟨b, 0, none⟩))) (run_box (v := .agg _) rfl) ?_
  intro b3 w1 hH2
  refine RL.val rfl (run_assign (v := I 0) rfl) ?_
  refine RL.nil ?_
  refine CW.seq ?_
  refine CW.region ?_
  refine RL.val rfl (run_assign (v := I 0) rfl) ?_
  refine RL.nil ?_
  refine CW.seq ?_
  refine CW.seq ?_
  refine CW.region ?_
  refine RL.val rfl (run_ldA (cs := [B _, _]) Tryz.underlying24 rfl rfl rfl (rangeAt_cells (hH2.blk (i := 0) rfl))) ?_
  refine RL.callP rfl hH2 (c_shape_Right _  _ (hs.mono hH2.kw) (hT.hp hH2)) (run_call1 Tryz.call7 rfl) ?_
  intro w4 hH5
  refine RL.nil ?_
  refine CW.cond rfl (fun h7 => ?_) (fun h7 => ?_)
  · refine CW.seq ?_
    refine CW.region ?_
    refine RL.val rfl (run_fieldAddr Tryz.underlying24 rfl (off := 1) rfl Tryz.sizeOf22 (by decide) rfl) ?_
    refine RL.val rfl (run_ld Tryz.underlying22 rfl rfl (hH5.cell (i := 0) rfl rfl)) ?_
    refine RL.val rfl (run_lenSl (hs.facs.sl.hp hH5) rfl Tryz.underlying22 rfl) ?_
    refine RL.val rfl (run_move (v := I 0) rfl) ?_
    refine RL.nil ?_
    refine CW.block ?_
    refine CW.loop (G := (Int)) (fun (k : Int) s' w' => (Fr [3, 5, 11, 12, 13, 14, 15, 16, 17, 18, 19] _ s') ∧ (Hp w w' _) ∧ (s' 3 = I (sumTo s.sh k)) ∧ (s' 11 = I k) ∧ (0 ≤ k) ∧ (k ≤ s.facs.length)) (fun (k : Int) => (s.facs.length - k).toNat) (0) ⟨Fr.refl _ _, hH5, rfl, rfl, (by omega), (by omega)⟩ ?_
    rintro k sg8 w8 ⟨fr8, hH8, e3_8, e11_8, h0, hk⟩
    have e2_8 : sg8 2 = I _ := (fr8 2 rfl).trans rfl
    have e9_8 := (fr8 9 rfl).trans (by conv => lhs; whnf)
    have e10_8 : sg8 10 = I _ := (fr8 10 rfl).trans rfl
    refine CW.seq ?_
    refine CW.region ?_
    refine RL.val rfl (run_lss e11_8 e10_8) ?_
    refine RL.nil ?_
    refine CW.seq ?_
    refine CW.condP rfl (fun h10 => ?_) (fun h10 => ?_)
    · refine CW.skip ?_
      refine CW.seq ?_
      refine CW.block ?_
      refine CW.seq ?_
      refine CW.region ?_
      refine RL.val rfl (run_indexAddrS (hs.facs.sl.hp hH8) Tryz.underlying22 Tryz.sizeOf44 e9_8 e11_8 (by omega)) ?_
      refine RL.val rfl (run_ldE (dv := fac0) facL_len (hs.facs.sl.hp hH8) Tryz.underlying44 rfl rfl rfl (by omega)) ?_
      refine RL.new rfl hH8 (f := fun b => (.pointer (some ⟨b, 0, none⟩))) (run_alloc zero_fac) ?_
      intro b13 w11 hH12
      refine RL.set hH12 (i := 0) rfl (run_stFac (hs.at (by omega) (by omega)) rfl rfl rfl (hH12.blk (i := 0) rfl)) ?_
      intro w14 hH15
      simp only [List.set_cons_zero, List.set_cons_succ] at hH15
      refine RL.nil ?_
      refine CW.region ?_
      refine RL.val rfl (run_move e3_8) ?_
      refine RL.val rfl (run_ldFac Tryz.underlying44 rfl rfl rfl (hH15.blk (i := 0) rfl)) ?_
      refine RL.callP rfl hH15 (c_shape_high _  _ ((hs.at (by omega) (by omega)).mono hH15.kw) (hT.hp hH15)) (run_call1 Tryz.call38 rfl) ?_
      intro w16 hH17
      refine RL.val rfl (run_add rfl rfl (by first | omega | (have := sum_bdI ‹shR s.sh = true› h0 (show k ≤ s.sh.facs.length by omega); have hhb := high_bd (sh_at ‹shR s.sh = true› h0 (show k < s.sh.facs.length by omega)); rw [sh_get] at hhb; omega))) ?_
      refine RL.val rfl (run_assign (v := I _) rfl) ?_
      refine RL.nil ?_
      refine CW.region ?_
      refine RL.val rfl (run_add e11_8 rfl (by first | omega | (have := sum_bdI ‹shR s.sh = true› h0 (show k ≤ s.sh.facs.length by omega); have hhb := high_bd (sh_at ‹shR s.sh = true› h0 (show k < s.sh.facs.length by omega)); rw [sh_get] at hhb; omega))) ?_
      refine RL.val rfl (run_move (v := I _) rfl) ?_
      refine RL.nil ?_
      refine ⟨k + 1, ?_, ((((((((((fr8.u rfl).u rfl).u rfl).u rfl).u rfl).u rfl).u rfl).u rfl).u rfl).u rfl).u rfl, (hH17.sub (.cons _ (List.Sublist.refl _))), (congrArg I (by rw [← sum_next h0, sh_get])), (congrArg I (by first | rfl | omega)), ?_, ?_⟩
      · ((try dsimp only); omega)
      · omega
      · omega
    · refine CW.exit (id := 0) rfl ?_
      refine CW.seq ?_
      refine CW.region ?_
      refine RL.val rfl (run_move e3_8) ?_
      refine RL.val rfl (run_assign (v := I _) rfl) ?_
      refine RL.nil ?_
      refine CW.ret ?_
      refine outP1 Tryz.results14 (congrArg I ?_) hH8.below
      first | exact (height_nil ‹_›).symm | exact height_is ‹_› (by omega)
  · refine CW.skip ?_
    refine CW.seq ?_
    refine CW.region ?_
    refine RL.val rfl (run_move (v := I _) rfl) ?_
    refine RL.val rfl (run_assign (v := I _) rfl) ?_
    refine RL.nil ?_
    refine CW.ret ?_
    refine outP1 Tryz.results14 (congrArg I ?_) hH5.below
    first | exact (height_nil ‹_›).symm | exact height_is ‹_› (by omega)

theorem c_clearanceref07_factor (f : Fac) (w : World) (hf : FacV (Kw w) f) : Calls Tryz.prog 27 #[.agg (facC f)] w (Pure (B (factorR f.fc)) w) := by
  have hm := hf.names.sl.small
  unfold maxLen at hm
  refine enter Tryz.func27 rfl Tryz.ntmps27 rfl ?_
  have hH := Hp.start w
  refine CW.seq ?_
  refine CW.region ?_
  refine RL.new rfl hH (f := fun b => (.pointer (some ⟨b, 0, none⟩))) (run_box (v := .agg _) rfl) ?_
  intro b3 w1 hH2
  refine RL.val rfl (run_assign (v := B false) rfl) ?_
  refine RL.nil ?_
  refine CW.seq ?_
  refine CW.region ?_
  refine RL.val rfl (run_fieldAddr Tryz.underlying44 rfl (off := 1) rfl Tryz.sizeOf39 (by decide) rfl) ?_
  refine RL.val rfl (run_ld Tryz.underlying39 rfl rfl (hH2.cell (i := 0) rfl rfl)) ?_
  refine RL.val rfl (run_lenSl (hf.names.sl.hp hH2) rfl Tryz.underlying39 rfl) ?_
  refine RL.val rfl (run_assign (v := I _) rfl) ?_
  refine RL.nil ?_
  refine CW.seq ?_
  refine CW.seq ?_
  refine CW.region ?_
  refine RL.val rfl (run_move (v := I _) rfl) ?_
  refine RL.val rfl (run_lss rfl rfl) ?_
  refine RL.val rfl (run_move (v := B _) rfl) ?_
  refine RL.splitP (dj := 10) rfl (fun h5 => ?_) (fun h5 => ?_)
  · refine RL.gF rfl rfl (bT h5) rfl ?_
    refine RL.gF rfl rfl (bT h5) rfl ?_
    refine RL.val rfl (run_pickT (bT h5) (v := B true) rfl) ?_
    refine RL.val rfl (run_move (v := B _) rfl) ?_
    refine RL.gF rfl rfl rfl rfl ?_
    refine RL.gF rfl rfl rfl rfl ?_
    refine RL.gF rfl rfl rfl rfl ?_
    refine RL.gF rfl rfl rfl rfl ?_
    refine RL.val rfl (run_pickT rfl (v := B true) rfl) ?_
    refine RL.nil ?_
    refine CW.condT rfl ?_
    refine CW.seq ?_
    refine CW.region ?_
    refine RL.val rfl (run_assign (v := B false) rfl) ?_
    refine RL.nil ?_
    refine CW.ret ?_
    refine outP1 Tryz.results27 (congrArg B ?_) hH2.below
    first | exact (fac_no (f := f.fc) (named_no1 (by show ¬ (1 ≤ f.names.length ∧ f.names.length ≤ 64); omega))).symm | exact (fac_no (f := f.fc) (named_no2 (by show ¬ twice f.names < 0; omega))).symm | exact (fac_no (f := f.fc) (named_no3 h0 ‹_› (nt ‹_›))).symm | (have hny : namedF f.names = true := named_yes hn1 hn2 ‹¬ k < _› hg; first | exact (fac_12 (f := f.fc) hny (.inl ‹_›)).symm | exact (fac_12 (f := f.fc) hny (.inr ‹_›)).symm | exact (fac_3y (f := f.fc) hny ‹_› ‹_›).symm | exact (fac_3n (f := f.fc) ‹_› ‹_›).symm | exact (fac_4y (f := f.fc) hny ‹_› ‹_›).symm | exact (fac_4n (f := f.fc) ‹_› ‹_›).symm | exact (fac_x (f := f.fc) ‹_› ‹_› ‹_› ‹_›).symm)
  · refine RL.gT rfl (bF h5) ?_
    refine RL.val rfl (run_move (v := I _) rfl) ?_
    refine RL.gT rfl (bF h5) ?_
    refine RL.val rfl (run_gtr rfl rfl) ?_
    refine RL.val rfl (run_pickF (bF h5) (v := B _) rfl) ?_
    refine RL.val rfl (run_move (v := B _) rfl) ?_
    refine RL.splitP (dj := 14) rfl (fun h7 => ?_) (fun h7 => ?_)
    · refine RL.gF rfl rfl (bT h7) rfl ?_
      refine RL.gF rfl rfl (bT h7) rfl ?_
      refine RL.gF rfl rfl (bT h7) rfl ?_
      refine RL.gF rfl rfl (bT h7) rfl ?_
      refine RL.val rfl (run_pickT (bT h7) (v := B true) rfl) ?_
      refine RL.nil ?_
      refine CW.condT rfl ?_
      refine CW.seq ?_
      refine CW.region ?_
      refine RL.val rfl (run_assign (v := B false) rfl) ?_
      refine RL.nil ?_
      refine CW.ret ?_
      refine outP1 Tryz.results27 (congrArg B ?_) hH2.below
      first | exact (fac_no (f := f.fc) (named_no1 (by show ¬ (1 ≤ f.names.length ∧ f.names.length ≤ 64); omega))).symm | exact (fac_no (f := f.fc) (named_no2 (by show ¬ twice f.names < 0; omega))).symm | exact (fac_no (f := f.fc) (named_no3 h0 ‹_› (nt ‹_›))).symm | (have hny : namedF f.names = true := named_yes hn1 hn2 ‹¬ k < _› hg; first | exact (fac_12 (f := f.fc) hny (.inl ‹_›)).symm | exact (fac_12 (f := f.fc) hny (.inr ‹_›)).symm | exact (fac_3y (f := f.fc) hny ‹_› ‹_›).symm | exact (fac_3n (f := f.fc) ‹_› ‹_›).symm | exact (fac_4y (f := f.fc) hny ‹_› ‹_›).symm | exact (fac_4n (f := f.fc) ‹_› ‹_›).symm | exact (fac_x (f := f.fc) ‹_› ‹_› ‹_› ‹_›).symm)
    · refine RL.gT rfl (bF h7) ?_
      refine RL.val rfl (run_fieldAddr Tryz.underlying44 rfl (off := 1) rfl Tryz.sizeOf39 (by decide) rfl) ?_
      refine RL.gT rfl (bF h7) ?_
      refine RL.val rfl (run_ld Tryz.underlying39 rfl rfl (hH2.cell (i := 0) rfl rfl)) ?_
      refine RL.gT rfl (bF h7) ?_
      refine RL.callP rfl hH2 (c_clearanceref02_Twice _ _  _ (hf.names.sl.hp hH2)) (run_call1 Tryz.call52 rfl) ?_
      intro w8 hH9
      refine RL.gT rfl (bF h7) ?_
      refine RL.val rfl (run_geq rfl rfl) ?_
      refine RL.val rfl (run_pickF (bF h7) (v := B _) rfl) ?_
      refine RL.nil ?_
      refine CW.condP rfl (fun h11 => ?_) (fun h11 => ?_)
      · refine CW.seq ?_
        refine CW.region ?_
        refine RL.val rfl (run_assign (v := B false) rfl) ?_
        refine RL.nil ?_
        refine CW.ret ?_
        refine outP1 Tryz.results27 (congrArg B ?_) hH9.below
        first | exact (fac_no (f := f.fc) (named_no1 (by show ¬ (1 ≤ f.names.length ∧ f.names.length ≤ 64); omega))).symm | exact (fac_no (f := f.fc) (named_no2 (by show ¬ twice f.names < 0; omega))).symm | exact (fac_no (f := f.fc) (named_no3 h0 ‹_› (nt ‹_›))).symm | (have hny : namedF f.names = true := named_yes hn1 hn2 ‹¬ k < _› hg; first | exact (fac_12 (f := f.fc) hny (.inl ‹_›)).symm | exact (fac_12 (f := f.fc) hny (.inr ‹_›)).symm | exact (fac_3y (f := f.fc) hny ‹_› ‹_›).symm | exact (fac_3n (f := f.fc) ‹_› ‹_›).symm | exact (fac_4y (f := f.fc) hny ‹_› ‹_›).symm | exact (fac_4n (f := f.fc) ‹_› ‹_›).symm | exact (fac_x (f := f.fc) ‹_› ‹_› ‹_› ‹_›).symm)
      · refine CW.skip ?_
        refine CW.seq ?_
        refine CW.seq ?_
        refine CW.region ?_
        refine RL.val rfl (run_assign (v := I 0) rfl) ?_
        refine RL.nil ?_
        refine CW.block ?_
        have hn1 : 1 ≤ f.names.length ∧ f.names.length ≤ 64 := by omega
        have hn2 : twice f.names < 0 := by omega
        refine CW.loop (G := (Int)) (fun (k : Int) s' w' => (Fr [2, 4, 20, 21, 22, 23, 24, 25, 26, 27, 28, 29, 30, 31] _ s') ∧ (Hp w w' _) ∧ (s' 4 = I k) ∧ (0 ≤ k) ∧ (k ≤ f.names.length) ∧ (∀ j : Int, 0 ≤ j → j < k → nameR (f.names.getD j.toNat tx0) = true)) (fun (k : Int) => (f.names.length - k).toNat) (0) ⟨Fr.refl _ _, hH9, rfl, (by omega), (by omega), fun j a b => absurd b (by omega)⟩ ?_
        rintro k sg12 w12 ⟨fr12, hH12, e4_12, h0, hk, hg⟩
        have e1_12 : sg12 1 = .pointer (some ⟨_, _, none⟩) := (fr12 1 rfl).trans rfl
        have e3_12 : sg12 3 = I _ := (fr12 3 rfl).trans rfl
        refine CW.seq ?_
        refine CW.seq ?_
        refine CW.region ?_
        refine RL.val rfl (run_move e4_12) ?_
        refine RL.val rfl (run_move e3_12) ?_
        refine RL.val rfl (run_lss rfl rfl) ?_
        refine RL.nil ?_
        refine CW.condP rfl (fun h14 => ?_) (fun h14 => ?_)
        · refine CW.skip ?_
          refine CW.seq ?_
          refine CW.block ?_
          refine CW.seq ?_
          refine CW.region ?_
          refine RL.val rfl (run_fieldAddr Tryz.underlying44 rfl (off := 1) rfl Tryz.sizeOf39 (by decide) e1_12) ?_
          refine RL.val rfl (run_ld Tryz.underlying39 rfl rfl (hH12.cell (i := 0) rfl rfl)) ?_
          refine RL.val rfl (run_move e4_12) ?_
          refine RL.val rfl (run_indexAddrS (hf.names.sl.hp hH12) Tryz.underlying39 Tryz.sizeOf9 rfl rfl (by omega)) ?_
          refine RL.val rfl (run_ld Tryz.underlying9 rfl rfl ((hf.names.sl.hp hH12).cell _ _ (txL_at (by omega)))) ?_
          refine RL.callP rfl hH12 (c_clearanceref02_Right _  _) (run_call1 Tryz.call53 rfl) ?_
          intro w15 hH16
          refine RL.val rfl (run_not rfl) ?_
          refine RL.nil ?_
          refine CW.cond rfl (fun h19 => ?_) (fun h19 => ?_)
          · refine CW.seq ?_
            refine CW.region ?_
            refine RL.val rfl (run_assign (v := B false) rfl) ?_
            refine RL.nil ?_
            refine CW.ret ?_
            refine outP1 Tryz.results27 (congrArg B ?_) hH16.below
            first | exact (fac_no (f := f.fc) (named_no1 (by show ¬ (1 ≤ f.names.length ∧ f.names.length ≤ 64); omega))).symm | exact (fac_no (f := f.fc) (named_no2 (by show ¬ twice f.names < 0; omega))).symm | exact (fac_no (f := f.fc) (named_no3 h0 ‹_› (nt ‹_›))).symm | (have hny : namedF f.names = true := named_yes hn1 hn2 ‹¬ k < _› hg; first | exact (fac_12 (f := f.fc) hny (.inl ‹_›)).symm | exact (fac_12 (f := f.fc) hny (.inr ‹_›)).symm | exact (fac_3y (f := f.fc) hny ‹_› ‹_›).symm | exact (fac_3n (f := f.fc) ‹_› ‹_›).symm | exact (fac_4y (f := f.fc) hny ‹_› ‹_›).symm | exact (fac_4n (f := f.fc) ‹_› ‹_›).symm | exact (fac_x (f := f.fc) ‹_› ‹_› ‹_› ‹_›).symm)
          · refine CW.skip ?_
            refine CW.region ?_
            refine RL.val rfl (run_move e4_12) ?_
            refine RL.val rfl (run_add rfl rfl (by omega)) ?_
            refine RL.val rfl (run_assign (v := I _) rfl) ?_
            refine RL.nil ?_
            refine ⟨k + 1, ?_, ((((((((((((fr12.u rfl).u rfl).u rfl).u rfl).u rfl).u rfl).u rfl).u rfl).u rfl).u rfl).u rfl).u rfl).u rfl, hH16, (congrArg I (by first | rfl | omega)), ?_, ?_, ?_⟩
            · ((try dsimp only); omega)
            · omega
            · omega
            · exact fun j a b => if e : j = k then e ▸ nf ‹_› else hg j a (by omega)
        · refine CW.exit (id := 0) rfl ?_
          refine CW.seq ?_
          refine CW.seq ?_
          refine CW.region ?_
          refine RL.val rfl (run_fieldAddr Tryz.underlying44 rfl (off := 0) rfl Tryz.sizeOf3 (by decide) e1_12) ?_
          refine RL.val rfl (run_ld Tryz.underlying3 rfl rfl (hH12.cell (i := 0) rfl (v := I _) rfl)) ?_
          refine RL.val rfl (run_eql rfl rfl) ?_
          refine RL.val rfl (run_move (v := B _) rfl) ?_
          refine RL.splitP (dj := 35) rfl (fun h21 => ?_) (fun h21 => ?_)
          · refine RL.gF rfl rfl (bT h21) rfl ?_
            refine RL.gF rfl rfl (bT h21) rfl ?_
            refine RL.gF rfl rfl (bT h21) rfl ?_
            refine RL.val rfl (run_pickT (bT h21) (v := B true) rfl) ?_
            refine RL.nil ?_
            refine CW.condT rfl ?_
            refine CW.seq ?_
            refine CW.region ?_
            refine RL.val rfl (run_fieldAddr Tryz.underlying44 rfl (off := 2) rfl Tryz.sizeOf42 (by decide) e1_12) ?_
            refine RL.val rfl (run_ldBR Tryz.underlying42 rfl rfl rfl (hH12.blk (i := 0) rfl)) ?_
            refine RL.callP rfl hH12 (c_clearanceref03_Points _  _) (run_call1 Tryz.call54 rfl) ?_
            intro w22 hH23
            refine RL.val rfl (run_eql rfl rfl) ?_
            refine RL.val rfl (run_assign (v := B _) rfl) ?_
            refine RL.nil ?_
            refine CW.ret ?_
            refine outP1 Tryz.results27 (congrArg B ?_) hH23.below
            first | exact (fac_no (f := f.fc) (named_no1 (by show ¬ (1 ≤ f.names.length ∧ f.names.length ≤ 64); omega))).symm | exact (fac_no (f := f.fc) (named_no2 (by show ¬ twice f.names < 0; omega))).symm | exact (fac_no (f := f.fc) (named_no3 h0 ‹_› (nt ‹_›))).symm | (have hny : namedF f.names = true := named_yes hn1 hn2 ‹¬ k < _› hg; first | exact (fac_12 (f := f.fc) hny (.inl ‹_›)).symm | exact (fac_12 (f := f.fc) hny (.inr ‹_›)).symm | exact (fac_3y (f := f.fc) hny ‹_› ‹_›).symm | exact (fac_3n (f := f.fc) ‹_› ‹_›).symm | exact (fac_4y (f := f.fc) hny ‹_› ‹_›).symm | exact (fac_4n (f := f.fc) ‹_› ‹_›).symm | exact (fac_x (f := f.fc) ‹_› ‹_› ‹_› ‹_›).symm)
          · refine RL.gT rfl (bF h21) ?_
            refine RL.val rfl (run_fieldAddr Tryz.underlying44 rfl (off := 0) rfl Tryz.sizeOf3 (by decide) e1_12) ?_
            refine RL.gT rfl (bF h21) ?_
            refine RL.val rfl (run_ld Tryz.underlying3 rfl rfl (hH12.cell (i := 0) rfl (v := I _) rfl)) ?_
            refine RL.gT rfl (bF h21) ?_
            refine RL.val rfl (run_eql rfl rfl) ?_
            refine RL.val rfl (run_pickF (bF h21) (v := B _) rfl) ?_
            refine RL.nil ?_
            refine CW.condP rfl (fun h26 => ?_) (fun h26 => ?_)
            · refine CW.seq ?_
              refine CW.region ?_
              refine RL.val rfl (run_fieldAddr Tryz.underlying44 rfl (off := 2) rfl Tryz.sizeOf42 (by decide) e1_12) ?_
              refine RL.val rfl (run_ldBR Tryz.underlying42 rfl rfl rfl (hH12.blk (i := 0) rfl)) ?_
              refine RL.callP rfl hH12 (c_clearanceref03_Points _  _) (run_call1 Tryz.call54 rfl) ?_
              intro w27 hH28
              refine RL.val rfl (run_eql rfl rfl) ?_
              refine RL.val rfl (run_assign (v := B _) rfl) ?_
              refine RL.nil ?_
              refine CW.ret ?_
              refine outP1 Tryz.results27 (congrArg B ?_) hH28.below
              first | exact (fac_no (f := f.fc) (named_no1 (by show ¬ (1 ≤ f.names.length ∧ f.names.length ≤ 64); omega))).symm | exact (fac_no (f := f.fc) (named_no2 (by show ¬ twice f.names < 0; omega))).symm | exact (fac_no (f := f.fc) (named_no3 h0 ‹_› (nt ‹_›))).symm | (have hny : namedF f.names = true := named_yes hn1 hn2 ‹¬ k < _› hg; first | exact (fac_12 (f := f.fc) hny (.inl ‹_›)).symm | exact (fac_12 (f := f.fc) hny (.inr ‹_›)).symm | exact (fac_3y (f := f.fc) hny ‹_› ‹_›).symm | exact (fac_3n (f := f.fc) ‹_› ‹_›).symm | exact (fac_4y (f := f.fc) hny ‹_› ‹_›).symm | exact (fac_4n (f := f.fc) ‹_› ‹_›).symm | exact (fac_x (f := f.fc) ‹_› ‹_› ‹_› ‹_›).symm)
            · refine CW.skip ?_
              refine CW.seq ?_
              refine CW.seq ?_
              refine CW.region ?_
              refine RL.val rfl (run_fieldAddr Tryz.underlying44 rfl (off := 0) rfl Tryz.sizeOf3 (by decide) e1_12) ?_
              refine RL.val rfl (run_ld Tryz.underlying3 rfl rfl (hH12.cell (i := 0) rfl (v := I _) rfl)) ?_
              refine RL.val rfl (run_eql rfl rfl) ?_
              refine RL.nil ?_
              refine CW.condP rfl (fun h31 => ?_) (fun h31 => ?_)
              · refine CW.seq ?_
                refine CW.region ?_
                refine RL.val rfl (run_fieldAddr Tryz.underlying44 rfl (off := 2) rfl Tryz.sizeOf42 (by decide) e1_12) ?_
                refine RL.val rfl (run_fieldAddr Tryz.underlying42 rfl (off := 0) rfl Tryz.sizeOf3 (by decide) rfl) ?_
                refine RL.val rfl (run_ld Tryz.underlying3 rfl rfl (hH12.cell (i := 0) rfl (v := I _) rfl)) ?_
                refine RL.val rfl (run_move e3_12) ?_
                refine RL.val rfl (run_eql rfl rfl) ?_
                refine RL.val rfl (run_move (v := B _) rfl) ?_
                refine RL.splitP (dj := 52) rfl (fun h33 => ?_) (fun h33 => ?_)
                · refine RL.gT rfl (bT h33) ?_
                  refine RL.val rfl (run_fieldAddr Tryz.underlying44 rfl (off := 2) rfl Tryz.sizeOf42 (by decide) e1_12) ?_
                  refine RL.gT rfl (bT h33) ?_
                  refine RL.val rfl (run_ldBR Tryz.underlying42 rfl rfl rfl (hH12.blk (i := 0) rfl)) ?_
                  refine RL.gT rfl (bT h33) ?_
                  refine RL.callP rfl hH12 (c_clearanceref05_Right _  _) (run_call1 Tryz.call55 rfl) ?_
                  intro w34 hH35
                  refine RL.val rfl (run_pickT (bT h33) (v := B _) rfl) ?_
                  refine RL.val rfl (run_assign (v := B _) rfl) ?_
                  refine RL.nil ?_
                  refine CW.ret ?_
                  refine outP1 Tryz.results27 (congrArg B ?_) hH35.below
                  first | exact (fac_no (f := f.fc) (named_no1 (by show ¬ (1 ≤ f.names.length ∧ f.names.length ≤ 64); omega))).symm | exact (fac_no (f := f.fc) (named_no2 (by show ¬ twice f.names < 0; omega))).symm | exact (fac_no (f := f.fc) (named_no3 h0 ‹_› (nt ‹_›))).symm | (have hny : namedF f.names = true := named_yes hn1 hn2 ‹¬ k < _› hg; first | exact (fac_12 (f := f.fc) hny (.inl ‹_›)).symm | exact (fac_12 (f := f.fc) hny (.inr ‹_›)).symm | exact (fac_3y (f := f.fc) hny ‹_› ‹_›).symm | exact (fac_3n (f := f.fc) ‹_› ‹_›).symm | exact (fac_4y (f := f.fc) hny ‹_› ‹_›).symm | exact (fac_4n (f := f.fc) ‹_› ‹_›).symm | exact (fac_x (f := f.fc) ‹_› ‹_› ‹_› ‹_›).symm)
                · refine RL.gF rfl rfl (bF h33) rfl ?_
                  refine RL.gF rfl rfl (bF h33) rfl ?_
                  refine RL.gF rfl rfl (bF h33) rfl ?_
                  refine RL.val rfl (run_pickF (bF h33) (v := B false) rfl) ?_
                  refine RL.val rfl (run_assign (v := B _) rfl) ?_
                  refine RL.nil ?_
                  refine CW.ret ?_
                  refine outP1 Tryz.results27 (congrArg B ?_) hH12.below
                  first | exact (fac_no (f := f.fc) (named_no1 (by show ¬ (1 ≤ f.names.length ∧ f.names.length ≤ 64); omega))).symm | exact (fac_no (f := f.fc) (named_no2 (by show ¬ twice f.names < 0; omega))).symm | exact (fac_no (f := f.fc) (named_no3 h0 ‹_› (nt ‹_›))).symm | (have hny : namedF f.names = true := named_yes hn1 hn2 ‹¬ k < _› hg; first | exact (fac_12 (f := f.fc) hny (.inl ‹_›)).symm | exact (fac_12 (f := f.fc) hny (.inr ‹_›)).symm | exact (fac_3y (f := f.fc) hny ‹_› ‹_›).symm | exact (fac_3n (f := f.fc) ‹_› ‹_›).symm | exact (fac_4y (f := f.fc) hny ‹_› ‹_›).symm | exact (fac_4n (f := f.fc) ‹_› ‹_›).symm | exact (fac_x (f := f.fc) ‹_› ‹_› ‹_› ‹_›).symm)
              · refine CW.skip ?_
                refine CW.seq ?_
                refine CW.region ?_
                refine RL.val rfl (run_fieldAddr Tryz.underlying44 rfl (off := 0) rfl Tryz.sizeOf3 (by decide) e1_12) ?_
                refine RL.val rfl (run_ld Tryz.underlying3 rfl rfl (hH12.cell (i := 0) rfl (v := I _) rfl)) ?_
                refine RL.val rfl (run_eql rfl rfl) ?_
                refine RL.val rfl (run_move (v := B _) rfl) ?_
                refine RL.splitP (dj := 60) rfl (fun h38 => ?_) (fun h38 => ?_)
                · refine RL.gT rfl (bT h38) ?_
                  refine RL.val rfl (run_fieldAddr Tryz.underlying44 rfl (off := 2) rfl Tryz.sizeOf42 (by decide) e1_12) ?_
                  refine RL.gT rfl (bT h38) ?_
                  refine RL.val rfl (run_fieldAddr Tryz.underlying42 rfl (off := 0) rfl Tryz.sizeOf3 (by decide) rfl) ?_
                  refine RL.gT rfl (bT h38) ?_
                  refine RL.val rfl (run_ld Tryz.underlying3 rfl rfl (hH12.cell (i := 0) rfl (v := I _) rfl)) ?_
                  refine RL.gT rfl (bT h38) ?_
                  refine RL.val rfl (run_move e3_12) ?_
                  refine RL.gT rfl (bT h38) ?_
                  refine RL.val rfl (run_eql rfl rfl) ?_
                  refine RL.val rfl (run_pickT (bT h38) (v := B _) rfl) ?_
                  refine RL.val rfl (run_move (v := B _) rfl) ?_
                  refine RL.splitP (dj := 67) rfl (fun h40 => ?_) (fun h40 => ?_)
                  · refine RL.gT rfl (bT h40) ?_
                    refine RL.val rfl (run_fieldAddr Tryz.underlying44 rfl (off := 2) rfl Tryz.sizeOf42 (by decide) e1_12) ?_
                    refine RL.gT rfl (bT h40) ?_
                    refine RL.val rfl (run_ldBR Tryz.underlying42 rfl rfl rfl (hH12.blk (i := 0) rfl)) ?_
                    refine RL.gT rfl (bT h40) ?_
                    refine RL.callP rfl hH12 (c_clearanceref06_Lattice _  _) (run_call1 Tryz.call56 rfl) ?_
                    intro w41 hH42
                    refine RL.val rfl (run_pickT (bT h40) (v := B _) rfl) ?_
                    refine RL.val rfl (run_assign (v := B _) rfl) ?_
                    refine RL.nil ?_
                    refine CW.ret ?_
                    refine outP1 Tryz.results27 (congrArg B ?_) hH42.below
                    first | exact (fac_no (f := f.fc) (named_no1 (by show ¬ (1 ≤ f.names.length ∧ f.names.length ≤ 64); omega))).symm | exact (fac_no (f := f.fc) (named_no2 (by show ¬ twice f.names < 0; omega))).symm | exact (fac_no (f := f.fc) (named_no3 h0 ‹_› (nt ‹_›))).symm | (have hny : namedF f.names = true := named_yes hn1 hn2 ‹¬ k < _› hg; first | exact (fac_12 (f := f.fc) hny (.inl ‹_›)).symm | exact (fac_12 (f := f.fc) hny (.inr ‹_›)).symm | exact (fac_3y (f := f.fc) hny ‹_› ‹_›).symm | exact (fac_3n (f := f.fc) ‹_› ‹_›).symm | exact (fac_4y (f := f.fc) hny ‹_› ‹_›).symm | exact (fac_4n (f := f.fc) ‹_› ‹_›).symm | exact (fac_x (f := f.fc) ‹_› ‹_› ‹_› ‹_›).symm)
                  · refine RL.gF rfl rfl (bF h40) rfl ?_
                    refine RL.gF rfl rfl (bF h40) rfl ?_
                    refine RL.gF rfl rfl (bF h40) rfl ?_
                    refine RL.val rfl (run_pickF (bF h40) (v := B false) rfl) ?_
                    refine RL.val rfl (run_assign (v := B _) rfl) ?_
                    refine RL.nil ?_
                    refine CW.ret ?_
                    refine outP1 Tryz.results27 (congrArg B ?_) hH12.below
                    first | exact (fac_no (f := f.fc) (named_no1 (by show ¬ (1 ≤ f.names.length ∧ f.names.length ≤ 64); omega))).symm | exact (fac_no (f := f.fc) (named_no2 (by show ¬ twice f.names < 0; omega))).symm | exact (fac_no (f := f.fc) (named_no3 h0 ‹_› (nt ‹_›))).symm | (have hny : namedF f.names = true := named_yes hn1 hn2 ‹¬ k < _› hg; first | exact (fac_12 (f := f.fc) hny (.inl ‹_›)).symm | exact (fac_12 (f := f.fc) hny (.inr ‹_›)).symm | exact (fac_3y (f := f.fc) hny ‹_› ‹_›).symm | exact (fac_3n (f := f.fc) ‹_› ‹_›).symm | exact (fac_4y (f := f.fc) hny ‹_› ‹_›).symm | exact (fac_4n (f := f.fc) ‹_› ‹_›).symm | exact (fac_x (f := f.fc) ‹_› ‹_› ‹_› ‹_›).symm)
                · refine RL.gF rfl rfl (bF h38) rfl ?_
                  refine RL.gF rfl rfl (bF h38) rfl ?_
                  refine RL.gF rfl rfl (bF h38) rfl ?_
                  refine RL.gF rfl rfl (bF h38) rfl ?_
                  refine RL.gF rfl rfl (bF h38) rfl ?_
                  refine RL.val rfl (run_pickF (bF h38) (v := B false) rfl) ?_
                  refine RL.val rfl (run_move (v := B _) rfl) ?_
                  refine RL.gF rfl rfl rfl rfl ?_
                  refine RL.gF rfl rfl rfl rfl ?_
                  refine RL.gF rfl rfl rfl rfl ?_
                  refine RL.val rfl (run_pickF rfl (v := B false) rfl) ?_
                  refine RL.val rfl (run_assign (v := B _) rfl) ?_
                  refine RL.nil ?_
                  refine CW.ret ?_
                  refine outP1 Tryz.results27 (congrArg B ?_) hH12.below
                  first | exact (fac_no (f := f.fc) (named_no1 (by show ¬ (1 ≤ f.names.length ∧ f.names.length ≤ 64); omega))).symm | exact (fac_no (f := f.fc) (named_no2 (by show ¬ twice f.names < 0; omega))).symm | exact (fac_no (f := f.fc) (named_no3 h0 ‹_› (nt ‹_›))).symm | (have hny : namedF f.names = true := named_yes hn1 hn2 ‹¬ k < _› hg; first | exact (fac_12 (f := f.fc) hny (.inl ‹_›)).symm | exact (fac_12 (f := f.fc) hny (.inr ‹_›)).symm | exact (fac_3y (f := f.fc) hny ‹_› ‹_›).symm | exact (fac_3n (f := f.fc) ‹_› ‹_›).symm | exact (fac_4y (f := f.fc) hny ‹_› ‹_›).symm | exact (fac_4n (f := f.fc) ‹_› ‹_›).symm | exact (fac_x (f := f.fc) ‹_› ‹_› ‹_› ‹_›).symm)

theorem c_clearanceref07_Right (s : Shp) (w : World) (hs : ShpV (Kw w) s) : Calls Tryz.prog 8 #[.agg (shpC s)] w (Pure (B (shR s.sh)) w) := by
  have hsl := sh_len s
  have hm := hs.facs.sl.small
  unfold maxLen at hm
  refine enter Tryz.func8 rfl Tryz.ntmps8 rfl ?_
  have hH := Hp.start w
  refine CW.seq ?_
  refine CW.region ?_
  refine RL.new rfl hH (f := fun b => (.pointer (some ⟨b, 0, none⟩))) (run_box (v := .agg _) rfl) ?_
  intro b3 w1 hH2
  refine RL.val rfl (run_assign (v := B false) rfl) ?_
  refine RL.nil ?_
  refine CW.seq ?_
  refine CW.seq ?_
  refine CW.region ?_
  refine RL.val rfl (run_fieldAddr Tryz.underlying24 rfl (off := 1) rfl Tryz.sizeOf22 (by decide) rfl) ?_
  refine RL.val rfl (run_ld Tryz.underlying22 rfl rfl (hH2.cell (i := 0) rfl rfl)) ?_
  refine RL.val rfl (run_lenSl (hs.facs.sl.hp hH2) rfl Tryz.underlying22 rfl) ?_
  refine RL.val rfl (run_lss rfl rfl) ?_
  refine RL.val rfl (run_move (v := B _) rfl) ?_
  refine RL.splitP (dj := 8) rfl (fun h5 => ?_) (fun h5 => ?_)
  · refine RL.gF rfl rfl (bT h5) rfl ?_
    refine RL.gF rfl rfl (bT h5) rfl ?_
    refine RL.gF rfl rfl (bT h5) rfl ?_
    refine RL.gF rfl rfl (bT h5) rfl ?_
    refine RL.val rfl (run_pickT (bT h5) (v := B true) rfl) ?_
    refine RL.val rfl (run_move (v := B _) rfl) ?_
    refine RL.gF rfl rfl rfl rfl ?_
    refine RL.gF rfl rfl rfl rfl ?_
    refine RL.gF rfl rfl rfl rfl ?_
    refine RL.gF rfl rfl rfl rfl ?_
    refine RL.gU rfl rfl rfl ?_
    refine RL.gU rfl rfl rfl ?_
    refine RL.gU rfl rfl rfl ?_
    refine RL.gU rfl rfl rfl ?_
    refine RL.gF rfl rfl rfl rfl ?_
    refine RL.val rfl (run_pickT rfl (v := B true) rfl) ?_
    refine RL.nil ?_
    refine CW.condT rfl ?_
    refine CW.seq ?_
    refine CW.region ?_
    refine RL.val rfl (run_assign (v := B false) rfl) ?_
    refine RL.nil ?_
    refine CW.ret ?_
    refine outP1 Tryz.results8 (congrArg B ?_) hH2.below
    first | exact (shR_no3 (k := k) h0 (by omega) (by rw [sh_get]; exact nt ‹_›)).symm | exact (shR_yes (k := k) (by omega) hc2 (by omega) fun j a b => by rw [sh_get]; exact hg j a b).symm | exact (shR_no1 (by omega)).symm | exact (shR_no2 (by first | exact nt ‹_› | assumption) (by omega)).symm
  · refine RL.gT rfl (bF h5) ?_
    refine RL.val rfl (run_fieldAddr Tryz.underlying24 rfl (off := 1) rfl Tryz.sizeOf22 (by decide) rfl) ?_
    refine RL.gT rfl (bF h5) ?_
    refine RL.val rfl (run_ld Tryz.underlying22 rfl rfl (hH2.cell (i := 0) rfl rfl)) ?_
    refine RL.gT rfl (bF h5) ?_
    refine RL.val rfl (run_lenSl (hs.facs.sl.hp hH2) rfl Tryz.underlying22 rfl) ?_
    refine RL.gT rfl (bF h5) ?_
    refine RL.val rfl (run_gtr rfl rfl) ?_
    refine RL.val rfl (run_pickF (bF h5) (v := B _) rfl) ?_
    refine RL.val rfl (run_move (v := B _) rfl) ?_
    refine RL.splitP (dj := 14) rfl (fun h7 => ?_) (fun h7 => ?_)
    · refine RL.gF rfl rfl (bT h7) rfl ?_
      refine RL.gF rfl rfl (bT h7) rfl ?_
      refine RL.gF rfl rfl (bT h7) rfl ?_
      refine RL.gF rfl rfl (bT h7) rfl ?_
      refine RL.gU rfl rfl rfl ?_
      refine RL.gU rfl rfl rfl ?_
      refine RL.gU rfl rfl rfl ?_
      refine RL.gU rfl rfl rfl ?_
      refine RL.gF rfl rfl (bT h7) rfl ?_
      refine RL.val rfl (run_pickT (bT h7) (v := B true) rfl) ?_
      refine RL.nil ?_
      refine CW.condT rfl ?_
      refine CW.seq ?_
      refine CW.region ?_
      refine RL.val rfl (run_assign (v := B false) rfl) ?_
      refine RL.nil ?_
      refine CW.ret ?_
      refine outP1 Tryz.results8 (congrArg B ?_) hH2.below
      first | exact (shR_no3 (k := k) h0 (by omega) (by rw [sh_get]; exact nt ‹_›)).symm | exact (shR_yes (k := k) (by omega) hc2 (by omega) fun j a b => by rw [sh_get]; exact hg j a b).symm | exact (shR_no1 (by omega)).symm | exact (shR_no2 (by first | exact nt ‹_› | assumption) (by omega)).symm
    · refine RL.gT rfl (bF h7) ?_
      refine RL.val rfl (run_fieldAddr Tryz.underlying24 rfl (off := 0) rfl Tryz.sizeOf4 (by decide) rfl) ?_
      refine RL.gT rfl (bF h7) ?_
      refine RL.val rfl (run_ld Tryz.underlying4 rfl rfl (hH2.cell (i := 0) rfl (v := B _) rfl)) ?_
      refine RL.gT rfl (bF h7) ?_
      refine RL.val rfl (run_not rfl) ?_
      refine RL.gT rfl (bF h7) ?_
      refine RL.val rfl (run_move (v := B _) rfl) ?_
      refine RL.split (dj := 18) rfl (fun h10 => ?_) (fun h10 => ?_)
      · refine RL.gT rfl (bR (c := true) h10) ?_
        refine RL.val rfl (run_fieldAddr Tryz.underlying24 rfl (off := 1) rfl Tryz.sizeOf22 (by decide) rfl) ?_
        refine RL.gT rfl (bR (c := true) h10) ?_
        refine RL.val rfl (run_ld Tryz.underlying22 rfl rfl (hH2.cell (i := 0) rfl rfl)) ?_
        refine RL.gT rfl (bR (c := true) h10) ?_
        refine RL.val rfl (run_lenSl (hs.facs.sl.hp hH2) rfl Tryz.underlying22 rfl) ?_
        refine RL.gT rfl (bR (c := true) h10) ?_
        refine RL.val rfl (run_neq rfl rfl) ?_
        refine RL.gT rfl (bF h7) ?_
        refine RL.val rfl (run_pickT (bR (c := true) h10) (v := B _) rfl) ?_
        refine RL.val rfl (run_pickF (bF h7) (v := B _) rfl) ?_
        refine RL.nil ?_
        refine CW.condP rfl (fun h12 => ?_) (fun h12 => ?_)
        · refine CW.seq ?_
          refine CW.region ?_
          refine RL.val rfl (run_assign (v := B false) rfl) ?_
          refine RL.nil ?_
          refine CW.ret ?_
          refine outP1 Tryz.results8 (congrArg B ?_) hH2.below
          first | exact (shR_no3 (k := k) h0 (by omega) (by rw [sh_get]; exact nt ‹_›)).symm | exact (shR_yes (k := k) (by omega) hc2 (by omega) fun j a b => by rw [sh_get]; exact hg j a b).symm | exact (shR_no1 (by omega)).symm | exact (shR_no2 (by first | exact nt ‹_› | assumption) (by omega)).symm
        · refine CW.skip ?_
          refine CW.seq ?_
          refine CW.seq ?_
          refine CW.region ?_
          refine RL.val rfl (run_assign (v := I 0) rfl) ?_
          refine RL.nil ?_
          refine CW.block ?_
          have hc2 : s.sh.tuple = true ∨ s.sh.facs.length = 1 := by first | exact .inl (nf ‹(!s.tuple) = false›) | exact .inl ‹s.tuple = true› | exact .inr (by omega)
          have hc1 : 1 ≤ s.facs.length ∧ s.facs.length ≤ 8 := by omega
          refine CW.loop (G := (Int)) (fun (k : Int) s' w' => (Fr [2, 3, 25, 26, 27, 28, 29, 30, 31, 32, 33, 34, 35, 36, 37, 38] _ s') ∧ (Hp w w' _) ∧ (s' 3 = I k) ∧ (0 ≤ k) ∧ (k ≤ s.facs.length) ∧ (∀ j : Int, 0 ≤ j → j < k → factorR (s.facs.getD j.toNat fac0).fc = true)) (fun (k : Int) => (s.facs.length - k).toNat) (0) ⟨Fr.refl _ _, hH2, rfl, (by omega), (by omega), fun j a b => absurd b (by omega)⟩ ?_
          rintro k sg13 w13 ⟨fr13, hH13, e3_13, h0, hk, hg⟩
          have e1_13 : sg13 1 = .pointer (some ⟨_, _, none⟩) := (fr13 1 rfl).trans rfl
          refine CW.seq ?_
          refine CW.seq ?_
          refine CW.region ?_
          refine RL.val rfl (run_move e3_13) ?_
          refine RL.val rfl (run_fieldAddr Tryz.underlying24 rfl (off := 1) rfl Tryz.sizeOf22 (by decide) e1_13) ?_
          refine RL.val rfl (run_ld Tryz.underlying22 rfl rfl (hH13.cell (i := 0) rfl rfl)) ?_
          refine RL.val rfl (run_lenSl (hs.facs.sl.hp hH13) rfl Tryz.underlying22 rfl) ?_
          refine RL.val rfl (run_lss rfl rfl) ?_
          refine RL.nil ?_
          refine CW.condP rfl (fun h15 => ?_) (fun h15 => ?_)
          · refine CW.skip ?_
            refine CW.seq ?_
            refine CW.block ?_
            refine CW.seq ?_
            refine CW.region ?_
            refine RL.val rfl (run_fieldAddr Tryz.underlying24 rfl (off := 1) rfl Tryz.sizeOf22 (by decide) e1_13) ?_
            refine RL.val rfl (run_ld Tryz.underlying22 rfl rfl (hH13.cell (i := 0) rfl rfl)) ?_
            refine RL.val rfl (run_move e3_13) ?_
            refine RL.val rfl (run_indexAddrS (hs.facs.sl.hp hH13) Tryz.underlying22 Tryz.sizeOf44 rfl rfl (by omega)) ?_
            refine RL.val rfl (run_ldE (dv := fac0) facL_len (hs.facs.sl.hp hH13) Tryz.underlying44 rfl rfl rfl (by omega)) ?_
            refine RL.callP rfl hH13 (c_clearanceref07_factor _  _ ((hs.at (by omega) (by omega)).mono hH13.kw)) (run_call1 Tryz.call27 rfl) ?_
            intro w16 hH17
            refine RL.val rfl (run_not rfl) ?_
            refine RL.nil ?_
            refine CW.cond rfl (fun h20 => ?_) (fun h20 => ?_)
            · refine CW.seq ?_
              refine CW.region ?_
              refine RL.val rfl (run_assign (v := B false) rfl) ?_
              refine RL.nil ?_
              refine CW.ret ?_
              refine outP1 Tryz.results8 (congrArg B ?_) hH17.below
              first | exact (shR_no3 (k := k) h0 (by omega) (by rw [sh_get]; exact nt ‹_›)).symm | exact (shR_yes (k := k) (by omega) hc2 (by omega) fun j a b => by rw [sh_get]; exact hg j a b).symm | exact (shR_no1 (by omega)).symm | exact (shR_no2 (by first | exact nt ‹_› | assumption) (by omega)).symm
            · refine CW.skip ?_
              refine CW.region ?_
              refine RL.val rfl (run_move e3_13) ?_
              refine RL.val rfl (run_add rfl rfl (by omega)) ?_
              refine RL.val rfl (run_assign (v := I _) rfl) ?_
              refine RL.nil ?_
              refine ⟨k + 1, ?_, ((((((((((((((fr13.u rfl).u rfl).u rfl).u rfl).u rfl).u rfl).u rfl).u rfl).u rfl).u rfl).u rfl).u rfl).u rfl).u rfl).u rfl, hH17, (congrArg I (by first | rfl | omega)), ?_, ?_, ?_⟩
              · ((try dsimp only); omega)
              · omega
              · omega
              · exact fun j a b => if e : j = k then e ▸ nf ‹_› else hg j a (by omega)
          · refine CW.exit (id := 0) rfl ?_
            refine CW.seq ?_
            refine CW.region ?_
            refine RL.val rfl (run_assign (v := B true) rfl) ?_
            refine RL.nil ?_
            refine CW.ret ?_
            refine outP1 Tryz.results8 (congrArg B ?_) hH13.below
            first | exact (shR_no3 (k := k) h0 (by omega) (by rw [sh_get]; exact nt ‹_›)).symm | exact (shR_yes (k := k) (by omega) hc2 (by omega) fun j a b => by rw [sh_get]; exact hg j a b).symm | exact (shR_no1 (by omega)).symm | exact (shR_no2 (by first | exact nt ‹_› | assumption) (by omega)).symm
      · refine RL.gF rfl rfl (bR (c := false) h10) rfl ?_
        refine RL.gF rfl rfl (bR (c := false) h10) rfl ?_
        refine RL.gF rfl rfl (bR (c := false) h10) rfl ?_
        refine RL.gF rfl rfl (bR (c := false) h10) rfl ?_
        refine RL.gT rfl (bF h7) ?_
        refine RL.val rfl (run_pickF (bR (c := false) h10) (v := B false) rfl) ?_
        refine RL.val rfl (run_pickF (bF h7) (v := B _) rfl) ?_
        refine RL.nil ?_
        refine CW.condF rfl ?_
        refine CW.skip ?_
        refine CW.seq ?_
        refine CW.seq ?_
        refine CW.region ?_
        refine RL.val rfl (run_assign (v := I 0) rfl) ?_
        refine RL.nil ?_
        refine CW.block ?_
        have hc2 : s.sh.tuple = true ∨ s.sh.facs.length = 1 := by first | exact .inl (nf ‹(!s.tuple) = false›) | exact .inl ‹s.tuple = true› | exact .inr (by omega)
        have hc1 : 1 ≤ s.facs.length ∧ s.facs.length ≤ 8 := by omega
        refine CW.loop (G := (Int)) (fun (k : Int) s' w' => (Fr [2, 3, 25, 26, 27, 28, 29, 30, 31, 32, 33, 34, 35, 36, 37, 38] _ s') ∧ (Hp w w' _) ∧ (s' 3 = I k) ∧ (0 ≤ k) ∧ (k ≤ s.facs.length) ∧ (∀ j : Int, 0 ≤ j → j < k → factorR (s.facs.getD j.toNat fac0).fc = true)) (fun (k : Int) => (s.facs.length - k).toNat) (0) ⟨Fr.refl _ _, hH2, rfl, (by omega), (by omega), fun j a b => absurd b (by omega)⟩ ?_
        rintro k sg21 w21 ⟨fr21, hH21, e3_21, h0, hk, hg⟩
        have e1_21 : sg21 1 = .pointer (some ⟨_, _, none⟩) := (fr21 1 rfl).trans rfl
        refine CW.seq ?_
        refine CW.seq ?_
        refine CW.region ?_
        refine RL.val rfl (run_move e3_21) ?_
        refine RL.val rfl (run_fieldAddr Tryz.underlying24 rfl (off := 1) rfl Tryz.sizeOf22 (by decide) e1_21) ?_
        refine RL.val rfl (run_ld Tryz.underlying22 rfl rfl (hH21.cell (i := 0) rfl rfl)) ?_
        refine RL.val rfl (run_lenSl (hs.facs.sl.hp hH21) rfl Tryz.underlying22 rfl) ?_
        refine RL.val rfl (run_lss rfl rfl) ?_
        refine RL.nil ?_
        refine CW.condP rfl (fun h23 => ?_) (fun h23 => ?_)
        · refine CW.skip ?_
          refine CW.seq ?_
          refine CW.block ?_
          refine CW.seq ?_
          refine CW.region ?_
          refine RL.val rfl (run_fieldAddr Tryz.underlying24 rfl (off := 1) rfl Tryz.sizeOf22 (by decide) e1_21) ?_
          refine RL.val rfl (run_ld Tryz.underlying22 rfl rfl (hH21.cell (i := 0) rfl rfl)) ?_
          refine RL.val rfl (run_move e3_21) ?_
          refine RL.val rfl (run_indexAddrS (hs.facs.sl.hp hH21) Tryz.underlying22 Tryz.sizeOf44 rfl rfl (by omega)) ?_
          refine RL.val rfl (run_ldE (dv := fac0) facL_len (hs.facs.sl.hp hH21) Tryz.underlying44 rfl rfl rfl (by omega)) ?_
          refine RL.callP rfl hH21 (c_clearanceref07_factor _  _ ((hs.at (by omega) (by omega)).mono hH21.kw)) (run_call1 Tryz.call27 rfl) ?_
          intro w24 hH25
          refine RL.val rfl (run_not rfl) ?_
          refine RL.nil ?_
          refine CW.cond rfl (fun h28 => ?_) (fun h28 => ?_)
          · refine CW.seq ?_
            refine CW.region ?_
            refine RL.val rfl (run_assign (v := B false) rfl) ?_
            refine RL.nil ?_
            refine CW.ret ?_
            refine outP1 Tryz.results8 (congrArg B ?_) hH25.below
            first | exact (shR_no3 (k := k) h0 (by omega) (by rw [sh_get]; exact nt ‹_›)).symm | exact (shR_yes (k := k) (by omega) hc2 (by omega) fun j a b => by rw [sh_get]; exact hg j a b).symm | exact (shR_no1 (by omega)).symm | exact (shR_no2 (by first | exact nt ‹_› | assumption) (by omega)).symm
          · refine CW.skip ?_
            refine CW.region ?_
            refine RL.val rfl (run_move e3_21) ?_
            refine RL.val rfl (run_add rfl rfl (by omega)) ?_
            refine RL.val rfl (run_assign (v := I _) rfl) ?_
            refine RL.nil ?_
            refine ⟨k + 1, ?_, ((((((((((((((fr21.u rfl).u rfl).u rfl).u rfl).u rfl).u rfl).u rfl).u rfl).u rfl).u rfl).u rfl).u rfl).u rfl).u rfl).u rfl, hH25, (congrArg I (by first | rfl | omega)), ?_, ?_, ?_⟩
            · ((try dsimp only); omega)
            · omega
            · omega
            · exact fun j a b => if e : j = k then e ▸ nf ‹_› else hg j a (by omega)
        · refine CW.exit (id := 0) rfl ?_
          refine CW.seq ?_
          refine CW.region ?_
          refine RL.val rfl (run_assign (v := B true) rfl) ?_
          refine RL.nil ?_
          refine CW.ret ?_
          refine outP1 Tryz.results8 (congrArg B ?_) hH21.below
          first | exact (shR_no3 (k := k) h0 (by omega) (by rw [sh_get]; exact nt ‹_›)).symm | exact (shR_yes (k := k) (by omega) hc2 (by omega) fun j a b => by rw [sh_get]; exact hg j a b).symm | exact (shR_no1 (by omega)).symm | exact (shR_no2 (by first | exact nt ‹_› | assumption) (by omega)).symm

theorem c_clearanceref07_word (f : Fac) (s : BitVec 64) (hfr : factorR f.fc = true) (w : World) (hf : FacV (Kw w) f) : Calls Tryz.prog 42 #[.agg (facC f), U s] w (Pure (B (wordF f.fc s)) w) := by
  have hm := hf.names.sl.small
  unfold maxLen at hm
  refine enter Tryz.func42 rfl Tryz.ntmps42 rfl ?_
  have hH := Hp.start w
  refine CW.seq ?_
  refine CW.region ?_
  refine RL.new rfl hH (f := fun b => (.pointer (some ⟨b, 0, none⟩))) (run_box (v := .agg _) rfl) ?_
  intro b3 w1 hH2
  refine RL.val rfl (run_assign (v := B false) rfl) ?_
  refine RL.nil ?_
  refine CW.seq ?_
  refine CW.seq ?_
  refine CW.region ?_
  refine RL.val rfl (run_fieldAddr Tryz.underlying44 rfl (off := 0) rfl Tryz.sizeOf3 (by decide) rfl) ?_
  refine RL.val rfl (run_ld Tryz.underlying3 rfl rfl (hH2.cell (i := 0) rfl (v := I _) rfl)) ?_
  refine RL.val rfl (run_eql rfl rfl) ?_
  refine RL.nil ?_
  refine CW.condP rfl (fun h5 => ?_) (fun h5 => ?_)
  · refine CW.seq ?_
    refine CW.region ?_
    refine RL.val rfl (run_fieldAddr Tryz.underlying44 rfl (off := 1) rfl Tryz.sizeOf39 (by decide) rfl) ?_
    refine RL.val rfl (run_ld Tryz.underlying39 rfl rfl (hH2.cell (i := 0) rfl rfl)) ?_
    refine RL.val rfl (run_lenSl (hf.names.sl.hp hH2) rfl Tryz.underlying39 rfl) ?_
    refine RL.val rfl (run_move (v := U _) rfl) ?_
    refine RL.callP rfl hH2 (c_clearanceref04_Level _ _  _) (run_call2 Tryz.call74 rfl rfl) ?_
    intro w6 hH7
    refine RL.val rfl (run_move (by conv => lhs; whnf)) ?_
    refine RL.val rfl (run_extract rfl (v := I _) rfl) ?_
    refine RL.val rfl (run_extract rfl (v := B _) rfl) ?_
    refine RL.val rfl (run_assign (v := I _) rfl) ?_
    refine RL.val rfl (run_assign (v := B _) rfl) ?_
    refine RL.nil ?_
    refine CW.seq ?_
    refine CW.region ?_
    refine RL.val rfl (run_move (v := B _) rfl) ?_
    refine RL.val rfl (run_assign (v := B _) rfl) ?_
    refine RL.nil ?_
    refine CW.ret ?_
    refine outP1 Tryz.results42 (congrArg B ?_) hH7.below
    first | exact (word1 (f := f.fc) ‹_› s).symm | exact (word2 (f := f.fc) ‹_› s).symm | exact (word3r (f := f.fc) hfr ‹_› s).symm | exact (wordx (f := f.fc) ‹_› ‹_› ‹_› s).symm
  · refine CW.skip ?_
    refine CW.seq ?_
    refine CW.seq ?_
    refine CW.region ?_
    refine RL.val rfl (run_fieldAddr Tryz.underlying44 rfl (off := 0) rfl Tryz.sizeOf3 (by decide) rfl) ?_
    refine RL.val rfl (run_ld Tryz.underlying3 rfl rfl (hH2.cell (i := 0) rfl (v := I _) rfl)) ?_
    refine RL.val rfl (run_eql rfl rfl) ?_
    refine RL.nil ?_
    refine CW.condP rfl (fun h10 => ?_) (fun h10 => ?_)
    · refine CW.seq ?_
      refine CW.region ?_
      refine RL.val rfl (run_move (v := U _) rfl) ?_
      refine RL.val rfl (run_fieldAddr Tryz.underlying44 rfl (off := 1) rfl Tryz.sizeOf39 (by decide) rfl) ?_
      refine RL.val rfl (run_ld Tryz.underlying39 rfl rfl (hH2.cell (i := 0) rfl rfl)) ?_
      refine RL.val rfl (run_lenSl (hf.names.sl.hp hH2) rfl Tryz.underlying39 rfl) ?_
      refine RL.callP rfl hH2 (c_clearanceref01_Below _  _) (run_call1 Tryz.call36 rfl) ?_
      intro w11 hH12
      refine RL.callP rfl hH12 (c_clearanceref01_Sub _ _  _) (run_call2 Tryz.call44 rfl rfl) ?_
      intro w13 hH14
      refine RL.val rfl (run_assign (v := B _) rfl) ?_
      refine RL.nil ?_
      refine CW.ret ?_
      refine outP1 Tryz.results42 (congrArg B ?_) hH14.below
      first | exact (word1 (f := f.fc) ‹_› s).symm | exact (word2 (f := f.fc) ‹_› s).symm | exact (word3r (f := f.fc) hfr ‹_› s).symm | exact (wordx (f := f.fc) ‹_› ‹_› ‹_› s).symm
    · refine CW.skip ?_
      refine CW.seq ?_
      refine CW.seq ?_
      refine CW.region ?_
      refine RL.val rfl (run_fieldAddr Tryz.underlying44 rfl (off := 0) rfl Tryz.sizeOf3 (by decide) rfl) ?_
      refine RL.val rfl (run_ld Tryz.underlying3 rfl rfl (hH2.cell (i := 0) rfl (v := I _) rfl)) ?_
      refine RL.val rfl (run_eql rfl rfl) ?_
      refine RL.nil ?_
      refine CW.condP rfl (fun h17 => ?_) (fun h17 => ?_)
      · refine CW.seq ?_
        refine CW.region ?_
        refine RL.val rfl (run_fieldAddr Tryz.underlying44 rfl (off := 2) rfl Tryz.sizeOf42 (by decide) rfl) ?_
        refine RL.val rfl (run_ldBR Tryz.underlying42 rfl rfl rfl (hH2.blk (i := 0) rfl)) ?_
        refine RL.val rfl (run_move (v := U _) rfl) ?_
        refine RL.callP rfl hH2 (c_clearanceref05_Close _ _  _) (run_call2 Tryz.call75 rfl rfl) ?_
        intro w18 hH19
        refine RL.val rfl (run_move (v := U _) rfl) ?_
        refine RL.val rfl (run_eqlU rfl rfl) ?_
        refine RL.val rfl (run_assign (v := B _) rfl) ?_
        refine RL.nil ?_
        refine CW.ret ?_
        refine outP1 Tryz.results42 (congrArg B ?_) hH19.below
        first | exact (word1 (f := f.fc) ‹_› s).symm | exact (word2 (f := f.fc) ‹_› s).symm | exact (word3r (f := f.fc) hfr ‹_› s).symm | exact (wordx (f := f.fc) ‹_› ‹_› ‹_› s).symm
      · refine CW.skip ?_
        refine CW.seq ?_
        refine CW.region ?_
        refine RL.val rfl (run_fieldAddr Tryz.underlying44 rfl (off := 2) rfl Tryz.sizeOf42 (by decide) rfl) ?_
        refine RL.val rfl (run_ldBR Tryz.underlying42 rfl rfl rfl (hH2.blk (i := 0) rfl)) ?_
        refine RL.val rfl (run_move (v := U _) rfl) ?_
        refine RL.callP rfl hH2 (c_clearanceref06_Point _ _  _) (run_call2 Tryz.call76 rfl rfl) ?_
        intro w21 hH22
        refine RL.val rfl (run_move (by conv => lhs; whnf)) ?_
        refine RL.val rfl (run_extract rfl (v := I _) rfl) ?_
        refine RL.val rfl (run_extract rfl (v := B _) rfl) ?_
        refine RL.val rfl (run_assign (v := I _) rfl) ?_
        refine RL.val rfl (run_assign (v := B _) rfl) ?_
        refine RL.nil ?_
        refine CW.seq ?_
        refine CW.region ?_
        refine RL.val rfl (run_move (v := B _) rfl) ?_
        refine RL.val rfl (run_assign (v := B _) rfl) ?_
        refine RL.nil ?_
        refine CW.ret ?_
        refine outP1 Tryz.results42 (congrArg B ?_) hH22.below
        first | exact (word1 (f := f.fc) ‹_› s).symm | exact (word2 (f := f.fc) ‹_› s).symm | exact (word3r (f := f.fc) hfr ‹_› s).symm | exact (wordx (f := f.fc) ‹_› ‹_› ‹_› s).symm

theorem c_clearanceref07_Fits (s : Shp) (e : El) (w : World) (hs : ShpV (Kw w) s) : Calls Tryz.prog 17 #[.agg (shpC s), .agg (elC e)] w (Pure (B (fitsS s.sh e)) w) := by
  have hsl := sh_len s
  have hm := hs.facs.sl.small
  unfold maxLen at hm
  refine enter Tryz.func17 rfl Tryz.ntmps17 rfl ?_
  have hH := Hp.start w
  refine CW.seq ?_
  refine CW.region ?_
  refine RL.new rfl hH (f := fun b => (.pointer (some ⟨b, 0, none⟩))) (run_box (v := .agg _) rfl) ?_
  intro b3 w1 hH2
  refine RL.new rfl hH2 (f := fun b => (.pointer (some ⟨b, 0, none⟩))) (run_box (v := .agg _) rfl) ?_
  intro b6 w4 hH5
  refine RL.val rfl (run_assign (v := B false) rfl) ?_
  refine RL.nil ?_
  refine CW.seq ?_
  refine CW.seq ?_
  refine CW.region ?_
  refine RL.val rfl (run_ldA (cs := [B _, _]) Tryz.underlying24 rfl rfl rfl (rangeAt_cells (hH5.blk (i := 1) rfl))) ?_
  refine RL.callP rfl hH5 (c_clearanceref07_Right _  _ (hs.mono hH5.kw)) (run_call1 Tryz.call8 rfl) ?_
  intro w7 hH8
  refine RL.val rfl (run_not rfl) ?_
  refine RL.nil ?_
  refine CW.cond rfl (fun h11 => ?_) (fun h11 => ?_)
  · refine CW.seq ?_
    refine CW.region ?_
    refine RL.val rfl (run_assign (v := B false) rfl) ?_
    refine RL.nil ?_
    refine CW.ret ?_
    refine outP1 Tryz.results17 (congrArg B ?_) hH8.below
    first | exact (fits_no1 (nt ‹_›)).symm | exact (fits_no3 h0 ‹_› (by omega) ‹_›).symm | exact (fits_no2 h0 ‹_› (by omega) (by rw [sh_get]; exact nt ‹_›)).symm | exact (fits_yes hr ‹_› hf).symm
  · refine CW.skip ?_
    refine CW.seq ?_
    refine CW.seq ?_
    refine CW.region ?_
    refine RL.val rfl (run_assign (v := I 0) rfl) ?_
    refine RL.nil ?_
    refine CW.block ?_
    have hr : shR s.sh = true := nf ‹_›
    refine CW.loop (G := (Int)) (fun (k : Int) s' w' => (Fr [4, 5, 9, 10, 11, 12, 13, 14, 15, 16, 17, 18, 19, 20, 21, 22, 23, 24, 25, 26, 27, 28, 29, 30, 31, 32, 33, 34, 35, 36, 37, 38, 39, 40, 41, 42] _ s') ∧ (Hp w w' _) ∧ (s' 5 = I k) ∧ (0 ≤ k) ∧ (k ≤ 8) ∧ (FitTo s.sh e k)) (fun (k : Int) => (8 - k).toNat) (0) ⟨Fr.refl _ _, hH8, rfl, (by omega), (by omega), FitTo.none _ _⟩ ?_
    rintro k sg12 w12 ⟨fr12, hH12, e5_12, h0, hk, hf⟩
    have e2_12 : sg12 2 = .pointer (some ⟨_, _, none⟩) := (fr12 2 rfl).trans rfl
    have e3_12 : sg12 3 = .pointer (some ⟨_, _, none⟩) := (fr12 3 rfl).trans rfl
    refine CW.seq ?_
    refine CW.seq ?_
    refine CW.region ?_
    refine RL.val rfl (run_move e5_12) ?_
    refine RL.val rfl (run_lss rfl rfl) ?_
    refine RL.nil ?_
    refine CW.condP rfl (fun h14 => ?_) (fun h14 => ?_)
    · refine CW.skip ?_
      refine CW.seq ?_
      refine CW.block ?_
      refine CW.seq ?_
      refine CW.regionD (by kernel_rfl) hH12 ?_
      intro w15 hH16
      refine AN.take 0 rfl rfl (by kernel_rfl) (by kernel_rfl) (by kernel_rfl) (hH16.sub (List.Sublist.refl _)) (fun w hS => run_move e5_12) ?_
      refine AN.take 1 rfl rfl (by kernel_rfl) (by kernel_rfl) (by kernel_rfl) (hH16.sub (List.Sublist.refl _)) (fun w hS => run_fieldAddr Tryz.underlying24 rfl (off := 1) rfl Tryz.sizeOf22 (by decide) e2_12) ?_
      refine AN.take 2 rfl rfl (by kernel_rfl) (by kernel_rfl) (by kernel_rfl) (hH16.sub (List.Sublist.refl _)) (fun w hS => run_ld Tryz.underlying22 rfl rfl (hS.cell (i := 1) rfl rfl)) ?_
      refine AN.take 3 rfl rfl (by kernel_rfl) (by kernel_rfl) (by kernel_rfl) (hH16.sub (List.Sublist.refl _)) (fun w hS => run_lenSl (hs.facs.sl.hp hS) rfl Tryz.underlying22 rfl) ?_
      refine AN.take 4 rfl rfl (by kernel_rfl) (by kernel_rfl) (by kernel_rfl) (hH16.sub (List.Sublist.refl _)) (fun w hS => run_lss rfl rfl) ?_
      refine AN.take 5 rfl rfl (by kernel_rfl) (by kernel_rfl) (by kernel_rfl) (hH16.sub (List.Sublist.refl _)) (fun w hS => run_move (v := B _) rfl) ?_
      refine AN.splitP (dj := 18) rfl (fun h18 => ?_) (fun h18 => ?_)
      · refine AN.takeG 6 rfl rfl (bT h18) rfl (by kernel_rfl) (by kernel_rfl) (by kernel_rfl) (hH16.sub (List.Sublist.refl _)) (fun w hS => run_fieldAddr Tryz.underlying24 rfl (off := 1) rfl Tryz.sizeOf22 (by decide) e2_12) ?_
        refine AN.takeG 7 rfl rfl (bT h18) rfl (by kernel_rfl) (by kernel_rfl) (by kernel_rfl) (hH16.sub (List.Sublist.refl _)) (fun w hS => run_ld Tryz.underlying22 rfl rfl (hS.cell (i := 1) rfl rfl)) ?_
        refine AN.takeG 8 rfl rfl (bT h18) rfl (by kernel_rfl) (by kernel_rfl) (by kernel_rfl) (hH16.sub (List.Sublist.refl _)) (fun w hS => run_move e5_12) ?_
        refine AN.takeG 9 rfl rfl (bT h18) rfl (by kernel_rfl) (by kernel_rfl) (by kernel_rfl) (hH16.sub (List.Sublist.refl _)) (fun w hS => run_indexAddrS (hs.facs.sl.hp hS) Tryz.underlying22 Tryz.sizeOf44 rfl rfl (by omega)) ?_
        refine AN.takeG 10 rfl rfl (bT h18) rfl (by kernel_rfl) (by kernel_rfl) (by kernel_rfl) (hH16.sub (List.Sublist.refl _)) (fun w hS => run_ldE (dv := fac0) facL_len (hs.facs.sl.hp hS) Tryz.underlying44 rfl rfl rfl (by omega)) ?_
        refine AN.takeG 11 rfl rfl (bT h18) rfl (by kernel_rfl) (by kernel_rfl) (by kernel_rfl) (hH16.sub (List.Sublist.refl _)) (fun w hS => run_move e5_12) ?_
        refine AN.takeG 12 rfl rfl (bT h18) rfl (by kernel_rfl) (by kernel_rfl) (by kernel_rfl) (hH16.sub (List.Sublist.refl _)) (fun w hS => run_indexAddrA Tryz.underlying30 Tryz.sizeOf28 e3_12 rfl (by omega)) ?_
        refine AN.takeG 13 rfl rfl (bT h18) rfl (by kernel_rfl) (by kernel_rfl) (by kernel_rfl) (hH16.sub (List.Sublist.refl _)) (fun w hS => run_ld Tryz.underlying28 rfl rfl (hS.cell (i := 0) rfl (elC_at _ (by omega)))) ?_
        refine AN.one 14 (by kernel_rfl) ?_
        refine AO.callP rfl (gsome rfl (bT h18)) rfl hH16 (List.Sublist.refl _) (c_clearanceref07_word _ _ (by have hat := sh_at hr (k := k) h0 (by omega); rw [sh_get] at hat; exact hat) _ ((hs.at (by omega) (by omega)).mono hH16.kw)) (run_call2 Tryz.call42 rfl rfl) ?_
        intro w19 hH20
        refine AN.takeG 15 rfl rfl (bT h18) rfl (by kernel_rfl) (by kernel_rfl) (by kernel_rfl) (hH20.sub (List.Sublist.refl _)) (fun w hS => run_not rfl) ?_
        refine AN.take 16 rfl rfl (by kernel_rfl) (by kernel_rfl) (by kernel_rfl) (hH20.sub (List.Sublist.refl _)) (fun w hS => run_pickT (bT h18) (v := B _) rfl) ?_
        refine AN.take 17 rfl rfl (by kernel_rfl) (by kernel_rfl) (by kernel_rfl) (hH20.sub (List.Sublist.refl _)) (fun w hS => run_move (v := B _) rfl) ?_
        refine AN.split (dj := 30) rfl (fun h23 => ?_) (fun h23 => ?_)
        · refine AN.skipG 18 rfl rfl (bR (c := true) h23) rfl rfl (by kernel_rfl) (by kernel_rfl) (by kernel_rfl) (hH20.sub (List.Sublist.refl _)) ?_
          refine AN.skipG 19 rfl rfl (bR (c := true) h23) rfl rfl (by kernel_rfl) (by kernel_rfl) (by kernel_rfl) (hH20.sub (List.Sublist.refl _)) ?_
          refine AN.skipG 20 rfl rfl (bR (c := true) h23) rfl rfl (by kernel_rfl) (by kernel_rfl) (by kernel_rfl) (hH20.sub (List.Sublist.refl _)) ?_
          refine AN.skipG 21 rfl rfl (bR (c := true) h23) rfl rfl (by kernel_rfl) (by kernel_rfl) (by kernel_rfl) (hH20.sub (List.Sublist.refl _)) ?_
          refine AN.skipG 22 rfl rfl (bR (c := true) h23) rfl rfl (by kernel_rfl) (by kernel_rfl) (by kernel_rfl) (hH20.sub (List.Sublist.refl _)) ?_
          refine AN.skipG 23 rfl rfl (bR (c := true) h23) rfl rfl (by kernel_rfl) (by kernel_rfl) (by kernel_rfl) (hH20.sub (List.Sublist.refl _)) ?_
          refine AN.skipU 24 rfl rfl rfl rfl (by kernel_rfl) (by kernel_rfl) (by kernel_rfl) (hH20.sub (List.Sublist.refl _)) ?_
          refine AN.skipU 25 rfl rfl rfl rfl (by kernel_rfl) (by kernel_rfl) (by kernel_rfl) (hH20.sub (List.Sublist.refl _)) ?_
          refine AN.skipU 26 rfl rfl rfl rfl (by kernel_rfl) (by kernel_rfl) (by kernel_rfl) (hH20.sub (List.Sublist.refl _)) ?_
          refine AN.skipU 27 rfl rfl rfl rfl (by kernel_rfl) (by kernel_rfl) (by kernel_rfl) (hH20.sub (List.Sublist.refl _)) ?_
          refine AN.skipG 28 rfl rfl (bR (c := true) h23) rfl rfl (by kernel_rfl) (by kernel_rfl) (by kernel_rfl) (hH20.sub (List.Sublist.refl _)) ?_
          refine AN.take 29 rfl rfl (by kernel_rfl) (by kernel_rfl) (by kernel_rfl) (hH20.sub (List.Sublist.refl _)) (fun w hS => run_pickT (bR (c := true) h23) (v := B true) rfl) ?_
          refine AN.done (by kernel_rfl) ?_
          refine CW.condT rfl ?_
          refine CW.seq ?_
          refine CW.region ?_
          refine RL.val rfl (run_assign (v := B false) rfl) ?_
          refine RL.nil ?_
          refine CW.ret ?_
          refine outP1 Tryz.results17 (congrArg B ?_) hH20.below
          first | exact (fits_no1 (nt ‹_›)).symm | exact (fits_no3 h0 ‹_› (by omega) ‹_›).symm | exact (fits_no2 h0 ‹_› (by omega) (by rw [sh_get]; exact nt ‹_›)).symm | exact (fits_yes hr ‹_› hf).symm
        · refine AN.takeG 18 rfl rfl (bR (c := false) h23) rfl (by kernel_rfl) (by kernel_rfl) (by kernel_rfl) (hH20.sub (List.Sublist.refl _)) (fun w hS => run_move e5_12) ?_
          refine AN.takeG 19 rfl rfl (bR (c := false) h23) rfl (by kernel_rfl) (by kernel_rfl) (by kernel_rfl) (hH20.sub (List.Sublist.refl _)) (fun w hS => run_fieldAddr Tryz.underlying24 rfl (off := 1) rfl Tryz.sizeOf22 (by decide) e2_12) ?_
          refine AN.takeG 20 rfl rfl (bR (c := false) h23) rfl (by kernel_rfl) (by kernel_rfl) (by kernel_rfl) (hH20.sub (List.Sublist.refl _)) (fun w hS => run_ld Tryz.underlying22 rfl rfl (hS.cell (i := 1) rfl rfl)) ?_
          refine AN.takeG 21 rfl rfl (bR (c := false) h23) rfl (by kernel_rfl) (by kernel_rfl) (by kernel_rfl) (hH20.sub (List.Sublist.refl _)) (fun w hS => run_lenSl (hs.facs.sl.hp hS) rfl Tryz.underlying22 rfl) ?_
          refine AN.takeG 22 rfl rfl (bR (c := false) h23) rfl (by kernel_rfl) (by kernel_rfl) (by kernel_rfl) (hH20.sub (List.Sublist.refl _)) (fun w hS => run_geq rfl rfl) ?_
          refine AN.takeG 23 rfl rfl (bR (c := false) h23) rfl (by kernel_rfl) (by kernel_rfl) (by kernel_rfl) (hH20.sub (List.Sublist.refl _)) (fun w hS => run_move (v := B _) rfl) ?_
          refine AN.splitP (dj := 36) rfl (fun h25 => ?_) (fun h25 => ?_)
          · refine AN.takeG 24 rfl rfl (bT h25) rfl (by kernel_rfl) (by kernel_rfl) (by kernel_rfl) (hH20.sub (List.Sublist.refl _)) (fun w hS => run_move e5_12) ?_
            refine AN.takeG 25 rfl rfl (bT h25) rfl (by kernel_rfl) (by kernel_rfl) (by kernel_rfl) (hH20.sub (List.Sublist.refl _)) (fun w hS => run_indexAddrA Tryz.underlying30 Tryz.sizeOf28 e3_12 rfl (by omega)) ?_
            refine AN.takeG 26 rfl rfl (bT h25) rfl (by kernel_rfl) (by kernel_rfl) (by kernel_rfl) (hH20.sub (List.Sublist.refl _)) (fun w hS => run_ld Tryz.underlying28 rfl rfl (hS.cell (i := 0) rfl (elC_at _ (by omega)))) ?_
            refine AN.takeG 27 rfl rfl (bT h25) rfl (by kernel_rfl) (by kernel_rfl) (by kernel_rfl) (hH20.sub (List.Sublist.refl _)) (fun w hS => run_neqU rfl (b := 0#64) rfl) ?_
            refine AN.takeG 28 rfl rfl (bR (c := false) h23) rfl (by kernel_rfl) (by kernel_rfl) (by kernel_rfl) (hH20.sub (List.Sublist.refl _)) (fun w hS => run_pickT (bT h25) (v := B _) rfl) ?_
            refine AN.take 29 rfl rfl (by kernel_rfl) (by kernel_rfl) (by kernel_rfl) (hH20.sub (List.Sublist.refl _)) (fun w hS => run_pickF (bR (c := false) h23) (v := B _) rfl) ?_
            refine AN.done (by kernel_rfl) ?_
            refine CW.condP rfl (fun h27 => ?_) (fun h27 => ?_)
            · refine CW.seq ?_
              refine CW.region ?_
              refine RL.val rfl (run_assign (v := B false) rfl) ?_
              refine RL.nil ?_
              refine CW.ret ?_
              refine outP1 Tryz.results17 (congrArg B ?_) hH20.below
              first | exact (fits_no1 (nt ‹_›)).symm | exact (fits_no3 h0 ‹_› (by omega) ‹_›).symm | exact (fits_no2 h0 ‹_› (by omega) (by rw [sh_get]; exact nt ‹_›)).symm | exact (fits_yes hr ‹_› hf).symm
            · refine CW.skip ?_
              refine CW.region ?_
              refine RL.val rfl (run_move e5_12) ?_
              refine RL.val rfl (run_add rfl rfl (by omega)) ?_
              refine RL.val rfl (run_assign (v := I _) rfl) ?_
              refine RL.nil ?_
              refine ⟨k + 1, ?_, ((((((((((((((((((((((((((((((((((fr12.u rfl).u rfl).u rfl).u rfl).u rfl).u rfl).u rfl).u rfl).u rfl).u rfl).u rfl).u rfl).u rfl).u rfl).u rfl).u rfl).u rfl).u rfl).u rfl).u rfl).u rfl).u rfl).u rfl).u rfl).u rfl).u rfl).u rfl).u rfl).u rfl).u rfl).u rfl).u rfl).u rfl).u rfl).u rfl, hH20, (congrArg I (by first | rfl | omega)), ?_, ?_, ?_⟩
              · ((try dsimp only); omega)
              · omega
              · omega
              · exact hf.next (fun h => by first | (exfalso; omega) | (rw [sh_get]; exact nf ‹_›)) (fun h => by first | exact Decidable.of_not_not ‹_› | (exfalso; omega))
          · refine AN.skipG 24 rfl rfl (bF h25) rfl rfl (by kernel_rfl) (by kernel_rfl) (by kernel_rfl) (hH20.sub (List.Sublist.refl _)) ?_
            refine AN.skipG 25 rfl rfl (bF h25) rfl rfl (by kernel_rfl) (by kernel_rfl) (by kernel_rfl) (hH20.sub (List.Sublist.refl _)) ?_
            refine AN.skipG 26 rfl rfl (bF h25) rfl rfl (by kernel_rfl) (by kernel_rfl) (by kernel_rfl) (hH20.sub (List.Sublist.refl _)) ?_
            refine AN.skipG 27 rfl rfl (bF h25) rfl rfl (by kernel_rfl) (by kernel_rfl) (by kernel_rfl) (hH20.sub (List.Sublist.refl _)) ?_
            refine AN.takeG 28 rfl rfl (bR (c := false) h23) rfl (by kernel_rfl) (by kernel_rfl) (by kernel_rfl) (hH20.sub (List.Sublist.refl _)) (fun w hS => run_pickF (bF h25) (v := B false) rfl) ?_
            refine AN.take 29 rfl rfl (by kernel_rfl) (by kernel_rfl) (by kernel_rfl) (hH20.sub (List.Sublist.refl _)) (fun w hS => run_pickF (bR (c := false) h23) (v := B _) rfl) ?_
            refine AN.done (by kernel_rfl) ?_
            refine CW.condF rfl ?_
            refine CW.skip ?_
            refine CW.region ?_
            refine RL.val rfl (run_move e5_12) ?_
            refine RL.val rfl (run_add rfl rfl (by omega)) ?_
            refine RL.val rfl (run_assign (v := I _) rfl) ?_
            refine RL.nil ?_
            refine ⟨k + 1, ?_, ((((((((((((((((((((((((((((((((((fr12.u rfl).u rfl).u rfl).u rfl).u rfl).u rfl).u rfl).u rfl).u rfl).u rfl).u rfl).u rfl).u rfl).u rfl).u rfl).u rfl).u rfl).u rfl).u rfl).u rfl).u rfl).u rfl).u rfl).u rfl).u rfl).u rfl).u rfl).u rfl).u rfl).u rfl).u rfl).u rfl).u rfl).u rfl).u rfl, hH20, (congrArg I (by first | rfl | omega)), ?_, ?_, ?_⟩
            · ((try dsimp only); omega)
            · omega
            · omega
            · exact hf.next (fun h => by first | (exfalso; omega) | (rw [sh_get]; exact nf ‹_›)) (fun h => by first | exact Decidable.of_not_not ‹_› | (exfalso; omega))
      · refine AN.skipG 6 rfl rfl (bF h18) rfl rfl (by kernel_rfl) (by kernel_rfl) (by kernel_rfl) (hH16.sub (List.Sublist.refl _)) ?_
        refine AN.skipG 7 rfl rfl (bF h18) rfl rfl (by kernel_rfl) (by kernel_rfl) (by kernel_rfl) (hH16.sub (List.Sublist.refl _)) ?_
        refine AN.skipG 8 rfl rfl (bF h18) rfl rfl (by kernel_rfl) (by kernel_rfl) (by kernel_rfl) (hH16.sub (List.Sublist.refl _)) ?_
        refine AN.skipG 9 rfl rfl (bF h18) rfl rfl (by kernel_rfl) (by kernel_rfl) (by kernel_rfl) (hH16.sub (List.Sublist.refl _)) ?_
        refine AN.skipG 10 rfl rfl (bF h18) rfl rfl (by kernel_rfl) (by kernel_rfl) (by kernel_rfl) (hH16.sub (List.Sublist.refl _)) ?_
        refine AN.skipG 11 rfl rfl (bF h18) rfl rfl (by kernel_rfl) (by kernel_rfl) (by kernel_rfl) (hH16.sub (List.Sublist.refl _)) ?_
        refine AN.skipG 12 rfl rfl (bF h18) rfl rfl (by kernel_rfl) (by kernel_rfl) (by kernel_rfl) (hH16.sub (List.Sublist.refl _)) ?_
        refine AN.skipG 13 rfl rfl (bF h18) rfl rfl (by kernel_rfl) (by kernel_rfl) (by kernel_rfl) (hH16.sub (List.Sublist.refl _)) ?_
        refine AN.skipG 14 rfl rfl (bF h18) rfl rfl (by kernel_rfl) (by kernel_rfl) (by kernel_rfl) (hH16.sub (List.Sublist.refl _)) ?_
        refine AN.skipG 15 rfl rfl (bF h18) rfl rfl (by kernel_rfl) (by kernel_rfl) (by kernel_rfl) (hH16.sub (List.Sublist.refl _)) ?_
        refine AN.take 16 rfl rfl (by kernel_rfl) (by kernel_rfl) (by kernel_rfl) (hH16.sub (List.Sublist.refl _)) (fun w hS => run_pickF (bF h18) (v := B false) rfl) ?_
        refine AN.take 17 rfl rfl (by kernel_rfl) (by kernel_rfl) (by kernel_rfl) (hH16.sub (List.Sublist.refl _)) (fun w hS => run_move (v := B _) rfl) ?_
        refine AN.takeG 18 rfl rfl rfl rfl (by kernel_rfl) (by kernel_rfl) (by kernel_rfl) (hH16.sub (List.Sublist.refl _)) (fun w hS => run_move e5_12) ?_
        refine AN.takeG 19 rfl rfl rfl rfl (by kernel_rfl) (by kernel_rfl) (by kernel_rfl) (hH16.sub (List.Sublist.refl _)) (fun w hS => run_fieldAddr Tryz.underlying24 rfl (off := 1) rfl Tryz.sizeOf22 (by decide) e2_12) ?_
        refine AN.takeG 20 rfl rfl rfl rfl (by kernel_rfl) (by kernel_rfl) (by kernel_rfl) (hH16.sub (List.Sublist.refl _)) (fun w hS => run_ld Tryz.underlying22 rfl rfl (hS.cell (i := 1) rfl rfl)) ?_
        refine AN.takeG 21 rfl rfl rfl rfl (by kernel_rfl) (by kernel_rfl) (by kernel_rfl) (hH16.sub (List.Sublist.refl _)) (fun w hS => run_lenSl (hs.facs.sl.hp hS) rfl Tryz.underlying22 rfl) ?_
        refine AN.takeG 22 rfl rfl rfl rfl (by kernel_rfl) (by kernel_rfl) (by kernel_rfl) (hH16.sub (List.Sublist.refl _)) (fun w hS => run_geq rfl rfl) ?_
        refine AN.takeG 23 rfl rfl rfl rfl (by kernel_rfl) (by kernel_rfl) (by kernel_rfl) (hH16.sub (List.Sublist.refl _)) (fun w hS => run_move (v := B _) rfl) ?_
        refine AN.splitP (dj := 36) rfl (fun h29 => ?_) (fun h29 => ?_)
        · refine AN.takeG 24 rfl rfl (bT h29) rfl (by kernel_rfl) (by kernel_rfl) (by kernel_rfl) (hH16.sub (List.Sublist.refl _)) (fun w hS => run_move e5_12) ?_
          refine AN.takeG 25 rfl rfl (bT h29) rfl (by kernel_rfl) (by kernel_rfl) (by kernel_rfl) (hH16.sub (List.Sublist.refl _)) (fun w hS => run_indexAddrA Tryz.underlying30 Tryz.sizeOf28 e3_12 rfl (by omega)) ?_
          refine AN.takeG 26 rfl rfl (bT h29) rfl (by kernel_rfl) (by kernel_rfl) (by kernel_rfl) (hH16.sub (List.Sublist.refl _)) (fun w hS => run_ld Tryz.underlying28 rfl rfl (hS.cell (i := 0) rfl (elC_at _ (by omega)))) ?_
          refine AN.takeG 27 rfl rfl (bT h29) rfl (by kernel_rfl) (by kernel_rfl) (by kernel_rfl) (hH16.sub (List.Sublist.refl _)) (fun w hS => run_neqU rfl (b := 0#64) rfl) ?_
          refine AN.takeG 28 rfl rfl rfl rfl (by kernel_rfl) (by kernel_rfl) (by kernel_rfl) (hH16.sub (List.Sublist.refl _)) (fun w hS => run_pickT (bT h29) (v := B _) rfl) ?_
          refine AN.take 29 rfl rfl (by kernel_rfl) (by kernel_rfl) (by kernel_rfl) (hH16.sub (List.Sublist.refl _)) (fun w hS => run_pickF rfl (v := B _) rfl) ?_
          refine AN.done (by kernel_rfl) ?_
          refine CW.condP rfl (fun h31 => ?_) (fun h31 => ?_)
          · refine CW.seq ?_
            refine CW.region ?_
            refine RL.val rfl (run_assign (v := B false) rfl) ?_
            refine RL.nil ?_
            refine CW.ret ?_
            refine outP1 Tryz.results17 (congrArg B ?_) hH16.below
            first | exact (fits_no1 (nt ‹_›)).symm | exact (fits_no3 h0 ‹_› (by omega) ‹_›).symm | exact (fits_no2 h0 ‹_› (by omega) (by rw [sh_get]; exact nt ‹_›)).symm | exact (fits_yes hr ‹_› hf).symm
          · refine CW.skip ?_
            refine CW.region ?_
            refine RL.val rfl (run_move e5_12) ?_
            refine RL.val rfl (run_add rfl rfl (by omega)) ?_
            refine RL.val rfl (run_assign (v := I _) rfl) ?_
            refine RL.nil ?_
            refine ⟨k + 1, ?_, ((((((((((((((((((((((((((((((((((fr12.u rfl).u rfl).u rfl).u rfl).u rfl).u rfl).u rfl).u rfl).u rfl).u rfl).u rfl).u rfl).u rfl).u rfl).u rfl).u rfl).u rfl).u rfl).u rfl).u rfl).u rfl).u rfl).u rfl).u rfl).u rfl).u rfl).u rfl).u rfl).u rfl).u rfl).u rfl).u rfl).u rfl).u rfl).u rfl, hH16, (congrArg I (by first | rfl | omega)), ?_, ?_, ?_⟩
            · ((try dsimp only); omega)
            · omega
            · omega
            · exact hf.next (fun h => by first | (exfalso; omega) | (rw [sh_get]; exact nf ‹_›)) (fun h => by first | exact Decidable.of_not_not ‹_› | (exfalso; omega))
        · refine AN.skipG 24 rfl rfl (bF h29) rfl rfl (by kernel_rfl) (by kernel_rfl) (by kernel_rfl) (hH16.sub (List.Sublist.refl _)) ?_
          refine AN.skipG 25 rfl rfl (bF h29) rfl rfl (by kernel_rfl) (by kernel_rfl) (by kernel_rfl) (hH16.sub (List.Sublist.refl _)) ?_
          refine AN.skipG 26 rfl rfl (bF h29) rfl rfl (by kernel_rfl) (by kernel_rfl) (by kernel_rfl) (hH16.sub (List.Sublist.refl _)) ?_
          refine AN.skipG 27 rfl rfl (bF h29) rfl rfl (by kernel_rfl) (by kernel_rfl) (by kernel_rfl) (hH16.sub (List.Sublist.refl _)) ?_
          refine AN.takeG 28 rfl rfl rfl rfl (by kernel_rfl) (by kernel_rfl) (by kernel_rfl) (hH16.sub (List.Sublist.refl _)) (fun w hS => run_pickF (bF h29) (v := B false) rfl) ?_
          refine AN.take 29 rfl rfl (by kernel_rfl) (by kernel_rfl) (by kernel_rfl) (hH16.sub (List.Sublist.refl _)) (fun w hS => run_pickF rfl (v := B _) rfl) ?_
          refine AN.done (by kernel_rfl) ?_
          refine CW.condF rfl ?_
          refine CW.skip ?_
          refine CW.region ?_
          refine RL.val rfl (run_move e5_12) ?_
          refine RL.val rfl (run_add rfl rfl (by omega)) ?_
          refine RL.val rfl (run_assign (v := I _) rfl) ?_
          refine RL.nil ?_
          refine ⟨k + 1, ?_, ((((((((((((((((((((((((((((((((((fr12.u rfl).u rfl).u rfl).u rfl).u rfl).u rfl).u rfl).u rfl).u rfl).u rfl).u rfl).u rfl).u rfl).u rfl).u rfl).u rfl).u rfl).u rfl).u rfl).u rfl).u rfl).u rfl).u rfl).u rfl).u rfl).u rfl).u rfl).u rfl).u rfl).u rfl).u rfl).u rfl).u rfl).u rfl).u rfl, hH16, (congrArg I (by first | rfl | omega)), ?_, ?_, ?_⟩
          · ((try dsimp only); omega)
          · omega
          · omega
          · exact hf.next (fun h => by first | (exfalso; omega) | (rw [sh_get]; exact nf ‹_›)) (fun h => by first | exact Decidable.of_not_not ‹_› | (exfalso; omega))
    · refine CW.exit (id := 0) rfl ?_
      refine CW.seq ?_
      refine CW.region ?_
      refine RL.val rfl (run_assign (v := B true) rfl) ?_
      refine RL.nil ?_
      refine CW.ret ?_
      refine outP1 Tryz.results17 (congrArg B ?_) hH12.below
      first | exact (fits_no1 (nt ‹_›)).symm | exact (fits_no3 h0 ‹_› (by omega) ‹_›).symm | exact (fits_no2 h0 ‹_› (by omega) (by rw [sh_get]; exact nt ‹_›)).symm | exact (fits_yes hr ‹_› hf).symm

theorem c_clearanceref07_Leq (a b : El) (w : World) : Calls Tryz.prog 19 #[.agg (elC a), .agg (elC b)] w (Pure (B (leqE a b)) w) := by
  refine enter Tryz.func19 rfl Tryz.ntmps19 rfl ?_
  have hH := Hp.start w
  refine CW.seq ?_
  refine CW.region ?_
  refine RL.new rfl hH (f := fun b => (.pointer (some ⟨b, 0, none⟩))) (run_box (v := .agg _) rfl) ?_
  intro b3 w1 hH2
  refine RL.new rfl hH2 (f := fun b => (.pointer (some ⟨b, 0, none⟩))) (run_box (v := .agg _) rfl) ?_
  intro b6 w4 hH5
  refine RL.val rfl (run_assign (v := B false) rfl) ?_
  refine RL.nil ?_
  refine CW.seq ?_
  refine CW.seq ?_
  refine CW.region ?_
  refine RL.val rfl (run_assign (v := I 0) rfl) ?_
  refine RL.nil ?_
  refine CW.block ?_
  refine CW.loop (G := (Int)) (fun (k : Int) s' w' => (Fr [4, 5, 6, 7, 8, 9, 10, 11, 12, 13, 14, 15, 16, 17] _ s') ∧ (Hp w w' _) ∧ (s' 5 = I k) ∧ (0 ≤ k) ∧ (k ≤ 8) ∧ (∀ j : Int, 0 ≤ j → j < k → subB (a j.toNat) (b j.toNat) = true)) (fun (k : Int) => (8 - k).toNat) (0) ⟨Fr.refl _ _, hH5, rfl, (by omega), (by omega), fun j u v => absurd v (by omega)⟩ ?_
  rintro k sg7 w7 ⟨fr7, hH7, e5_7, h0, hk, hf⟩
  have e2_7 : sg7 2 = .pointer (some ⟨_, _, none⟩) := (fr7 2 rfl).trans rfl
  have e3_7 : sg7 3 = .pointer (some ⟨_, _, none⟩) := (fr7 3 rfl).trans rfl
  refine CW.seq ?_
  refine CW.seq ?_
  refine CW.region ?_
  refine RL.val rfl (run_move e5_7) ?_
  refine RL.val rfl (run_lss rfl rfl) ?_
  refine RL.nil ?_
  refine CW.condP rfl (fun h9 => ?_) (fun h9 => ?_)
  · refine CW.skip ?_
    refine CW.seq ?_
    refine CW.block ?_
    refine CW.seq ?_
    refine CW.regionD (by kernel_rfl) hH7 ?_
    intro w10 hH11
    refine AN.take 0 rfl rfl (by kernel_rfl) (by kernel_rfl) (by kernel_rfl) (hH11.sub (List.Sublist.refl _)) (fun w hS => run_move e5_7) ?_
    refine AN.take 1 rfl rfl (by kernel_rfl) (by kernel_rfl) (by kernel_rfl) (hH11.sub (List.Sublist.refl _)) (fun w hS => run_indexAddrA Tryz.underlying30 Tryz.sizeOf28 e2_7 rfl (by omega)) ?_
    refine AN.take 2 rfl rfl (by kernel_rfl) (by kernel_rfl) (by kernel_rfl) (hH11.sub (List.Sublist.refl _)) (fun w hS => run_ld Tryz.underlying28 rfl rfl (hS.cell (i := 1) rfl (elC_at _ (by omega)))) ?_
    refine AN.take 3 rfl rfl (by kernel_rfl) (by kernel_rfl) (by kernel_rfl) (hH11.sub (List.Sublist.refl _)) (fun w hS => run_move e5_7) ?_
    refine AN.take 4 rfl rfl (by kernel_rfl) (by kernel_rfl) (by kernel_rfl) (hH11.sub (List.Sublist.refl _)) (fun w hS => run_indexAddrA Tryz.underlying30 Tryz.sizeOf28 e3_7 rfl (by omega)) ?_
    refine AN.take 5 rfl rfl (by kernel_rfl) (by kernel_rfl) (by kernel_rfl) (hH11.sub (List.Sublist.refl _)) (fun w hS => run_ld Tryz.underlying28 rfl rfl (hS.cell (i := 0) rfl (elC_at _ (by omega)))) ?_
    refine AN.one 6 (by kernel_rfl) ?_
    refine AO.callP rfl gnone rfl hH11 (List.Sublist.refl _) (c_clearanceref01_Sub _ _  _) (run_call2 Tryz.call44 rfl rfl) ?_
    intro w12 hH13
    refine AN.take 7 rfl rfl (by kernel_rfl) (by kernel_rfl) (by kernel_rfl) (hH13.sub (List.Sublist.refl _)) (fun w hS => run_not rfl) ?_
    refine AN.done (by kernel_rfl) ?_
    refine CW.cond rfl (fun h16 => ?_) (fun h16 => ?_)
    · refine CW.seq ?_
      refine CW.region ?_
      refine RL.val rfl (run_assign (v := B false) rfl) ?_
      refine RL.nil ?_
      refine CW.ret ?_
      refine outP1 Tryz.results19 (congrArg B ?_) hH13.below
      first | exact (leq_no h0 ‹_› (nt ‹_›)).symm | exact (leq_yes ‹_› hf).symm
    · refine CW.skip ?_
      refine CW.region ?_
      refine RL.val rfl (run_move e5_7) ?_
      refine RL.val rfl (run_add rfl rfl (by omega)) ?_
      refine RL.val rfl (run_assign (v := I _) rfl) ?_
      refine RL.nil ?_
      refine ⟨k + 1, ?_, ((((((((((((fr7.u rfl).u rfl).u rfl).u rfl).u rfl).u rfl).u rfl).u rfl).u rfl).u rfl).u rfl).u rfl).u rfl, hH13, (congrArg I (by first | rfl | omega)), ?_, ?_, ?_⟩
      · ((try dsimp only); omega)
      · omega
      · omega
      · exact fun j u v => if e : j = k then e ▸ nf ‹_› else hf j u (by omega)
  · refine CW.exit (id := 0) rfl ?_
    refine CW.seq ?_
    refine CW.region ?_
    refine RL.val rfl (run_assign (v := B true) rfl) ?_
    refine RL.nil ?_
    refine CW.ret ?_
    refine outP1 Tryz.results19 (congrArg B ?_) hH7.below
    first | exact (leq_no h0 ‹_› (nt ‹_›)).symm | exact (leq_yes ‹_› hf).symm

theorem c_clearanceref07_Join (s : Shp) (a b : El) (w : World) (hs : ShpV (Kw w) s) : Calls Tryz.prog 21 #[.agg (shpC s), .agg (elC a), .agg (elC b)] w (Pure (.agg (elC (joinS s.sh a b))) w) := by
  have hsl := sh_len s
  have hm := hs.facs.sl.small
  unfold maxLen at hm
  refine enter Tryz.func21 rfl Tryz.ntmps21 rfl ?_
  have hH := Hp.start w
  refine CW.seq ?_
  refine CW.region ?_
  refine RL.new rfl hH (f := fun b => (.pointer (some ⟨b, 0, none⟩))) (run_box (v := .agg _) rfl) ?_
  intro b3 w1 hH2
  refine RL.new rfl hH2 (f := fun b => (.pointer (some ⟨b, 0, none⟩))) (run_box (v := .agg _) rfl) ?_
  intro b6 w4 hH5
  refine RL.new rfl hH5 (f := fun b => (.pointer (some ⟨b, 0, none⟩))) (run_box (v := .agg _) rfl) ?_
  intro b9 w7 hH8
  refine RL.new rfl hH8 (f := fun b => (.pointer (some ⟨b, 0, none⟩))) (run_alloc zero_el) ?_
  intro b12 w10 hH11
  refine RL.nil ?_
  refine CW.seq ?_
  refine CW.region ?_
  refine RL.new rfl hH11 (f := fun b => (.pointer (some ⟨b, 0, none⟩))) (run_alloc zero_el) ?_
  intro b15 w13 hH14
  refine RL.nil ?_
  refine CW.seq ?_
  refine CW.seq ?_
  refine CW.region ?_
  refine RL.val rfl (run_assign (v := I 0) rfl) ?_
  refine RL.nil ?_
  refine CW.block ?_
  refine CW.loop (G := (Int) × (El)) (fun (⟨k, e1⟩ : (Int) × (El)) s' w' => (Fr [8, 9, 10, 11, 12, 13, 14, 15, 16, 17, 18, 19, 20, 21, 22, 23, 24, 25, 26, 27, 28, 29, 30, 31, 32, 33, 34, 35, 36, 37, 38, 39, 40, 41, 42, 43, 44, 45, 46, 47, 48, 49, 50] _ s') ∧ (Hp w w' (.blk b15 (.cells (elC e1) 30 (0, 0)) :: _)) ∧ (s' 8 = I k) ∧ (0 ≤ k) ∧ (k ≤ 8) ∧ (e1 = mixE (joinS s.sh a b) el0 k)) (fun (⟨k, e1⟩ : (Int) × (El)) => (8 - k).toNat) ((0, el0)) ⟨Fr.refl _ _, hH14, rfl, (by omega), (by omega), (mix_zero _ _).symm⟩ ?_
  rintro ⟨k, e1⟩ sg16 w16 ⟨fr16, hH16, e8_16, h0, hk, hr⟩
  have e3_16 : sg16 3 = .pointer (some ⟨_, _, none⟩) := (fr16 3 rfl).trans rfl
  have e4_16 : sg16 4 = .pointer (some ⟨_, _, none⟩) := (fr16 4 rfl).trans rfl
  have e5_16 : sg16 5 = .pointer (some ⟨_, _, none⟩) := (fr16 5 rfl).trans rfl
  have e6_16 : sg16 6 = .pointer (some ⟨_, _, none⟩) := (fr16 6 rfl).trans rfl
  have e7_16 : sg16 7 = .pointer (some ⟨_, _, none⟩) := (fr16 7 rfl).trans rfl
  refine CW.seq ?_
  refine CW.seq ?_
  refine CW.region ?_
  refine RL.val rfl (run_move e8_16) ?_
  refine RL.val rfl (run_lss rfl rfl) ?_
  refine RL.nil ?_
  refine CW.condP rfl (fun h18 => ?_) (fun h18 => ?_)
  · refine CW.skip ?_
    refine CW.seq ?_
    refine CW.block ?_
    refine CW.seq ?_
    refine CW.regionS (by kernel_rfl) hH16 (.cons _ (List.Sublist.refl _)) ?_
    intro w19 hH20
    refine AN.take 0 rfl rfl (by kernel_rfl) (by kernel_rfl) (by kernel_rfl) (hH20.sub (.cons _ (List.Sublist.refl _))) (fun w hS => run_move e8_16) ?_
    refine AN.take 1 rfl rfl (by kernel_rfl) (by kernel_rfl) (by kernel_rfl) (hH20.sub (.cons _ (List.Sublist.refl _))) (fun w hS => run_move e8_16) ?_
    refine AN.take 2 rfl rfl (by kernel_rfl) (by kernel_rfl) (by kernel_rfl) (hH20.sub (.cons _ (List.Sublist.refl _))) (fun w hS => run_indexAddrA Tryz.underlying30 Tryz.sizeOf28 e4_16 rfl (by omega)) ?_
    refine AN.take 3 rfl rfl (by kernel_rfl) (by kernel_rfl) (by kernel_rfl) (hH20.sub (.cons _ (List.Sublist.refl _))) (fun w hS => run_ld Tryz.underlying28 rfl rfl (hS.cell (i := 2) rfl (elC_at _ (by omega)))) ?_
    refine AN.take 4 rfl rfl (by kernel_rfl) (by kernel_rfl) (by kernel_rfl) (hH20.sub (.cons _ (List.Sublist.refl _))) (fun w hS => run_move e8_16) ?_
    refine AN.take 5 rfl rfl (by kernel_rfl) (by kernel_rfl) (by kernel_rfl) (hH20.sub (.cons _ (List.Sublist.refl _))) (fun w hS => run_indexAddrA Tryz.underlying30 Tryz.sizeOf28 e5_16 rfl (by omega)) ?_
    refine AN.take 6 rfl rfl (by kernel_rfl) (by kernel_rfl) (by kernel_rfl) (hH20.sub (.cons _ (List.Sublist.refl _))) (fun w hS => run_ld Tryz.underlying28 rfl rfl (hS.cell (i := 1) rfl (elC_at _ (by omega)))) ?_
    refine AN.take 7 rfl rfl (by kernel_rfl) (by kernel_rfl) (by kernel_rfl) (hH20.sub (.cons _ (List.Sublist.refl _))) (fun w hS => run_orU rfl rfl) ?_
    refine AN.take 8 rfl rfl (by kernel_rfl) (by kernel_rfl) (by kernel_rfl) (hH20.sub (.cons _ (List.Sublist.refl _))) (fun w hS => run_indexAddrA Tryz.underlying30 Tryz.sizeOf28 e7_16 rfl (by omega)) ?_
    refine AN.one 9 (by kernel_rfl) ?_
    refine AO.set rfl gnone hH20 (j := 0) rfl (.cons _ (List.Sublist.refl _)) (run_st rfl rfl (v := U _) rfl rfl rfl (hH20.blk (i := 0) rfl) (by rw [elC_size]; omega)) ?_
    intro w23 hH24
    simp only [List.set_cons_zero, List.set_cons_succ] at hH24
    rw [elC_put] at hH24
    refine AN.done (by kernel_rfl) ?_
    refine CW.seq ?_
    refine CW.region ?_
    refine RL.val rfl (run_move e8_16) ?_
    refine RL.val rfl (run_fieldAddr Tryz.underlying24 rfl (off := 1) rfl Tryz.sizeOf22 (by decide) e3_16) ?_
    refine RL.val rfl (run_ld Tryz.underlying22 rfl rfl (hH24.cell (i := 4) rfl rfl)) ?_
    refine RL.val rfl (run_lenSl (hs.facs.sl.hp hH24) rfl Tryz.underlying22 rfl) ?_
    refine RL.val rfl (run_lss rfl rfl) ?_
    refine RL.val rfl (run_move (v := B _) rfl) ?_
    refine RL.splitP (dj := 27) rfl (fun h26 => ?_) (fun h26 => ?_)
    · refine RL.gT rfl (bT h26) ?_
      refine RL.val rfl (run_fieldAddr Tryz.underlying24 rfl (off := 1) rfl Tryz.sizeOf22 (by decide) e3_16) ?_
      refine RL.gT rfl (bT h26) ?_
      refine RL.val rfl (run_ld Tryz.underlying22 rfl rfl (hH24.cell (i := 4) rfl rfl)) ?_
      refine RL.gT rfl (bT h26) ?_
      refine RL.val rfl (run_move e8_16) ?_
      refine RL.gT rfl (bT h26) ?_
      refine RL.val rfl (run_indexAddrS (hs.facs.sl.hp hH24) Tryz.underlying22 Tryz.sizeOf44 rfl rfl (by omega)) ?_
      refine RL.gT rfl (bT h26) ?_
      refine RL.val rfl (run_fieldAddr Tryz.underlying44 rfl (off := 0) rfl Tryz.sizeOf3 (by decide) rfl) ?_
      refine RL.gT rfl (bT h26) ?_
      refine RL.val rfl (run_ldE1 (dv := fac0) facL_len (hs.facs.sl.hp hH24) Tryz.underlying3 rfl rfl (by omega) rfl) ?_
      refine RL.gT rfl (bT h26) ?_
      refine RL.val rfl (run_eql rfl rfl) ?_
      refine RL.val rfl (run_pickT (bT h26) (v := B _) rfl) ?_
      refine RL.nil ?_
      refine CW.condP rfl (fun h28 => ?_) (fun h28 => ?_)
      · refine CW.regionS (by kernel_rfl) hH24 (.cons _ (List.Sublist.refl _)) ?_
        intro w29 hH30
        refine AN.take 0 rfl rfl (by kernel_rfl) (by kernel_rfl) (by kernel_rfl) (hH30.sub (.cons _ (List.Sublist.refl _))) (fun w hS => run_move e8_16) ?_
        refine AN.take 1 rfl rfl (by kernel_rfl) (by kernel_rfl) (by kernel_rfl) (hH30.sub (.cons _ (List.Sublist.refl _))) (fun w hS => run_fieldAddr Tryz.underlying24 rfl (off := 1) rfl Tryz.sizeOf22 (by decide) e3_16) ?_
        refine AN.take 2 rfl rfl (by kernel_rfl) (by kernel_rfl) (by kernel_rfl) (hH30.sub (.cons _ (List.Sublist.refl _))) (fun w hS => run_ld Tryz.underlying22 rfl rfl (hS.cell (i := 3) rfl rfl)) ?_
        refine AN.take 3 rfl rfl (by kernel_rfl) (by kernel_rfl) (by kernel_rfl) (hH30.sub (.cons _ (List.Sublist.refl _))) (fun w hS => run_move e8_16) ?_
        refine AN.take 4 rfl rfl (by kernel_rfl) (by kernel_rfl) (by kernel_rfl) (hH30.sub (.cons _ (List.Sublist.refl _))) (fun w hS => run_indexAddrS (hs.facs.sl.hp hS) Tryz.underlying22 Tryz.sizeOf44 rfl rfl (by omega)) ?_
        refine AN.take 5 rfl rfl (by kernel_rfl) (by kernel_rfl) (by kernel_rfl) (hH30.sub (.cons _ (List.Sublist.refl _))) (fun w hS => run_fieldAddr Tryz.underlying44 rfl (off := 2) rfl Tryz.sizeOf42 (by decide) rfl) ?_
        refine AN.take 6 rfl rfl (by kernel_rfl) (by kernel_rfl) (by kernel_rfl) (hH30.sub (.cons _ (List.Sublist.refl _))) (fun w hS => run_ldFR (hs.facs.sl.hp hS) Tryz.underlying42 rfl rfl rfl (by omega)) ?_
        refine AN.take 7 rfl rfl (by kernel_rfl) (by kernel_rfl) (by kernel_rfl) (hH30.sub (.cons _ (List.Sublist.refl _))) (fun w hS => run_move e8_16) ?_
        refine AN.take 8 rfl rfl (by kernel_rfl) (by kernel_rfl) (by kernel_rfl) (hH30.sub (.cons _ (List.Sublist.refl _))) (fun w hS => run_indexAddrA Tryz.underlying30 Tryz.sizeOf28 e4_16 rfl (by omega)) ?_
        refine AN.take 9 rfl rfl (by kernel_rfl) (by kernel_rfl) (by kernel_rfl) (hH30.sub (.cons _ (List.Sublist.refl _))) (fun w hS => run_ld Tryz.underlying28 rfl rfl (hS.cell (i := 2) rfl (elC_at _ (by omega)))) ?_
        refine AN.take 10 rfl rfl (by kernel_rfl) (by kernel_rfl) (by kernel_rfl) (hH30.sub (.cons _ (List.Sublist.refl _))) (fun w hS => run_move e8_16) ?_
        refine AN.take 11 rfl rfl (by kernel_rfl) (by kernel_rfl) (by kernel_rfl) (hH30.sub (.cons _ (List.Sublist.refl _))) (fun w hS => run_indexAddrA Tryz.underlying30 Tryz.sizeOf28 e5_16 rfl (by omega)) ?_
        refine AN.take 12 rfl rfl (by kernel_rfl) (by kernel_rfl) (by kernel_rfl) (hH30.sub (.cons _ (List.Sublist.refl _))) (fun w hS => run_ld Tryz.underlying28 rfl rfl (hS.cell (i := 1) rfl (elC_at _ (by omega)))) ?_
        refine AN.one 13 (by kernel_rfl) ?_
        refine AO.callP rfl gnone rfl hH30 (.cons _ (List.Sublist.refl _)) (c_clearanceref06_Raise _ _ _  _) (run_call3 Tryz.call46 rfl rfl rfl) ?_
        intro w31 hH32
        refine AN.take 14 rfl rfl (by kernel_rfl) (by kernel_rfl) (by kernel_rfl) (hH32.sub (.cons _ (List.Sublist.refl _))) (fun w hS => run_indexAddrA Tryz.underlying30 Tryz.sizeOf28 e7_16 rfl (by omega)) ?_
        refine AN.one 15 (by kernel_rfl) ?_
        refine AO.set rfl gnone hH32 (j := 0) rfl (.cons _ (List.Sublist.refl _)) (run_st rfl rfl (v := U _) rfl rfl rfl (hH32.blk (i := 0) rfl) (by rw [elC_size]; omega)) ?_
        intro w35 hH36
        simp only [List.set_cons_zero, List.set_cons_succ] at hH36
        rw [elC_put] at hH36
        refine AN.done (by kernel_rfl) ?_
        refine CW.region ?_
        refine RL.val rfl (run_move e8_16) ?_
        refine RL.val rfl (run_add rfl rfl (by omega)) ?_
        refine RL.val rfl (run_assign (v := I _) rfl) ?_
        refine RL.nil ?_
        refine ⟨(k + 1, _), ?_, ((((((((((((((((((((((((((((((((((((((((((fr16.u rfl).u rfl).u rfl).u rfl).u rfl).u rfl).u rfl).u rfl).u rfl).u rfl).u rfl).u rfl).u rfl).u rfl).u rfl).u rfl).u rfl).u rfl).u rfl).u rfl).u rfl).u rfl).u rfl).u rfl).u rfl).u rfl).u rfl).u rfl).u rfl).u rfl).u rfl).u rfl).u rfl).u rfl).u rfl).u rfl).u rfl).u rfl).u rfl).u rfl).u rfl).u rfl).u rfl, hH36, (congrArg I (by first | rfl | omega)), ?_, ?_, ?_⟩
        · ((try dsimp only); omega)
        · omega
        · omega
        · first | exact join_putR4 hr h0 ‹_› ‹_› | exact join_putRO hr h0 (fun hc => absurd hc.1 (by omega)) | exact join_putRO hr h0 (fun hc => absurd hc.2 (by omega))
      · refine CW.skip ?_
        refine CW.region ?_
        refine RL.val rfl (run_move e8_16) ?_
        refine RL.val rfl (run_add rfl rfl (by omega)) ?_
        refine RL.val rfl (run_assign (v := I _) rfl) ?_
        refine RL.nil ?_
        refine ⟨(k + 1, _), ?_, (((((((((((((((((((((((((((fr16.u rfl).u rfl).u rfl).u rfl).u rfl).u rfl).u rfl).u rfl).u rfl).u rfl).u rfl).u rfl).u rfl).u rfl).u rfl).u rfl).u rfl).u rfl).u rfl).u rfl).u rfl).u rfl).u rfl).u rfl).u rfl).u rfl).u rfl).u rfl, hH24, (congrArg I (by first | rfl | omega)), ?_, ?_, ?_⟩
        · ((try dsimp only); omega)
        · omega
        · omega
        · first | exact join_putR4 hr h0 ‹_› ‹_› | exact join_putRO hr h0 (fun hc => absurd hc.1 (by omega)) | exact join_putRO hr h0 (fun hc => absurd hc.2 (by omega))
    · refine RL.gF rfl rfl (bF h26) rfl ?_
      refine RL.gF rfl rfl (bF h26) rfl ?_
      refine RL.gF rfl rfl (bF h26) rfl ?_
      refine RL.gF rfl rfl (bF h26) rfl ?_
      refine RL.gF rfl rfl (bF h26) rfl ?_
      refine RL.gF rfl rfl (bF h26) rfl ?_
      refine RL.gF rfl rfl (bF h26) rfl ?_
      refine RL.val rfl (run_pickF (bF h26) (v := B false) rfl) ?_
      refine RL.nil ?_
      refine CW.condF rfl ?_
      refine CW.skip ?_
      refine CW.region ?_
      refine RL.val rfl (run_move e8_16) ?_
      refine RL.val rfl (run_add rfl rfl (by omega)) ?_
      refine RL.val rfl (run_assign (v := I _) rfl) ?_
      refine RL.nil ?_
      refine ⟨(k + 1, _), ?_, (((((((((((((((((((((((((((fr16.u rfl).u rfl).u rfl).u rfl).u rfl).u rfl).u rfl).u rfl).u rfl).u rfl).u rfl).u rfl).u rfl).u rfl).u rfl).u rfl).u rfl).u rfl).u rfl).u rfl).u rfl).u rfl).u rfl).u rfl).u rfl).u rfl).u rfl).u rfl, hH24, (congrArg I (by first | rfl | omega)), ?_, ?_, ?_⟩
      · ((try dsimp only); omega)
      · omega
      · omega
      · first | exact join_putR4 hr h0 ‹_› ‹_› | exact join_putRO hr h0 (fun hc => absurd hc.1 (by omega)) | exact join_putRO hr h0 (fun hc => absurd hc.2 (by omega))
  · refine CW.exit (id := 0) rfl ?_
    refine CW.seq ?_
    refine CW.region ?_
    refine RL.val rfl (run_ldEl Tryz.underlying30 rfl rfl e7_16 (hH16.blk (i := 0) rfl)) ?_
    refine RL.set hH16 (i := 1) rfl (run_stEl rfl e6_16 rfl (hH16.blk (i := 1) rfl)) ?_
    intro w37 hH38
    simp only [List.set_cons_zero, List.set_cons_succ] at hH38
    refine RL.nil ?_
    refine CW.ret ?_
    refine outCg Tryz.results21 e6_16 hH38 (i := 1) rfl Tryz.underlying30 rfl (by rw [elC_size]; rfl) ⟨?_, hH38.below⟩
    (exact congrArg Value.agg (elC_congr (by rw [hr]; exact mix_all ‹_›)))

theorem c_clearanceref07_Meet (a b : El) (w : World) : Calls Tryz.prog 23 #[.agg (elC a), .agg (elC b)] w (Pure (.agg (elC (meetE a b))) w) := by
  refine enter Tryz.func23 rfl Tryz.ntmps23 rfl ?_
  have hH := Hp.start w
  refine CW.seq ?_
  refine CW.region ?_
  refine RL.new rfl hH (f := fun b => (.pointer (some ⟨b, 0, none⟩))) (run_box (v := .agg _) rfl) ?_
  intro b3 w1 hH2
  refine RL.new rfl hH2 (f := fun b => (.pointer (some ⟨b, 0, none⟩))) (run_box (v := .agg _) rfl) ?_
  intro b6 w4 hH5
  refine RL.new rfl hH5 (f := fun b => (.pointer (some ⟨b, 0, none⟩))) (run_alloc zero_el) ?_
  intro b9 w7 hH8
  refine RL.nil ?_
  refine CW.seq ?_
  refine CW.region ?_
  refine RL.new rfl hH8 (f := fun b => (.pointer (some ⟨b, 0, none⟩))) (run_alloc zero_el) ?_
  intro b12 w10 hH11
  refine RL.nil ?_
  refine CW.seq ?_
  refine CW.seq ?_
  refine CW.region ?_
  refine RL.val rfl (run_assign (v := I 0) rfl) ?_
  refine RL.nil ?_
  refine CW.block ?_
  refine CW.loop (G := (Int) × (El)) (fun (⟨k, e1⟩ : (Int) × (El)) s' w' => (Fr [6, 7, 8, 9, 10, 11, 12, 13, 14, 15, 16, 17, 18, 19] _ s') ∧ (Hp w w' (.blk b12 (.cells (elC e1) 30 (0, 0)) :: _)) ∧ (s' 6 = I k) ∧ (0 ≤ k) ∧ (k ≤ 8) ∧ (e1 = mixE (meetE a b) el0 k)) (fun (⟨k, e1⟩ : (Int) × (El)) => (8 - k).toNat) ((0, el0)) ⟨Fr.refl _ _, hH11, rfl, (by omega), (by omega), (mix_zero _ _).symm⟩ ?_
  rintro ⟨k, e1⟩ sg13 w13 ⟨fr13, hH13, e6_13, h0, hk, hr⟩
  have e2_13 : sg13 2 = .pointer (some ⟨_, _, none⟩) := (fr13 2 rfl).trans rfl
  have e3_13 : sg13 3 = .pointer (some ⟨_, _, none⟩) := (fr13 3 rfl).trans rfl
  have e4_13 : sg13 4 = .pointer (some ⟨_, _, none⟩) := (fr13 4 rfl).trans rfl
  have e5_13 : sg13 5 = .pointer (some ⟨_, _, none⟩) := (fr13 5 rfl).trans rfl
  refine CW.seq ?_
  refine CW.seq ?_
  refine CW.region ?_
  refine RL.val rfl (run_move e6_13) ?_
  refine RL.val rfl (run_lss rfl rfl) ?_
  refine RL.nil ?_
  refine CW.condP rfl (fun h15 => ?_) (fun h15 => ?_)
  · refine CW.skip ?_
    refine CW.seq ?_
    refine CW.block ?_
    refine CW.regionS (by kernel_rfl) hH13 (.cons _ (List.Sublist.refl _)) ?_
    intro w16 hH17
    refine AN.take 0 rfl rfl (by kernel_rfl) (by kernel_rfl) (by kernel_rfl) (hH17.sub (.cons _ (List.Sublist.refl _))) (fun w hS => run_move e6_13) ?_
    refine AN.take 1 rfl rfl (by kernel_rfl) (by kernel_rfl) (by kernel_rfl) (hH17.sub (.cons _ (List.Sublist.refl _))) (fun w hS => run_move e6_13) ?_
    refine AN.take 2 rfl rfl (by kernel_rfl) (by kernel_rfl) (by kernel_rfl) (hH17.sub (.cons _ (List.Sublist.refl _))) (fun w hS => run_indexAddrA Tryz.underlying30 Tryz.sizeOf28 e2_13 rfl (by omega)) ?_
    refine AN.take 3 rfl rfl (by kernel_rfl) (by kernel_rfl) (by kernel_rfl) (hH17.sub (.cons _ (List.Sublist.refl _))) (fun w hS => run_ld Tryz.underlying28 rfl rfl (hS.cell (i := 2) rfl (elC_at _ (by omega)))) ?_
    refine AN.take 4 rfl rfl (by kernel_rfl) (by kernel_rfl) (by kernel_rfl) (hH17.sub (.cons _ (List.Sublist.refl _))) (fun w hS => run_move e6_13) ?_
    refine AN.take 5 rfl rfl (by kernel_rfl) (by kernel_rfl) (by kernel_rfl) (hH17.sub (.cons _ (List.Sublist.refl _))) (fun w hS => run_indexAddrA Tryz.underlying30 Tryz.sizeOf28 e3_13 rfl (by omega)) ?_
    refine AN.take 6 rfl rfl (by kernel_rfl) (by kernel_rfl) (by kernel_rfl) (hH17.sub (.cons _ (List.Sublist.refl _))) (fun w hS => run_ld Tryz.underlying28 rfl rfl (hS.cell (i := 1) rfl (elC_at _ (by omega)))) ?_
    refine AN.take 7 rfl rfl (by kernel_rfl) (by kernel_rfl) (by kernel_rfl) (hH17.sub (.cons _ (List.Sublist.refl _))) (fun w hS => run_andU rfl rfl) ?_
    refine AN.take 8 rfl rfl (by kernel_rfl) (by kernel_rfl) (by kernel_rfl) (hH17.sub (.cons _ (List.Sublist.refl _))) (fun w hS => run_indexAddrA Tryz.underlying30 Tryz.sizeOf28 e5_13 rfl (by omega)) ?_
    refine AN.one 9 (by kernel_rfl) ?_
    refine AO.set rfl gnone hH17 (j := 0) rfl (.cons _ (List.Sublist.refl _)) (run_st rfl rfl (v := U _) rfl rfl rfl (hH17.blk (i := 0) rfl) (by rw [elC_size]; omega)) ?_
    intro w20 hH21
    simp only [List.set_cons_zero, List.set_cons_succ] at hH21
    rw [elC_put] at hH21
    refine AN.done (by kernel_rfl) ?_
    refine CW.region ?_
    refine RL.val rfl (run_move e6_13) ?_
    refine RL.val rfl (run_add rfl rfl (by omega)) ?_
    refine RL.val rfl (run_assign (v := I _) rfl) ?_
    refine RL.nil ?_
    refine ⟨(k + 1, _), ?_, (((((((((((((fr13.u rfl).u rfl).u rfl).u rfl).u rfl).u rfl).u rfl).u rfl).u rfl).u rfl).u rfl).u rfl).u rfl).u rfl, hH21, (congrArg I (by first | rfl | omega)), ?_, ?_, ?_⟩
    · ((try dsimp only); omega)
    · omega
    · omega
    · exact meet_putR hr h0
  · refine CW.exit (id := 0) rfl ?_
    refine CW.seq ?_
    refine CW.region ?_
    refine RL.val rfl (run_ldEl Tryz.underlying30 rfl rfl e5_13 (hH13.blk (i := 0) rfl)) ?_
    refine RL.set hH13 (i := 1) rfl (run_stEl rfl e4_13 rfl (hH13.blk (i := 1) rfl)) ?_
    intro w22 hH23
    simp only [List.set_cons_zero, List.set_cons_succ] at hH23
    refine RL.nil ?_
    refine CW.ret ?_
    refine outCg Tryz.results23 e4_13 hH23 (i := 1) rfl Tryz.underlying30 rfl (by rw [elC_size]; rfl) ⟨?_, hH23.below⟩
    (exact congrArg Value.agg (elC_congr (by rw [hr]; exact mix_all ‹_›)))

end Go.Proofs.YtgmdjomdmfcpnaaGreatDoor.W
