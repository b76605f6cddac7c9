/-
  The walks of the functions that the laws of this seat reach, part 3: each returns what its plain counterpart tells, and turns nothing that was there.
-/
import Derived.Test.YtiaifdnlkdcbiaaDoorProg
import Derived.Test.YtiaifdnlkdcbiaaDoorEnv
import Derived.Test.YtiaifdnlkdcbiaaDoorPlain
import Derived.Test.YtiaifdnlkdcbiaaDoorBase
import Derived.Test.YtiaifdnlkdcbiaaDoorOrd
import Derived.Test.YtiaifdnlkdcbiaaDoorRel
import Derived.Test.YtiaifdnlkdcbiaaDoorClo
import Derived.Test.YtiaifdnlkdcbiaaDoorCov
import Derived.Test.YtiaifdnlkdcbiaaDoorArr
import Derived.Test.YtiaifdnlkdcbiaaDoorHas
import Derived.Test.YtiaifdnlkdcbiaaDoorGrd
import Derived.Test.YtiaifdnlkdcbiaaDoorStr
import Derived.Test.YtiaifdnlkdcbiaaDoorVu
import Derived.Test.YtiaifdnlkdcbiaaDoorShp
import Derived.Test.YtiaifdnlkdcbiaaDoorShl
import Derived.Test.YtiaifdnlkdcbiaaDoorShq
import Derived.Test.YtiaifdnlkdcbiaaDoorShr
import Derived.Test.YtiaifdnlkdcbiaaDoorCut
import Derived.Test.YtiaifdnlkdcbiaaDoorRec
import Derived.Test.YtiaifdnlkdcbiaaDoorScp
import Derived.Test.YtiaifdnlkdcbiaaDoorScq
import Derived.Test.YtiaifdnlkdcbiaaDoorScj
import Derived.Test.YtiaifdnlkdcbiaaDoorJdg
import Derived.Test.YtiaifdnlkdcbiaaDoorFlt
import Derived.Test.YtiaifdnlkdcbiaaDoorAdd
import Derived.Test.YtiaifdnlkdcbiaaDoorRgt
import Derived.Test.YtiaifdnlkdcbiaaDoorAlv
import Derived.Test.YtiaifdnlkdcbiaaDoorKee
import Derived.Test.YtiaifdnlkdcbiaaDoorMin
import Derived.Test.YtiaifdnlkdcbiaaDoorScopeKeepsPacesB
namespace Go.Proofs.YtiaifdnlkdcbiaaDoor.W
open Go Go.RowKit Go.Proofs.YtiaifdnlkdcbiaaDoor.E Go.Proofs.YtiaifdnlkdcbiaaDoor.M
set_option linter.unusedVariables false
set_option linter.unusedSimpArgs false
set_option maxRecDepth 100000
open Tryd

theorem c_clearanceref13_Same (a b : Scp) (w : World) (ha : ScpV (Kw w) a) (hb : ScpV (Kw w) b) : Calls Tryd.prog 20 #[.agg (scpC a), .agg (scpC b)] w (Pure (B (sameS2 a b)) w) := by
 have hm1 := ha.lats.small
 have hm2 := ha.vars.small
 unfold maxLen at hm1 hm2
 refine enter Tryd.func20 rfl Tryd.ntmps20 rfl ?_
 have hH := Hp.start w
 refine SR ?_
 refine RL.new rfl hH (f := fun b => (.pointer (some ⟨b, 0, none⟩))) (run_box (v := .agg _) rfl) ?_
 intro b3 w1 hH2
 refine RL.new rfl hH2 (f := fun b => (.pointer (some ⟨b, 0, none⟩))) (run_box (v := .agg _) rfl) ?_
 intro b6 w4 hH5
 refine V (aV (B false) rfl) ?_
 refine RL.nil ?_
 refine CW.seq ?_
 refine SR ?_
 refine V (fA underlying25 0 rfl sizeOf22 rfl) ?_
 refine V (run_ldV (ha.lats.sl.hp hH5) underlying22 rfl rfl (hH5.cell (i := 1) rfl rfl)) ?_
 refine V (run_lenSl (ha.lats.sl.hp hH5) rfl underlying22 rfl) ?_
 refine V (fA underlying25 0 rfl sizeOf22 rfl) ?_
 refine V (run_ldV (hb.lats.sl.hp hH5) underlying22 rfl rfl (hH5.cell (i := 0) rfl rfl)) ?_
 refine V (run_lenSl (hb.lats.sl.hp hH5) rfl underlying22 rfl) ?_
 refine V (run_neq rfl rfl) ?_
 refine V (mV (B _) rfl) ?_
 refine RL.splitP (dj := 14) rfl (fun h8 => ?_) (fun h8 => ?_)
 ·refine RL.gF rfl rfl (bT h8) rfl ?_
  refine RL.gF rfl rfl (bT h8) rfl ?_
  refine RL.gF rfl rfl (bT h8) rfl ?_
  refine RL.gF rfl rfl (bT h8) rfl ?_
  refine RL.gF rfl rfl (bT h8) rfl ?_
  refine RL.gF rfl rfl (bT h8) rfl ?_
  refine RL.gF rfl rfl (bT h8) rfl ?_
  refine V (run_pickT (bT h8) (v := B true) rfl) ?_
  refine RL.nil ?_
  refine CW.condT rfl ?_
  refine SR ?_
  refine V (aV (B false) rfl) ?_
  refine RL.nil ?_
  refine CW.ret ?_
  refine outP1 Tryd.results20 (congrArg B ?_) hH5.below
  first | exact (same_no1 (by omega)).symm | exact (same_no2 h0 ‹k < _› (.inl ‹_›)).symm | exact (same_no2 h0 ‹k < _› (.inr (nt ‹_›))).symm | exact (same_no3 (k := j) (ndT ‹(!decide (a.vars.getD j.toNat var0 = _)) = true›)).symm | exact (same_yes hsz ‹¬ k < _› hg ‹¬ j < _› hv).symm
 ·refine RL.gT rfl (bF h8) ?_
  refine V (fA underlying25 1 rfl sizeOf23 rfl) ?_
  refine RL.gT rfl (bF h8) ?_
  refine V (run_ldV (ha.vars.sl.hp hH5) underlying23 rfl rfl (hH5.cell (i := 1) rfl rfl)) ?_
  refine RL.gT rfl (bF h8) ?_
  refine V (run_lenSl (ha.vars.sl.hp hH5) rfl underlying23 rfl) ?_
  refine RL.gT rfl (bF h8) ?_
  refine V (fA underlying25 1 rfl sizeOf23 rfl) ?_
  refine RL.gT rfl (bF h8) ?_
  refine V (run_ldV (hb.vars.sl.hp hH5) underlying23 rfl rfl (hH5.cell (i := 0) rfl rfl)) ?_
  refine RL.gT rfl (bF h8) ?_
  refine V (run_lenSl (hb.vars.sl.hp hH5) rfl underlying23 rfl) ?_
  refine RL.gT rfl (bF h8) ?_
  refine V (run_neq rfl rfl) ?_
  refine V (run_pickF (bF h8) (v := B _) rfl) ?_
  refine RL.nil ?_
  refine CW.condP rfl (fun h10 => ?_) (fun h10 => ?_)
  ·refine SR ?_
   refine V (aV (B false) rfl) ?_
   refine RL.nil ?_
   refine CW.ret ?_
   refine outP1 Tryd.results20 (congrArg B ?_) hH5.below
   first | exact (same_no1 (by omega)).symm | exact (same_no2 h0 ‹k < _› (.inl ‹_›)).symm | exact (same_no2 h0 ‹k < _› (.inr (nt ‹_›))).symm | exact (same_no3 (k := j) (ndT ‹(!decide (a.vars.getD j.toNat var0 = _)) = true›)).symm | exact (same_yes hsz ‹¬ k < _› hg ‹¬ j < _› hv).symm
  ·refine CW.skip ?_
   refine CW.seq ?_
   refine SR ?_
   refine V (aV (I 0) rfl) ?_
   refine RL.nil ?_
   refine CW.block ?_
   have hsz : a.lats.length = b.lats.length ∧ a.vars.length = b.vars.length := by omega
   refine CW.loop (G := (Int)) (fun (k : Int) s' w' => (Fr [4, 5, 23, 24, 25, 26, 27, 28, 29, 30, 31, 32, 33, 34, 35, 36, 37, 38, 39, 40, 41, 42, 43, 44, 45, 46, 47, 48, 49, 50, 51, 52, 53, 54, 55, 56, 57, 58] _ s') ∧ (Hp w w' _) ∧ (s' 5 = I k) ∧ (0 ≤ k) ∧ (k ≤ a.lats.length) ∧ (∀ j : Int, 0 ≤ j → j < k → (a.lats.getD j.toNat lat0).name = (b.lats.getD j.toNat lat0).name ∧ sameS (a.lats.getD j.toNat lat0).shp.sh (b.lats.getD j.toNat lat0).shp.sh = true)) (fun (k : Int) => (a.lats.length - k).toNat) (0) ⟨Fr.refl _ _, hH5, rfl, (by omega), (by omega), fun j a b => absurd b (by omega)⟩ ?_
   rintro k sg11 w11 ⟨fr11, hH11, e5_11, h0, hk, hg⟩
   have e2_11 : sg11 2 = Pn _ _ := (fr11 2 rfl).trans rfl
   have e3_11 : sg11 3 = Pn _ _ := (fr11 3 rfl).trans rfl
   refine CW.seq ?_
   refine SR ?_
   refine V (run_move e5_11) ?_
   refine V (fA underlying25 0 rfl sizeOf22 e2_11) ?_
   refine V (run_ldV (ha.lats.sl.hp hH11) underlying22 rfl rfl (hH11.cell (i := 1) rfl rfl)) ?_
   refine V (run_lenSl (ha.lats.sl.hp hH11) rfl underlying22 rfl) ?_
   refine V (run_lss rfl rfl) ?_
   refine RL.nil ?_
   refine CW.condP rfl (fun h13 => ?_) (fun h13 => ?_)
   ·refine CW.skip ?_
    refine CW.seq ?_
    refine CW.block ?_
    refine CW.seq ?_
    refine CW.regionD (by kernel_rfl) hH11 ?_
    intro w14 hH15
    refine AT 0 rfl (hH15.sub sR) (fun w hS => fA underlying25 0 rfl sizeOf22 e2_11) ?_
    refine AT 1 rfl (hH15.sub sR) (fun w hS => run_ldV (ha.lats.sl.hp hS) underlying22 rfl rfl (hS.cell (i := 1) rfl rfl)) ?_
    refine AT 2 rfl (hH15.sub sR) (fun w hS => run_move e5_11) ?_
    refine AT 3 rfl (hH15.sub sR) (fun w hS => run_indexAddrS (ha.lats.sl.hp hS) underlying22 sizeOf56 rfl rfl (by omega)) ?_
    refine AT 4 rfl (hH15.sub sR) (fun w hS => fA underlying56 0 rfl sizeOf9 rfl) ?_
    refine AT 5 rfl (hH15.sub sR) (fun w hS => run_ldE1 (dv := lat0) (off := 0) latL_len (ha.lats.sl.hp hS) underlying9 rfl rfl (by omega) rfl) ?_
    refine AT 6 rfl (hH15.sub sR) (fun w hS => fA underlying25 0 rfl sizeOf22 e3_11) ?_
    refine AT 7 rfl (hH15.sub sR) (fun w hS => run_ldV (hb.lats.sl.hp hS) underlying22 rfl rfl (hS.cell (i := 0) rfl rfl)) ?_
    refine AT 8 rfl (hH15.sub sR) (fun w hS => run_move e5_11) ?_
    refine AT 9 rfl (hH15.sub sR) (fun w hS => run_indexAddrS (hb.lats.sl.hp hS) underlying22 sizeOf56 rfl rfl (by omega)) ?_
    refine AT 10 rfl (hH15.sub sR) (fun w hS => fA underlying56 0 rfl sizeOf9 rfl) ?_
    refine AT 11 rfl (hH15.sub sR) (fun w hS => run_ldE1 (dv := lat0) (off := 0) latL_len (hb.lats.sl.hp hS) underlying9 rfl rfl (by omega) rfl) ?_
    refine AT 12 rfl (hH15.sub sR) (fun w hS => run_neqS rfl rfl) ?_
    refine AT 13 rfl (hH15.sub sR) (fun w hS => mV (B _) rfl) ?_
    refine AN.splitP (dj := 43) rfl (fun h17 => ?_) (fun h17 => ?_)
    ·refine AK 14 rfl rfl (bT h17) (hH15.sub sR) ?_
     refine AK 15 rfl rfl (bT h17) (hH15.sub sR) ?_
     refine AK 16 rfl rfl (bT h17) (hH15.sub sR) ?_
     refine AK 17 rfl rfl (bT h17) (hH15.sub sR) ?_
     refine AK 18 rfl rfl (bT h17) (hH15.sub sR) ?_
     refine AK 19 rfl rfl (bT h17) (hH15.sub sR) ?_
     refine AK 20 rfl rfl (bT h17) (hH15.sub sR) ?_
     refine AK 21 rfl rfl (bT h17) (hH15.sub sR) ?_
     refine AK 22 rfl rfl (bT h17) (hH15.sub sR) ?_
     refine AK 23 rfl rfl (bT h17) (hH15.sub sR) ?_
     refine AK 24 rfl rfl (bT h17) (hH15.sub sR) ?_
     refine AK 25 rfl rfl (bT h17) (hH15.sub sR) ?_
     refine AK 26 rfl rfl (bT h17) (hH15.sub sR) ?_
     refine AK 27 rfl rfl (bT h17) (hH15.sub sR) ?_
     refine AT 28 rfl (hH15.sub sR) (fun w hS => run_pickT (bT h17) (v := B true) rfl) ?_
     refine AD ?_
     refine CW.condT rfl ?_
     refine SR ?_
     refine V (aV (B false) rfl) ?_
     refine RL.nil ?_
     refine CW.ret ?_
     refine outP1 Tryd.results20 (congrArg B ?_) hH15.below
     first | exact (same_no1 (by omega)).symm | exact (same_no2 h0 ‹k < _› (.inl ‹_›)).symm | exact (same_no2 h0 ‹k < _› (.inr (nt ‹_›))).symm | exact (same_no3 (k := j) (ndT ‹(!decide (a.vars.getD j.toNat var0 = _)) = true›)).symm | exact (same_yes hsz ‹¬ k < _› hg ‹¬ j < _› hv).symm
    ·refine AG 14 rfl rfl (bF h17) (hH15.sub sR) (fun w hS => fA underlying25 0 rfl sizeOf22 e2_11) ?_
     refine AG 15 rfl rfl (bF h17) (hH15.sub sR) (fun w hS => run_ldV (ha.lats.sl.hp hS) underlying22 rfl rfl (hS.cell (i := 1) rfl rfl)) ?_
     refine AG 16 rfl rfl (bF h17) (hH15.sub sR) (fun w hS => run_move e5_11) ?_
     refine AG 17 rfl rfl (bF h17) (hH15.sub sR) (fun w hS => run_indexAddrS (ha.lats.sl.hp hS) underlying22 sizeOf56 rfl rfl (by omega)) ?_
     refine AG 18 rfl rfl (bF h17) (hH15.sub sR) (fun w hS => fA underlying56 1 rfl sizeOf54 rfl) ?_
     refine AG 19 rfl rfl (bF h17) (hH15.sub sR) (fun w hS => run_ldEA (dv := lat0) (off := 1) (cs := shpL _) latL_len (ha.lats.sl.hp hS) underlying54 rfl rfl rfl (by omega) (lat_shp _)) ?_
     refine AG 20 rfl rfl (bF h17) (hH15.sub sR) (fun w hS => fA underlying25 0 rfl sizeOf22 e3_11) ?_
     refine AG 21 rfl rfl (bF h17) (hH15.sub sR) (fun w hS => run_ldV (hb.lats.sl.hp hS) underlying22 rfl rfl (hS.cell (i := 0) rfl rfl)) ?_
     refine AG 22 rfl rfl (bF h17) (hH15.sub sR) (fun w hS => run_move e5_11) ?_
     refine AG 23 rfl rfl (bF h17) (hH15.sub sR) (fun w hS => run_indexAddrS (hb.lats.sl.hp hS) underlying22 sizeOf56 rfl rfl (by omega)) ?_
     refine AG 24 rfl rfl (bF h17) (hH15.sub sR) (fun w hS => fA underlying56 1 rfl sizeOf54 rfl) ?_
     refine AG 25 rfl rfl (bF h17) (hH15.sub sR) (fun w hS => run_ldEA (dv := lat0) (off := 1) (cs := shpL _) latL_len (hb.lats.sl.hp hS) underlying54 rfl rfl rfl (by omega) (lat_shp _)) ?_
     refine A1 26 ?_
     refine AO.callP rfl (gsome rfl (bF h17)) rfl hH15 sR (c_clearanceref07_Same _ _  _ ((ha.at (by omega) (by omega)).mono hH15.kw) ((hb.at (by omega) (by omega)).mono hH15.kw)) (run_call2 call47 rfl rfl) ?_
     intro w18 hH19
     refine AG 27 rfl rfl (bF h17) (hH19.sub sR) (fun w hS => run_not rfl) ?_
     refine AT 28 rfl (hH19.sub sR) (fun w hS => run_pickF (bF h17) (v := B _) rfl) ?_
     refine AD ?_
     refine CW.cond rfl (fun h22 => ?_) (fun h22 => ?_)
     ·refine SR ?_
      refine V (aV (B false) rfl) ?_
      refine RL.nil ?_
      refine CW.ret ?_
      refine outP1 Tryd.results20 (congrArg B ?_) hH19.below
      first | exact (same_no1 (by omega)).symm | exact (same_no2 h0 ‹k < _› (.inl ‹_›)).symm | exact (same_no2 h0 ‹k < _› (.inr (nt ‹_›))).symm | exact (same_no3 (k := j) (ndT ‹(!decide (a.vars.getD j.toNat var0 = _)) = true›)).symm | exact (same_yes hsz ‹¬ k < _› hg ‹¬ j < _› hv).symm
     ·refine CW.skip ?_
      refine CW.region ?_
      refine V (run_move e5_11) ?_
      refine V (run_add rfl rfl (by omega)) ?_
      refine V (aV (I _) rfl) ?_
      refine RL.nil ?_
      refine ⟨k + 1, ?_, fr11.u4.u4.u4.u4.u4.u4.u4.u4.u4.u1, hH19, (congrArg I (by first | rfl | omega)), ?_, ?_, ?_⟩
      ·((try dsimp only); omega)
      ·omega
      ·omega
      ·exact fun j x y => if e : j = k then e ▸ ⟨Decidable.of_not_not ‹_›, nf ‹_›⟩ else hg j x (by omega)
   ·refine CW.exit (id := 0) rfl ?_
    refine CW.seq ?_
    refine SR ?_
    refine V (aV (I 0) rfl) ?_
    refine RL.nil ?_
    refine CW.block ?_
    refine CW.loop (G := (Int)) (fun (j : Int) s' w' => (Fr [4, 6, 59, 60, 61, 62, 63, 64, 65, 66, 67, 68, 69, 70, 71, 72, 73, 74, 75, 76] _ s') ∧ (Hp w w' _) ∧ (s' 6 = I j) ∧ (0 ≤ j) ∧ (j ≤ a.vars.length) ∧ (∀ i : Int, 0 ≤ i → i < j → a.vars.getD i.toNat var0 = b.vars.getD i.toNat var0)) (fun (j : Int) => (a.vars.length - j).toNat) (0) ⟨Fr.refl _ _, hH11, rfl, (by omega), (by omega), fun j a b => absurd b (by omega)⟩ ?_
    rintro j sg23 w23 ⟨fr23, hH23, e6_23, j0, hj, hv⟩
    have e2_23 := (fr23 2 rfl).trans e2_11
    have e3_23 := (fr23 3 rfl).trans e3_11
    refine CW.seq ?_
    refine SR ?_
    refine V (run_move e6_23) ?_
    refine V (fA underlying25 1 rfl sizeOf23 e2_23) ?_
    refine V (run_ldV (ha.vars.sl.hp hH23) underlying23 rfl rfl (hH23.cell (i := 1) rfl rfl)) ?_
    refine V (run_lenSl (ha.vars.sl.hp hH23) rfl underlying23 rfl) ?_
    refine V (run_lss rfl rfl) ?_
    refine RL.nil ?_
    refine CW.condP rfl (fun h25 => ?_) (fun h25 => ?_)
    ·refine CW.skip ?_
     refine CW.seq ?_
     refine CW.block ?_
     refine CW.seq ?_
     refine CW.regionD (by kernel_rfl) hH23 ?_
     intro w26 hH27
     refine AT 0 rfl (hH27.sub sR) (fun w hS => fA underlying25 1 rfl sizeOf23 e2_23) ?_
     refine AT 1 rfl (hH27.sub sR) (fun w hS => run_ldV (ha.vars.sl.hp hS) underlying23 rfl rfl (hS.cell (i := 1) rfl rfl)) ?_
     refine AT 2 rfl (hH27.sub sR) (fun w hS => run_move e6_23) ?_
     refine AT 3 rfl (hH27.sub sR) (fun w hS => run_indexAddrS (ha.vars.sl.hp hS) underlying23 sizeOf60 rfl rfl (by omega)) ?_
     refine AT 4 rfl (hH27.sub sR) (fun w hS => run_ldE (dv := var0) varL_len (ha.vars.sl.hp hS) underlying60 rfl rfl rfl (by omega)) ?_
     refine AT 5 rfl (hH27.sub sR) (fun w hS => fA underlying25 1 rfl sizeOf23 e3_23) ?_
     refine AT 6 rfl (hH27.sub sR) (fun w hS => run_ldV (hb.vars.sl.hp hS) underlying23 rfl rfl (hS.cell (i := 0) rfl rfl)) ?_
     refine AT 7 rfl (hH27.sub sR) (fun w hS => run_move e6_23) ?_
     refine AT 8 rfl (hH27.sub sR) (fun w hS => run_indexAddrS (hb.vars.sl.hp hS) underlying23 sizeOf60 rfl rfl (by omega)) ?_
     refine AT 9 rfl (hH27.sub sR) (fun w hS => run_ldE (dv := var0) varL_len (hb.vars.sl.hp hS) underlying60 rfl rfl rfl (by omega)) ?_
     refine AT 10 rfl (hH27.sub sR) (fun w hS => run_neqT (eq_var _ _) rfl rfl) ?_
     refine AD ?_
     refine CW.cond rfl (fun h29 => ?_) (fun h29 => ?_)
     ·refine SR ?_
      refine V (aV (B false) rfl) ?_
      refine RL.nil ?_
      refine CW.ret ?_
      refine outP1 Tryd.results20 (congrArg B ?_) hH27.below
      first | exact (same_no1 (by omega)).symm | exact (same_no2 h0 ‹k < _› (.inl ‹_›)).symm | exact (same_no2 h0 ‹k < _› (.inr (nt ‹_›))).symm | exact (same_no3 (k := j) (ndT ‹(!decide (a.vars.getD j.toNat var0 = _)) = true›)).symm | exact (same_yes hsz ‹¬ k < _› hg ‹¬ j < _› hv).symm
     ·refine CW.skip ?_
      refine CW.region ?_
      refine V (run_move e6_23) ?_
      refine V (run_add rfl rfl (by omega)) ?_
      refine V (aV (I _) rfl) ?_
      refine RL.nil ?_
      refine ⟨j + 1, ?_, fr23.u4.u4.u4.u4.u1.u1.u1, hH27, (congrArg I (by first | rfl | omega)), ?_, ?_, ?_⟩
      ·((try dsimp only); omega)
      ·omega
      ·omega
      ·exact fun i x y => if e : i = j then e ▸ ndF ‹(!decide (a.vars.getD j.toNat var0 = _)) = false› else hv i x (by omega)
    ·refine CW.exit (id := 2) rfl ?_
     refine SR ?_
     refine V (aV (B true) rfl) ?_
     refine RL.nil ?_
     refine CW.ret ?_
     refine outP1 Tryd.results20 (congrArg B ?_) hH23.below
     first | exact (same_no1 (by omega)).symm | exact (same_no2 h0 ‹k < _› (.inl ‹_›)).symm | exact (same_no2 h0 ‹k < _› (.inr (nt ‹_›))).symm | exact (same_no3 (k := j) (ndT ‹(!decide (a.vars.getD j.toNat var0 = _)) = true›)).symm | exact (same_yes hsz ‹¬ k < _› hg ‹¬ j < _› hv).symm

theorem c_clearancelaw13_words (v : Value) (l : List Tx) (hl : l.length ≤ 1000) (w : World) (hs : Sl w v 1 l.length (txL l)) : Calls Tryd.prog 25 #[v] w (PureRow 38 2 (wordsTo l l.length).length ((wordsTo l l.length).flatMap wdL) w) := by
 refine enter Tryd.func25 rfl Tryd.ntmps25 rfl ?_
 have hH := Hp.start w
 refine SR ?_
 refine V (aV (.slice none 0 0) rfl) ?_
 refine RL.nil ?_
 refine SR ?_
 refine V (aV (.slice none 0 0) rfl) ?_
 have hH1 := hH.nilRow 38 2
 refine RL.nil ?_
 refine CW.seq ?_
 refine SR ?_
 refine V (run_move (by conv => lhs; whnf)) ?_
 refine V (run_lenSl (hs.hp hH1) rfl underlying75 rfl) ?_
 refine V (mV (I 0) rfl) ?_
 refine RL.nil ?_
 refine CW.block ?_
 refine CW.loop (G := (Int) × (List Wd) × (Value)) (fun (⟨k, m, v3⟩ : (Int) × (List Wd) × (Value)) s' w' => (Fr [3, 4, 5, 8, 9, 10, 11, 12, 13, 14, 15, 16, 17, 18, 19, 20] _ s') ∧ (Hp w w' (.row v3 38 2 (m.length) (m.flatMap wdL) :: _)) ∧ (s' 3 = v3) ∧ (s' 8 = I k) ∧ (0 ≤ k) ∧ (k ≤ l.length) ∧ (m = wordsTo l k) ∧ ((m.length : Int) = k)) (fun (⟨k, m, v3⟩ : (Int) × (List Wd) × (Value)) => (l.length - k).toNat) ((0, [], (.slice none 0 0 : Value))) ⟨Fr.refl _ _, hH1, rfl, rfl, (by omega), (by omega), rfl, rfl⟩ ?_
 rintro ⟨k, m, v3⟩ sg2 w2 ⟨fr2, hH2, e3_2, e8_2, h0, hk, hm, hml⟩
 have e2_2 := (fr2 2 rfl).trans (by conv => lhs; whnf)
 have e6_2 := (fr2 6 rfl).trans (by conv => lhs; whnf)
 have e7_2 : sg2 7 = I _ := (fr2 7 rfl).trans rfl
 refine SR ?_
 refine V (run_lss e8_2 e7_2) ?_
 refine RL.nil ?_
 refine CW.seq ?_
 refine CW.condP rfl (fun h4 => ?_) (fun h4 => ?_)
 ·refine CW.skip ?_
  refine CW.seq ?_
  refine CW.block ?_
  refine SR ?_
  refine V (run_move e8_2) ?_
  refine V (run_indexAddrS (hs.hp hH2) underlying75 sizeOf9 e6_2 e8_2 (by omega)) ?_
  refine V (run_ld underlying9 rfl rfl ((hs.hp hH2).cell _ _ (txL_at (by omega)))) ?_
  refine V (aV (I _) rfl) ?_
  refine V (aV (.string _) rfl) ?_
  refine RL.nil ?_
  refine CW.region ?_
  refine V (run_move e3_2) ?_
  refine V (mV (.string _) rfl) ?_
  refine V (mV (I _) rfl) ?_
  refine V (run_add rfl rfl (by omega)) ?_
  refine V (run_bld (vs := [(0, S _), (1, I _)]) rfl (built_wdL _ _)) ?_
  refine RL.new rfl hH2 (f := fun b => (.slice (some ⟨b, 0, none⟩) 1 1)) (run_mkRecs wdL_len underlying39 rfl rfl rfl (l := [(⟨l.getD k.toNat tx0, 10 + k⟩ : Wd)]) rfl (by decide) (by decide) rfl) ?_
  intro b7 w5 hH6
  refine RL.app rfl hH6 (i := 1) rfl (Hp.slFlat wdL_len hH6 (i := 0) (l := [(⟨l.getD k.toNat tx0, 10 + k⟩ : Wd)]) rfl (by simp [maxLen])) rfl rfl underlying39 rfl rfl (size := 2) (bytes := 24) rfl rfl rfl (by decide) (by simp [wdL, Value.oneCell']) (by simp only [List.length_cons, List.length_nil]; omega) (by simp only [maxLen, List.length_cons, List.length_nil]; omega) ?_
  intro v8 w9 hH10
  simp only [z0, z1] at hH10
  refine V (run_assign (by conv => lhs; whnf)) ?_
  refine RL.nil ?_
  refine CW.region ?_
  refine V (run_add e8_2 rfl (by omega)) ?_
  refine V (mV (I _) rfl) ?_
  refine RL.nil ?_
  refine ⟨(k + 1, m ++ [⟨l.getD k.toNat tx0, 10 + k⟩], v8), ?_, fr2.u4.u4.u4.u4, (Hp.conv (hH10.sub (sQ sR)) (by first | rfl | simp)), rfl, (congrArg I (by first | rfl | omega)), ?_, ?_, ?_, ?_⟩
  ·((try dsimp only); omega)
  ·omega
  ·omega
  ·rw [words_next h0, ← hm]
  ·simp only [List.length_append, List.length_singleton]; omega
 ·refine CW.exit (id := 0) rfl ?_
  refine SR ?_
  refine V (run_move e3_2) ?_
  refine V (run_assign (by conv => lhs; whnf)) ?_
  refine RL.nil ?_
  refine CW.ret ?_
  exact outR Tryd.results25 rfl hH2 (i := 0) rfl (by rw [hm, show k = l.length by omega]) (by rw [hm, show k = l.length by omega])

theorem s_many (n : NodeR) (w : World) (hn : NodeV (Kw w) n) (ih : ∀ x ∈ n.kids, ∀ w, NodeV (Kw w) x → Calls Tryd.prog 54 #[.agg (nodeL x).toArray] w (Ret fun u w' => (∃ k : Int, u = I k) ∧ Below w.heap.size w w')) : Calls Tryd.prog 54 #[.agg (nodeL n).toArray] w (Ret fun u w' => (∃ k : Int, u = I k) ∧ Below w.heap.size w w') := by
 have hm1 := hn.kids_.small
 unfold maxLen at hm1
 refine enter Tryd.func54 rfl Tryd.ntmps54 rfl ?_
 have hH := Hp.start w
 refine SR ?_
 refine RL.new rfl hH (f := fun b => (.pointer (some ⟨b, 0, none⟩))) (run_box (v := .agg _) rfl) ?_
 intro b3 w1 hH2
 refine V (aV (I 0) rfl) ?_
 refine RL.nil ?_
 refine SR ?_
 refine V (fA underlying43 3 rfl sizeOf39 rfl) ?_
 refine V (run_ldV (hn.names_.sl.hp hH2) underlying39 rfl rfl (hH2.cell (i := 0) rfl rfl)) ?_
 refine V (run_lenSl (hn.names_.sl.hp hH2) rfl underlying39 rfl) ?_
 refine V (run_addW rfl rfl) ?_
 refine V (aV (I _) rfl) ?_
 refine RL.nil ?_
 refine CW.seq ?_
 refine SR ?_
 refine V (aV (I 0) rfl) ?_
 refine RL.nil ?_
 refine CW.block ?_
 refine CW.loop (G := (Int) × (Int)) (fun (⟨k, m⟩ : (Int) × (Int)) s' w' => (Fr [3, 4, 9, 10, 11, 12, 13, 14, 15, 16, 17, 18, 19, 20, 21, 22, 23] _ s') ∧ (Hp w w' _) ∧ (s' 3 = I m) ∧ (s' 4 = I k) ∧ (0 ≤ k) ∧ (k ≤ n.kids.length)) (fun (⟨k, m⟩ : (Int) × (Int)) => (n.kids.length - k).toNat) ((0, _)) ⟨Fr.refl _ _, hH2, rfl, rfl, (by omega), (by omega)⟩ ?_
 rintro ⟨k, m⟩ sg4 w4 ⟨fr4, hH4, e3_4, e4_4, h0, hk⟩
 have e1_4 : sg4 1 = Pn _ _ := (fr4 1 rfl).trans rfl
 have e2_4 : sg4 2 = I _ := (fr4 2 rfl).trans rfl
 refine CW.seq ?_
 refine SR ?_
 refine V (run_move e4_4) ?_
 refine V (fA underlying43 4 rfl sizeOf41 e1_4) ?_
 refine V (run_ldV (hn.kids_.sl.hp hH4) underlying41 rfl rfl (hH4.cell (i := 0) rfl rfl)) ?_
 refine V (run_lenSl (hn.kids_.sl.hp hH4) rfl underlying41 rfl) ?_
 refine V (run_lss rfl rfl) ?_
 refine RL.nil ?_
 refine CW.condP rfl (fun h6 => ?_) (fun h6 => ?_)
 ·refine CW.skip ?_
  refine CW.seq ?_
  refine CW.block ?_
  refine CW.region ?_
  refine V (run_move e3_4) ?_
  refine V (fA underlying43 4 rfl sizeOf41 e1_4) ?_
  refine V (run_ldV (hn.kids_.sl.hp hH4) underlying41 rfl rfl (hH4.cell (i := 0) rfl rfl)) ?_
  refine V (run_move e4_4) ?_
  refine V (run_indexAddrS (hn.kids_.sl.hp hH4) underlying41 sizeOf43 rfl rfl (by omega)) ?_
  refine V (run_ldE (dv := node0) nodeL_len (hn.kids_.sl.hp hH4) underlying43 rfl rfl rfl (by omega)) ?_
  refine RL.callT rfl (ih _ (List.mem_of_getElem? (getD_at (d := node0) h0 ‹k < _›)) _ ((hn.mono hH4.kw).at h0 ‹_›)) (run_call1 call54 rfl) ?_
  rintro _ w9 ⟨⟨k12, rfl⟩, hb10⟩
  have hH11 := hH4.call hb10
  refine V (run_addW rfl rfl) ?_
  refine V (aV (I _) rfl) ?_
  refine RL.nil ?_
  refine CW.region ?_
  refine V (run_move e4_4) ?_
  refine V (run_add rfl rfl (by omega)) ?_
  refine V (aV (I _) rfl) ?_
  refine RL.nil ?_
  refine ⟨(k + 1, _), ?_, fr4.u4.u4.u4.u4.u1, hH11, (congrArg I (by first | rfl | omega)), (congrArg I (by first | rfl | omega)), ?_, ?_⟩
  ·((try dsimp only); omega)
  ·omega
  ·omega
 ·refine CW.exit (id := 0) rfl ?_
  refine SR ?_
  refine V (run_move e3_4) ?_
  refine V (aV (I _) rfl) ?_
  refine RL.nil ?_
  refine CW.ret ?_
  exact out1 Tryd.results54 rfl ⟨⟨_, rfl⟩, hH4.below⟩
theorem c_clearanceref10_Many (n : NodeR) : ∀ (w : World) (hn : NodeV (Kw w) n), Calls Tryd.prog 54 #[.agg (nodeL n).toArray] w (Ret fun u w' => (∃ k : Int, u = I k) ∧ Below w.heap.size w w') := node_ind (C := fun n => ∀ (w : World) (hn : NodeV (Kw w) n), Calls Tryd.prog 54 #[.agg (nodeL n).toArray] w (Ret fun u w' => (∃ k : Int, u = I k) ∧ Below w.heap.size w w')) (fun n ih w hn => s_many n w hn ih) n

theorem c_clearancelaw10_Big (v : Value) (l : List NodeR) (w : World) (hs : Sl w v 5 l.length (l.flatMap nodeL)) (hv : NodesV (Kw w) l) : Calls Tryd.prog 26 #[v] w (Ret fun u w' => (∃ b : Bool, u = B b) ∧ Below w.heap.size w w') := by
 have hm := hs.small
 unfold maxLen at hm
 refine enter Tryd.func26 rfl Tryd.ntmps26 rfl ?_
 have hH := Hp.start w
 refine SR ?_
 refine V (aV (B false) rfl) ?_
 refine RL.nil ?_
 refine CW.seq ?_
 refine SR ?_
 refine V (run_move (by conv => lhs; whnf)) ?_
 refine V (run_lenSl (hs.hp hH) rfl underlying41 rfl) ?_
 refine V (mV (I 0) rfl) ?_
 refine RL.nil ?_
 refine CW.block ?_
 refine CW.loop (G := (Int)) (fun (k : Int) s' w' => (Fr [2, 4, 7, 8, 9, 10, 11, 12, 13, 14] _ s') ∧ (Hp w w' _) ∧ (s' 7 = I k) ∧ (0 ≤ k) ∧ (k ≤ l.length)) (fun (k : Int) => (l.length - k).toNat) (0) ⟨Fr.refl _ _, hH, rfl, (by omega), (by omega)⟩ ?_
 rintro k sg1 w1 ⟨fr1, hH1, e7_1, h0, hk⟩
 have e5_1 := (fr1 5 rfl).trans (by conv => lhs; whnf)
 have e6_1 : sg1 6 = I _ := (fr1 6 rfl).trans rfl
 refine SR ?_
 refine V (run_lss e7_1 e6_1) ?_
 refine RL.nil ?_
 refine CW.seq ?_
 refine CW.condP rfl (fun h3 => ?_) (fun h3 => ?_)
 ·refine CW.skip ?_
  refine CW.seq ?_
  refine CW.block ?_
  refine SR ?_
  refine V (run_indexAddrS (hs.hp hH1) underlying41 sizeOf43 e5_1 e7_1 (by omega)) ?_
  refine V (run_ldE (dv := node0) nodeL_len (hs.hp hH1) underlying43 rfl rfl rfl (by omega)) ?_
  refine RL.new rfl hH1 (f := fun b => (.pointer (some ⟨b, 0, none⟩))) (run_alloc Tryd.zeroValue43) ?_
  intro b6 w4 hH5
  refine RL.set hH5 (i := 0) rfl (run_stW (c' := (nodeL _).toArray) rfl rfl rfl (nodeL_one (hv.at (by omega) (by omega))) (hH5.blk (i := 0) rfl) rfl) ?_
  intro w7 hH8
  simp only [z0, z1] at hH8
  refine RL.nil ?_
  refine SR ?_
  refine V (run_ldA (cs := nodeL _) underlying43 rfl rfl rfl (rangeAt_cells (hH8.blk (i := 0) rfl))) ?_
  refine RL.callT rfl (c_clearanceref10_Many _ _ ((hv.mono hH8.kw).at h0 ‹_›)) (run_call1 call54 rfl) ?_
  rintro _ w11 ⟨⟨k14, rfl⟩, hb12⟩
  have hH13 := hH8.call hb12
  refine V (run_gtr rfl rfl) ?_
  refine RL.nil ?_
  refine CW.condP rfl (fun h16 => ?_) (fun h16 => ?_)
  ·refine SR ?_
   refine V (aV (B true) rfl) ?_
   refine RL.nil ?_
   refine CW.ret ?_
   exact out1 Tryd.results26 rfl ⟨⟨_, rfl⟩, hH13.below⟩
  ·refine CW.skip ?_
   refine CW.region ?_
   refine V (run_add e7_1 rfl (by omega)) ?_
   refine V (mV (I _) rfl) ?_
   refine RL.nil ?_
   refine ⟨k + 1, ?_, fr1.u4.u4.u1, (hH13.sub (sQ sR)), (congrArg I (by first | rfl | omega)), ?_, ?_⟩
   ·((try dsimp only); omega)
   ·omega
   ·omega
 ·refine CW.exit (id := 0) rfl ?_
  refine SR ?_
  refine V (aV (B false) rfl) ?_
  refine RL.nil ?_
  refine CW.ret ?_
  exact out1 Tryd.results26 rfl ⟨⟨_, rfl⟩, hH1.below⟩

theorem c_clearancelaw12_Big (c : CmdR) (w : World) (hc : CmdV (Kw w) c) : Calls Tryd.prog 14 #[.agg (cmdL c).toArray] w (Ret fun u w' => (∃ b : Bool, u = B b ∧ (b = false → c.names.length ≤ 100 ∧ c.pairs.length ≤ 100)) ∧ Below w.heap.size w w') := by
 have hm1 := hc.names.sl.small
 have hm2 := hc.pairs.sl.small
 unfold maxLen at hm1 hm2
 refine enter Tryd.func14 rfl Tryd.ntmps14 rfl ?_
 have hH := Hp.start w
 refine SR ?_
 refine RL.new rfl hH (f := fun b => (.pointer (some ⟨b, 0, none⟩))) (run_box (v := .agg _) rfl) ?_
 intro b3 w1 hH2
 refine V (aV (B false) rfl) ?_
 refine RL.nil ?_
 refine CW.seq ?_
 refine SR ?_
 refine V (fA underlying45 4 rfl sizeOf39 rfl) ?_
 refine V (run_ldV (hc.names.sl.hp hH2) underlying39 rfl rfl (hH2.cell (i := 0) rfl rfl)) ?_
 refine V (run_lenSl (hc.names.sl.hp hH2) rfl underlying39 rfl) ?_
 refine V (run_gtr rfl rfl) ?_
 refine V (mV (B _) rfl) ?_
 refine RL.splitP (dj := 7) rfl (fun h5 => ?_) (fun h5 => ?_)
 ·refine RL.gF rfl rfl (bT h5) rfl ?_
  refine RL.gF rfl rfl (bT h5) rfl ?_
  refine RL.gF rfl rfl (bT h5) rfl ?_
  refine RL.gF rfl rfl (bT h5) rfl ?_
  refine V (run_pickT (bT h5) (v := B true) rfl) ?_
  refine V (mV (B _) rfl) ?_
  refine RL.gF rfl rfl rfl rfl ?_
  refine RL.gF rfl rfl rfl rfl ?_
  refine RL.gF rfl rfl rfl rfl ?_
  refine RL.gF rfl rfl rfl rfl ?_
  refine RL.gF rfl rfl rfl rfl ?_
  refine V (run_pickT rfl (v := B true) rfl) ?_
  refine RL.nil ?_
  refine CW.condT rfl ?_
  refine SR ?_
  refine V (aV (B true) rfl) ?_
  refine RL.nil ?_
  refine CW.ret ?_
  exact out1 Tryd.results14 rfl ⟨⟨_, rfl, fun h => by first | (exfalso; cases h; done) | omega⟩, hH2.below⟩
 ·refine RL.gT rfl (bF h5) ?_
  refine V (fA underlying45 5 rfl sizeOf40 rfl) ?_
  refine RL.gT rfl (bF h5) ?_
  refine V (run_ldV (hc.pairs.sl.hp hH2) underlying40 rfl rfl (hH2.cell (i := 0) rfl rfl)) ?_
  refine RL.gT rfl (bF h5) ?_
  refine V (run_lenSl (hc.pairs.sl.hp hH2) rfl underlying40 rfl) ?_
  refine RL.gT rfl (bF h5) ?_
  refine V (run_gtr rfl rfl) ?_
  refine V (run_pickF (bF h5) (v := B _) rfl) ?_
  refine V (mV (B _) rfl) ?_
  refine RL.splitP (dj := 13) rfl (fun h7 => ?_) (fun h7 => ?_)
  ·refine RL.gF rfl rfl (bT h7) rfl ?_
   refine RL.gF rfl rfl (bT h7) rfl ?_
   refine RL.gF rfl rfl (bT h7) rfl ?_
   refine RL.gF rfl rfl (bT h7) rfl ?_
   refine RL.gF rfl rfl (bT h7) rfl ?_
   refine V (run_pickT (bT h7) (v := B true) rfl) ?_
   refine RL.nil ?_
   refine CW.condT rfl ?_
   refine SR ?_
   refine V (aV (B true) rfl) ?_
   refine RL.nil ?_
   refine CW.ret ?_
   exact out1 Tryd.results14 rfl ⟨⟨_, rfl, fun h => by first | (exfalso; cases h; done) | omega⟩, hH2.below⟩
  ·refine RL.gT rfl (bF h7) ?_
   refine V (fA underlying45 2 rfl sizeOf38 rfl) ?_
   refine RL.gT rfl (bF h7) ?_
   refine V (fA underlying38 0 rfl sizeOf9 rfl) ?_
   refine RL.gT rfl (bF h7) ?_
   refine V (run_ld underlying9 rfl rfl (hH2.cell (i := 0) rfl (v := .string _) rfl)) ?_
   refine RL.gT rfl (bF h7) ?_
   refine V (run_lenStr rfl underlying9 rfl) ?_
   refine RL.gT rfl (bF h7) ?_
   refine V (run_gtr rfl rfl) ?_
   refine V (run_pickF (bF h7) (v := B _) rfl) ?_
   refine RL.nil ?_
   refine CW.condP rfl (fun h9 => ?_) (fun h9 => ?_)
   ·refine SR ?_
    refine V (aV (B true) rfl) ?_
    refine RL.nil ?_
    refine CW.ret ?_
    exact out1 Tryd.results14 rfl ⟨⟨_, rfl, fun h => by first | (exfalso; cases h; done) | omega⟩, hH2.below⟩
   ·refine CW.skip ?_
    refine SR ?_
    refine V (fA underlying45 7 rfl sizeOf43 rfl) ?_
    refine V (run_ldSub (sub := nodeL _) underlying43 rfl rfl rfl (hH2.blk (i := 0) rfl) rfl) ?_
    refine V (fA underlying45 12 rfl sizeOf43 rfl) ?_
    refine V (run_ldSub (sub := nodeL _) underlying43 rfl rfl rfl (hH2.blk (i := 0) rfl) rfl) ?_
    refine RL.new rfl hH2 (f := fun b => (.slice (some ⟨b, 0, none⟩) 2 2)) (run_mkRecs nodeL_len underlying41 rfl rfl rfl (l := [c.left, c.right]) rfl (by decide) (by decide) rfl) ?_
    intro b12 w10 hH11
    refine RL.callT rfl (c_clearancelaw10_Big _ [c.left, c.right] _ (Hp.slFlat nodeL_len hH11 (i := 0) (l := [c.left, c.right]) rfl (by simp [maxLen])) ⟨fun x hx => by simp at hx; rcases hx with rfl | rfl <;> first | exact NodeV.mono hH11.kw hc.left | exact NodeV.mono hH11.kw hc.right⟩) (run_call1 call26 rfl) ?_
    rintro _ w15 ⟨⟨b18, rfl⟩, hb16⟩
    have hH17 := hH11.call hb16
    refine V (aV (B _) rfl) ?_
    refine RL.nil ?_
    refine CW.ret ?_
    exact out1 Tryd.results14 rfl ⟨⟨_, rfl, fun h => by first | (exfalso; cases h; done) | omega⟩, hH17.below⟩

theorem c_clearancelaw13_alive  (w : World) (hT : Tab w) : Calls Tryd.prog 8 #[] w (Pure (B true) w) := by
 refine enter Tryd.func8 rfl Tryd.ntmps8 rfl ?_
 have hH := Hp.start w
 refine SR ?_
 refine V (aV (B false) rfl) ?_
 refine RL.nil ?_
 refine SR ?_
 refine V (run_bld (vs := []) rfl built_scp0) ?_
 refine V (run_bld (vs := [(0, .string ⟨#[107]⟩)]) rfl (built_wdLs _)) ?_
 refine RL.new rfl hH (f := fun b => (.slice (some ⟨b, 0, none⟩) 2 2)) (run_mkL underlying75 rfl rfl (sz := 1) (vs := [.string ⟨#[97]⟩, .string ⟨#[98]⟩]) rfl rfl (by decide) (by decide) rfl rfl) ?_
 intro b3 w1 hH2
 (try simp only [List.flatMap_cons, List.flatMap_nil, clI, clB, clS, clP, clL, clA, List.append_nil, List.cons_append, List.nil_append] at hH2)
 refine RL.callR rfl hH2 (c_clearancelaw13_words _ [exA, exB] (by decide) _ (hH2.slBlk (i := 0) (n := 2) (sz := 1) rfl rfl (by decide))) (run_call1 call25 rfl) ?_
 intro v6 w4 hH5
 obtain ⟨Z7, hz8, hv9, -⟩ := hH5.frz ((Kw w))
 have hH10 : Hp _ w4 (_ :: Z7) := hz8.zin0 (L := [_])
 have hc11 : CmdV (Kz (Kw w) Z7) (mkC 1 ⟨exK, 0⟩ v6 (wordsTo [exA, exB] 2)) := mkC_v hv9
 refine V (run_bld (vs := [(0, I 1), (2, .agg (wdL ⟨exK, 0⟩).toArray), (3, v6)]) rfl (built_cmdN (one_slice hv9).2 1 ⟨exK, 0⟩ (wordsTo [exA, exB] 2))) ?_
 refine RL.callF rfl hH10 (c_scope_Add (Kz (Kw w) Z7) scp0 (mkC 1 ⟨exK, 0⟩ v6 (wordsTo [exA, exB] 2)) (al_sm0 _) _ (hH10.kz (Le.refl _) (fun x hx => (mT hx))) (scp0_v _) (hc11.mono (Le.zz (fun x hx => hx))) (hT.hp hH10)) (run_call2 call19 rfl rfl) ?_
 intro v14 w15 Z17 hH16 hp18
 have hH19 : Hp _ w15 (_ :: (Z17 ++ Z7)) := hH16.zin (L := [_]) (L' := Z7)
 obtain ⟨q20, rfl, qsc21, qv22⟩ := hp18
 refine RL.new rfl hH19 (f := fun b => (.pointer (some ⟨b, 0, none⟩))) (run_alloc Tryd.zeroValue25) ?_
 intro b25 w23 hH24
 have hq26 := qv22.mono Le.kk
 refine RL.set hH24 (i := 0) rfl (run_stW (c' := (scpL q20).toArray) rfl rfl rfl (scpL_one hq26) (hH24.blk (i := 0) rfl) rfl) ?_
 intro w27 hH28
 simp only [z0, z1] at hH28
 refine RL.nil ?_
 refine SR ?_
 refine V (run_bld (vs := [(0, .string ⟨#[107]⟩)]) rfl (built_wdLs _)) ?_
 refine RL.new rfl hH28 (f := fun b => (.slice (some ⟨b, 0, none⟩) 1 1)) (run_mkL underlying75 rfl rfl (sz := 1) (vs := [.string ⟨#[120]⟩]) rfl rfl (by decide) (by decide) rfl rfl) ?_
 intro b31 w29 hH30
 (try simp only [List.flatMap_cons, List.flatMap_nil, clI, clB, clS, clP, clL, clA, List.append_nil, List.cons_append, List.nil_append] at hH30)
 refine RL.callR rfl hH30 (c_clearancelaw13_words _ [exX] (by decide) _ (hH30.slBlk (i := 0) (n := 1) (sz := 1) rfl rfl (by decide))) (run_call1 call25 rfl) ?_
 intro v34 w32 hH33
 obtain ⟨Z35, hz36, hv37, -⟩ := hH33.frz ((Kw w))
 have hH38 : Hp _ w32 (_ :: _ :: _ :: (Z35 ++ (Z17 ++ Z7))) := hz36.zin (L := [_, _, _]) (L' := (Z17 ++ Z7))
 have hc39 : CmdV (Kz (Kw w) Z35) (mkC 6 ⟨exK, 0⟩ v34 (wordsTo [exX] 1)) := mkC_v hv37
 refine V (run_bld (vs := [(0, I 6), (2, .agg (wdL ⟨exK, 0⟩).toArray), (3, v34)]) rfl (built_cmdN (one_slice hv37).2 6 ⟨exK, 0⟩ (wordsTo [exX] 1))) ?_
 refine RL.new rfl hH38 (f := fun b => (.pointer (some ⟨b, 0, none⟩))) (run_alloc Tryd.zeroValue45) ?_
 intro b42 w40 hH41
 refine RL.set hH41 (i := 0) rfl (run_stW (c' := (cmdL (mkC 6 ⟨exK, 0⟩ v34 (wordsTo [exX] 1))).toArray) rfl rfl rfl (cmdL_one hc39) (hH41.blk (i := 0) rfl) rfl) ?_
 intro w43 hH44
 simp only [z0, z1] at hH44
 refine RL.nil ?_
 refine SR ?_
 refine V (run_ldA (cs := scpL _) underlying25 rfl rfl rfl (rangeAt_cells (hH44.blk (i := 2) rfl))) ?_
 refine V (run_ldA (cs := cmdL _) underlying45 rfl rfl rfl (rangeAt_cells (hH44.blk (i := 0) rfl))) ?_
 refine RL.callF rfl hH44 (c_scope_Add (Kz (Kw w) (Z35 ++ (Z17 ++ Z7))) q20 (mkC 6 ⟨exK, 0⟩ v34 (wordsTo [exX] 1)) (al_sm (qsc21.trans (al_1 _)) (by decide) _) _ (hH44.kz (Le.refl _) (fun x hx => (mT (mT (mT (mT hx)))))) (hq26.mono (Le.zz (fun x hx => (List.mem_append_right _ hx)))) (hc39.mono (Le.zz (fun x hx => (List.mem_append_left _ hx)))) (hT.hp hH44)) (run_call2 call19 rfl rfl) ?_
 intro v47 w48 Z50 hH49 hp51
 have hH52 : Hp _ w48 (_ :: _ :: _ :: _ :: (Z50 ++ (Z35 ++ (Z17 ++ Z7)))) := hH49.zin (L := [_, _, _, _]) (L' := (Z35 ++ (Z17 ++ Z7)))
 obtain ⟨q53, rfl, qsc54, qv55⟩ := hp51
 refine RL.new rfl hH52 (f := fun b => (.pointer (some ⟨b, 0, none⟩))) (run_alloc Tryd.zeroValue25) ?_
 intro b58 w56 hH57
 have hq59 := qv55.mono Le.kk
 obtain ⟨hl1, hl2, hl3, hl4, hl5⟩ := al_3 (qsc54.trans (al_2 (qsc21.trans (al_1 _)) _)) v34
 refine RL.set hH57 (i := 0) rfl (run_stW (c' := (scpL q53).toArray) rfl rfl rfl (scpL_one hq59) (hH57.blk (i := 0) rfl) rfl) ?_
 intro w60 hH61
 simp only [z0, z1] at hH61
 refine RL.nil ?_
 refine SR ?_
 refine V (run_ldA (cs := scpL _) underlying25 rfl rfl rfl (rangeAt_cells (hH61.blk (i := 0) rfl))) ?_
 refine RL.callP rfl hH61 (c_scope_Find q53 exX _ ((hq59.mono (Le.zz (fun x hx => hx))).mono (hH61.kz (Le.refl _) (fun x hx => (mT (mT (mT (mT (mT hx))))))))) (run_call2 call9 rfl (show _ = Value.string ⟨#[120]⟩ from rfl)) ?_
 intro w62 hH63
 refine V (run_move (by conv => lhs; whnf)) ?_
 refine V (run_extract rfl (v := I _) rfl) ?_
 refine V (run_extract rfl (v := I _) rfl) ?_
 refine V (aV (I _) rfl) ?_
 refine V (aV (I _) rfl) ?_
 refine RL.nil ?_
 refine SR ?_
 refine V (fA underlying25 0 rfl sizeOf22 rfl) ?_
 refine V (run_ldV (hq59.lats.mono (hH63.kz (Le.refl _) (fun x hx => (mT (mT (mT (mT (mT hx)))))))).sl underlying22 rfl rfl (hH63.cell (i := 0) rfl rfl)) ?_
 refine V (run_lenSl (hq59.lats.mono (hH63.kz (Le.refl _) (fun x hx => (mT (mT (mT (mT (mT hx)))))))).sl rfl underlying22 rfl) ?_
 refine V (run_eql rfl rfl) ?_
 refine V (mV (B _) rfl) ?_
 refine RL.gT rfl (bT ((by omega))) ?_
 refine V (mV (I _) rfl) ?_
 refine RL.gT rfl (bT ((by omega))) ?_
 refine V (run_eql rfl rfl) ?_
 refine V (run_pickT (bT ((by omega))) (v := B _) rfl) ?_
 refine V (mV (B _) rfl) ?_
 refine RL.gT rfl (bT ((by rw [hl2]))) ?_
 refine V (mV (I _) rfl) ?_
 refine RL.gT rfl (bT ((by rw [hl2]))) ?_
 refine V (run_eql rfl rfl) ?_
 refine V (run_pickT (bT ((by rw [hl2]))) (v := B _) rfl) ?_
 refine V (mV (B _) rfl) ?_
 refine RL.gT rfl (bT ((by rw [hl3]))) ?_
 refine V (run_ldA (cs := scpL _) underlying25 rfl rfl rfl (rangeAt_cells (hH63.blk (i := 0) rfl))) ?_
 refine RL.gT rfl (bT ((by rw [hl3]))) ?_
 refine V (run_ldA (cs := cmdL _) underlying45 rfl rfl rfl (rangeAt_cells (hH63.blk (i := 1) rfl))) ?_
 refine RL.gT rfl (bT ((by rw [hl3]))) ?_
 refine RL.callP rfl hH63 (c_scope_Fault q53 (mkC 6 ⟨exK, 0⟩ v34 (wordsTo [exX] 1)) (al_sm (qsc54.trans (al_2 (qsc21.trans (al_1 _)) _)) (by decide) _) _ ((hq59.mono (Le.zz (fun x hx => hx))).mono (hH63.kz (Le.refl _) (fun x hx => (mT (mT (mT (mT (mT hx)))))))) ((hc39.mono (Le.zz (fun x hx => (List.mem_append_right _ (List.mem_append_left _ hx))))).mono (hH63.kz (Le.refl _) (fun x hx => (mT (mT (mT (mT (mT hx)))))))) (hT.hp hH63)) (run_call2 call15 rfl rfl) ?_
 intro w67 hH68
 refine RL.gT rfl (bT ((by rw [hl3]))) ?_
 refine V (run_bld (vs := [(0, I 3), (1, I 10)]) rfl (built_fltL _ _)) ?_
 refine RL.gT rfl (bT ((by rw [hl3]))) ?_
 refine V (run_eqlT (eq_flt _ _) rfl rfl) ?_
 refine V (run_pickT (bT ((by rw [hl3]))) (v := B _) rfl) ?_
 refine V (mV (B _) rfl) ?_
 refine RL.gT rfl (bT (hl4)) ?_
 refine V (run_ldA (cs := scpL _) underlying25 rfl rfl rfl (rangeAt_cells (hH68.blk (i := 0) rfl))) ?_
 refine RL.gT rfl (bT (hl4)) ?_
 refine RL.callP rfl hH68 (c_scope_Right q53 _ ((hq59.mono (Le.zz (fun x hx => hx))).mono (hH68.kz (Le.refl _) (fun x hx => (mT (mT (mT (mT (mT hx)))))))) (hT.hp hH68)) (run_call1 call17 rfl) ?_
 intro w70 hH71
 refine V (run_pickT (bT (hl4)) (v := B _) rfl) ?_
 refine V (aV (B _) rfl) ?_
 refine RL.nil ?_
 refine CW.ret ?_
 refine outP1 Tryd.results8 (congrArg B ?_) hH71.below
 first | rfl | exact hl5

theorem c_clearanceref12_texts (v : Value) (l : List Wd) (w : World) (hs : Sl w v 2 l.length (l.flatMap wdL)) : Calls Tryd.prog 40 #[v] w (Pure (B (wordsR l)) w) := by
 have hm := hs.small
 unfold maxLen at hm
 refine enter Tryd.func40 rfl Tryd.ntmps40 rfl ?_
 have hH := Hp.start w
 refine SR ?_
 refine V (aV (B false) rfl) ?_
 refine RL.nil ?_
 refine CW.seq ?_
 refine SR ?_
 refine V (aV (I 0) rfl) ?_
 refine RL.nil ?_
 refine CW.block ?_
 refine CW.loop (G := (Int)) (fun (k : Int) s' w' => (Fr [2, 3, 4, 5, 6, 7, 8, 9, 10, 11, 12, 13, 14, 15, 16] _ s') ∧ (Hp w w' _) ∧ (s' 3 = I k) ∧ (0 ≤ k) ∧ (k ≤ l.length) ∧ (∀ j : Int, 0 ≤ j → j < k → nameR (l.getD j.toNat wd0).text = true)) (fun (k : Int) => (l.length - k).toNat) (0) ⟨Fr.refl _ _, hH, rfl, (by omega), (by omega), fun j a b => absurd b (by omega)⟩ ?_
 rintro k sg1 w1 ⟨fr1, hH1, e3_1, h0, hk, hg⟩
 have e0_1 := (fr1 0 rfl).trans (by conv => lhs; whnf)
 refine CW.seq ?_
 refine SR ?_
 refine V (run_move e3_1) ?_
 refine V (run_move e0_1) ?_
 refine V (run_lenSl (hs.hp hH1) rfl underlying39 rfl) ?_
 refine V (run_lss rfl rfl) ?_
 refine RL.nil ?_
 refine CW.condP rfl (fun h3 => ?_) (fun h3 => ?_)
 ·refine CW.skip ?_
  refine CW.seq ?_
  refine CW.block ?_
  refine SR ?_
  refine V (run_move e0_1) ?_
  refine V (run_move e3_1) ?_
  refine V (run_indexAddrS (hs.hp hH1) underlying39 sizeOf38 rfl rfl (by omega)) ?_
  refine V (fA underlying38 0 rfl sizeOf9 rfl) ?_
  refine V (run_ldE1 (dv := wd0) (off := 0) wdL_len (hs.hp hH1) underlying9 rfl rfl (by omega) rfl) ?_
  refine RL.callP rfl hH1 (c_clearanceref02_Right _  _) (run_call1 call42 rfl) ?_
  intro w4 hH5
  refine V (run_not rfl) ?_
  refine RL.nil ?_
  refine CW.cond rfl (fun h8 => ?_) (fun h8 => ?_)
  ·refine SR ?_
   refine V (aV (B false) rfl) ?_
   refine RL.nil ?_
   refine CW.ret ?_
   refine outP1 Tryd.results40 (congrArg B ?_) hH5.below
   first | exact (all_no (d := wd0) (P := fun x : Wd => nameR x.text) h0 ‹k < _› (nt ‹(!nameR _) = true›)).symm | exact (all_yes (d := wd0) (P := fun x : Wd => nameR x.text) ‹¬ k < _› hg).symm
  ·refine CW.skip ?_
   refine CW.region ?_
   refine V (run_move e3_1) ?_
   refine V (run_add rfl rfl (by omega)) ?_
   refine V (aV (I _) rfl) ?_
   refine RL.nil ?_
   refine ⟨k + 1, ?_, fr1.u4.u4.u4.u1.u1, hH5, (congrArg I (by first | rfl | omega)), ?_, ?_, ?_⟩
   ·((try dsimp only); omega)
   ·omega
   ·omega
   ·exact fun j a b => if e : j = k then e ▸ nf ‹(!nameR _) = false› else hg j a (by omega)
 ·refine CW.exit (id := 0) rfl ?_
  refine SR ?_
  refine V (aV (B true) rfl) ?_
  refine RL.nil ?_
  refine CW.ret ?_
  refine outP1 Tryd.results40 (congrArg B ?_) hH1.below
  first | exact (all_no (d := wd0) (P := fun x : Wd => nameR x.text) h0 ‹k < _› (nt ‹(!nameR _) = true›)).symm | exact (all_yes (d := wd0) (P := fun x : Wd => nameR x.text) ‹¬ k < _› hg).symm

theorem c_clearanceref10_right (v : Value) (l : List Wd) (w : World) (hs : Sl w v 2 l.length (l.flatMap wdL)) : Calls Tryd.prog 73 #[v] w (Pure (B (wordsR l)) w) := by
 have hm := hs.small
 unfold maxLen at hm
 refine enter Tryd.func73 rfl Tryd.ntmps73 rfl ?_
 have hH := Hp.start w
 refine SR ?_
 refine V (aV (B false) rfl) ?_
 refine RL.nil ?_
 refine CW.seq ?_
 refine SR ?_
 refine V (aV (I 0) rfl) ?_
 refine RL.nil ?_
 refine CW.block ?_
 refine CW.loop (G := (Int)) (fun (k : Int) s' w' => (Fr [2, 3, 4, 5, 6, 7, 8, 9, 10, 11, 12, 13, 14, 15, 16] _ s') ∧ (Hp w w' _) ∧ (s' 3 = I k) ∧ (0 ≤ k) ∧ (k ≤ l.length) ∧ (∀ j : Int, 0 ≤ j → j < k → nameR (l.getD j.toNat wd0).text = true)) (fun (k : Int) => (l.length - k).toNat) (0) ⟨Fr.refl _ _, hH, rfl, (by omega), (by omega), fun j a b => absurd b (by omega)⟩ ?_
 rintro k sg1 w1 ⟨fr1, hH1, e3_1, h0, hk, hg⟩
 have e0_1 := (fr1 0 rfl).trans (by conv => lhs; whnf)
 refine CW.seq ?_
 refine SR ?_
 refine V (run_move e3_1) ?_
 refine V (run_move e0_1) ?_
 refine V (run_lenSl (hs.hp hH1) rfl underlying39 rfl) ?_
 refine V (run_lss rfl rfl) ?_
 refine RL.nil ?_
 refine CW.condP rfl (fun h3 => ?_) (fun h3 => ?_)
 ·refine CW.skip ?_
  refine CW.seq ?_
  refine CW.block ?_
  refine SR ?_
  refine V (run_move e0_1) ?_
  refine V (run_move e3_1) ?_
  refine V (run_indexAddrS (hs.hp hH1) underlying39 sizeOf38 rfl rfl (by omega)) ?_
  refine V (fA underlying38 0 rfl sizeOf9 rfl) ?_
  refine V (run_ldE1 (dv := wd0) (off := 0) wdL_len (hs.hp hH1) underlying9 rfl rfl (by omega) rfl) ?_
  refine RL.callP rfl hH1 (c_clearanceref02_Right _  _) (run_call1 call42 rfl) ?_
  intro w4 hH5
  refine V (run_not rfl) ?_
  refine RL.nil ?_
  refine CW.cond rfl (fun h8 => ?_) (fun h8 => ?_)
  ·refine SR ?_
   refine V (aV (B false) rfl) ?_
   refine RL.nil ?_
   refine CW.ret ?_
   refine outP1 Tryd.results73 (congrArg B ?_) hH5.below
   first | exact (all_no (d := wd0) (P := fun x : Wd => nameR x.text) h0 ‹k < _› (nt ‹(!nameR _) = true›)).symm | exact (all_yes (d := wd0) (P := fun x : Wd => nameR x.text) ‹¬ k < _› hg).symm
  ·refine CW.skip ?_
   refine CW.region ?_
   refine V (run_move e3_1) ?_
   refine V (run_add rfl rfl (by omega)) ?_
   refine V (aV (I _) rfl) ?_
   refine RL.nil ?_
   refine ⟨k + 1, ?_, fr1.u4.u4.u4.u1.u1, hH5, (congrArg I (by first | rfl | omega)), ?_, ?_, ?_⟩
   ·((try dsimp only); omega)
   ·omega
   ·omega
   ·exact fun j a b => if e : j = k then e ▸ nf ‹(!nameR _) = false› else hg j a (by omega)
 ·refine CW.exit (id := 0) rfl ?_
  refine SR ?_
  refine V (aV (B true) rfl) ?_
  refine RL.nil ?_
  refine CW.ret ?_
  refine outP1 Tryd.results73 (congrArg B ?_) hH1.below
  first | exact (all_no (d := wd0) (P := fun x : Wd => nameR x.text) h0 ‹k < _› (nt ‹(!nameR _) = true›)).symm | exact (all_yes (d := wd0) (P := fun x : Wd => nameR x.text) ‹¬ k < _› hg).symm

theorem c_clearanceref12_letters (n : Int) (w : World) : Calls Tryd.prog 70 #[I n] w (Pure (S (lettersF n)) w) := by
 refine enter Tryd.func70 rfl Tryd.ntmps70 rfl ?_
 have hH := Hp.start w
 refine SR ?_
 refine V (aV (.string ⟨#[]⟩) rfl) ?_
 refine RL.nil ?_
 refine SR ?_
 refine RL.new rfl hH (f := fun b => (.slice (some ⟨b, 0, none⟩) 16 16)) (run_mkL underlying75 rfl rfl (sz := 1) (vs := [.string ⟨#[]⟩, .string ⟨#[110, 119]⟩, .string ⟨#[110, 119]⟩, .string ⟨#[110, 119]⟩, .string ⟨#[110, 119, 112]⟩, .string ⟨#[110, 119, 112]⟩, .string ⟨#[110, 119]⟩, .string ⟨#[110, 119]⟩, .string ⟨#[110, 116, 116]⟩, .string ⟨#[110, 114, 114]⟩, .string ⟨#[110, 102]⟩, .string ⟨#[]⟩, .string ⟨#[]⟩, .string ⟨#[]⟩, .string ⟨#[]⟩, .string ⟨#[110]⟩]) rfl rfl (by decide) (by decide) rfl rfl) ?_
 intro b3 w1 hH2
 (try simp only [List.flatMap_cons, List.flatMap_nil, clI, clB, clS, clP, clL, clA, List.append_nil, List.cons_append, List.nil_append] at hH2)
 refine V (run_assign (by conv => lhs; whnf)) ?_
 refine RL.nil ?_
 refine CW.seq ?_
 refine SR ?_
 refine V (mV (I _) rfl) ?_
 refine V (run_lss rfl rfl) ?_
 refine V (mV (B _) rfl) ?_
 refine RL.splitP (dj := 7) rfl (fun h5 => ?_) (fun h5 => ?_)
 ·refine RL.gF rfl rfl (bT h5) rfl ?_
  refine RL.gF rfl rfl (bT h5) rfl ?_
  refine RL.gF rfl rfl (bT h5) rfl ?_
  refine RL.gF rfl rfl (bT h5) rfl ?_
  refine V (run_pickT (bT h5) (v := B true) rfl) ?_
  refine RL.nil ?_
  refine CW.condT rfl ?_
  refine SR ?_
  refine V (aV (.string ⟨#[]⟩) rfl) ?_
  refine RL.nil ?_
  refine CW.ret ?_
  refine outP1 Tryd.results70 ?_ hH2.below
  first | exact congrArg S (letters_out (by omega)).symm | exact congrArg S (letters_in (by omega)).symm
 ·refine RL.gT rfl (bF h5) ?_
  refine V (mV (I _) rfl) ?_
  refine RL.gT rfl (bF h5) ?_
  refine V (run_move (by conv => lhs; whnf)) ?_
  refine RL.gT rfl (bF h5) ?_
  refine V (run_lenSl (hH2.slBlk (i := 0) (n := 16) (sz := 1) rfl rfl (by decide)) rfl underlying75 rfl) ?_
  refine RL.gT rfl (bF h5) ?_
  refine V (run_geq rfl rfl) ?_
  refine V (run_pickF (bF h5) (v := B _) rfl) ?_
  refine RL.nil ?_
  refine CW.condP rfl (fun h7 => ?_) (fun h7 => ?_)
  ·refine SR ?_
   refine V (aV (.string ⟨#[]⟩) rfl) ?_
   refine RL.nil ?_
   refine CW.ret ?_
   refine outP1 Tryd.results70 ?_ hH2.below
   first | exact congrArg S (letters_out (by omega)).symm | exact congrArg S (letters_in (by omega)).symm
  ·refine CW.skip ?_
   refine SR ?_
   refine V (run_move (by conv => lhs; whnf)) ?_
   refine V (mV (I _) rfl) ?_
   refine V (run_indexAddrS (hH2.slBlk (i := 0) (n := 16) (sz := 1) rfl rfl (by decide)) underlying75 sizeOf9 rfl rfl (by omega)) ?_
   refine V (run_ld underlying9 rfl rfl ((show Sl _ _ 1 16 (txL lettersL) from (hH2.slBlk (i := 0) (n := 16) (sz := 1) rfl rfl (by decide))).cell _ _ (txL_at ⟨by omega, by show n < (16 : Int); omega⟩))) ?_
   refine V (aV (.string _) rfl) ?_
   refine RL.nil ?_
   refine CW.ret ?_
   refine outP1 Tryd.results70 ?_ hH2.below
   first | exact congrArg S (letters_out (by omega)).symm | exact congrArg S (letters_in (by omega)).symm

theorem c_clearanceref12_Has (n c : Int) (w : World) : Calls Tryd.prog 41 #[I n, .int .u8 c] w (Pure (B (hasF n c)) w) := by
 have hll := letters_le n
 refine enter Tryd.func41 rfl Tryd.ntmps41 rfl ?_
 have hH := Hp.start w
 refine SR ?_
 refine V (aV (B false) rfl) ?_
 refine RL.nil ?_
 refine SR ?_
 refine V (mV (I _) rfl) ?_
 refine RL.callP rfl hH (c_clearanceref12_letters _  _) (run_call1 call70 rfl) ?_
 intro w1 hH2
 refine V (aV (.string _) rfl) ?_
 refine RL.nil ?_
 refine CW.seq ?_
 refine SR ?_
 refine V (aV (I 0) rfl) ?_
 refine RL.nil ?_
 refine CW.block ?_
 refine CW.loop (G := (Int)) (fun (k : Int) s' w' => (Fr [4, 6, 9, 10, 11, 12, 13, 14, 15, 16, 17, 18, 19] _ s') ∧ (Hp w w' _) ∧ (s' 6 = I k) ∧ (0 ≤ k) ∧ (k ≤ (lettersF n).size) ∧ (∀ j : Int, 0 ≤ j → j < k → ¬ byteAt (lettersF n) j = c)) (fun (k : Int) => ((lettersF n).size - k).toNat) (0) ⟨Fr.refl _ _, hH2, rfl, (by omega), (by omega), fun j a b => absurd b (by omega)⟩ ?_
 rintro k sg3 w3 ⟨fr3, hH3, e6_3, h0, hk, hg⟩
 have e1_3 : sg3 1 = .int _ _ := (fr3 1 rfl).trans rfl
 have e5_3 : sg3 5 = .string _ := (fr3 5 rfl).trans rfl
 refine CW.seq ?_
 refine SR ?_
 refine V (run_move e6_3) ?_
 refine V (run_move e5_3) ?_
 refine V (run_lenStr rfl underlying9 rfl) ?_
 refine V (run_lss rfl rfl) ?_
 refine RL.nil ?_
 refine CW.condP rfl (fun h5 => ?_) (fun h5 => ?_)
 ·refine CW.skip ?_
  refine CW.seq ?_
  refine CW.block ?_
  refine SR ?_
  refine V (run_move e5_3) ?_
  refine V (run_move e6_3) ?_
  refine V (run_idxS underlying9 rfl rfl (by omega)) ?_
  refine V (run_move e1_3) ?_
  refine V (run_eql rfl rfl) ?_
  refine RL.nil ?_
  refine CW.condP rfl (fun h7 => ?_) (fun h7 => ?_)
  ·refine SR ?_
   refine V (aV (B true) rfl) ?_
   refine RL.nil ?_
   refine CW.ret ?_
   refine outP1 Tryd.results41 (congrArg B ?_) hH3.below
   first | exact (has_yes h0 ‹k < _› ‹byteAt _ _ = c›).symm | exact (has_no ‹¬ k < _› hg).symm
  ·refine CW.skip ?_
   refine CW.region ?_
   refine V (run_move e6_3) ?_
   refine V (run_add rfl rfl (by omega)) ?_
   refine V (aV (I _) rfl) ?_
   refine RL.nil ?_
   refine ⟨k + 1, ?_, fr3.u4.u4.u4, hH3, (congrArg I (by first | rfl | omega)), ?_, ?_, ?_⟩
   ·((try dsimp only); omega)
   ·omega
   ·omega
   ·exact fun j a b => if e : j = k then e ▸ ‹¬ byteAt _ _ = c› else hg j a (by omega)
 ·refine CW.exit (id := 0) rfl ?_
  refine SR ?_
  refine V (aV (B false) rfl) ?_
  refine RL.nil ?_
  refine CW.ret ?_
  refine outP1 Tryd.results41 (congrArg B ?_) hH3.below
  first | exact (has_yes h0 ‹k < _› ‹byteAt _ _ = c›).symm | exact (has_no ‹¬ k < _› hg).symm

theorem s_all (what : Int) (v : Value) (l : List NodeR) (w : World) (hs : Sl w v 5 l.length (l.flatMap nodeL)) (hv : NodesV (Kw w) l) (ihC : ∀ x ∈ l, ∀ w, NodeV (Kw w) x → Calls Tryd.prog 95 #[.agg (nodeL x).toArray] w (Ret fun u w' => (∃ b : Bool, u = B b) ∧ Below w.heap.size w w')) (ihL : ∀ x ∈ l, ∀ w, NodeV (Kw w) x → Calls Tryd.prog 43 #[.agg (nodeL x).toArray] w (Ret fun u w' => (∃ b : Bool, u = B b) ∧ Below w.heap.size w w')) (ihG : ∀ x ∈ l, ∀ y ∈ x.kids, ∀ w, NodeV (Kw w) y → Calls Tryd.prog 43 #[.agg (nodeL y).toArray] w (Ret fun u w' => (∃ b : Bool, u = B b) ∧ Below w.heap.size w w')) : Calls Tryd.prog 72 #[I what, v] w (Ret fun u w' => (∃ b : Bool, u = B b) ∧ Below w.heap.size w w') := by
 have hm := hs.small
 unfold maxLen at hm
 refine enter Tryd.func72 rfl Tryd.ntmps72 rfl ?_
 have hH := Hp.start w
 refine SR ?_
 refine V (aV (B false) rfl) ?_
 refine RL.nil ?_
 refine CW.seq ?_
 refine SR ?_
 refine V (aV (I 0) rfl) ?_
 refine RL.nil ?_
 refine CW.block ?_
 refine CW.loop (G := (Int)) (fun (k : Int) s' w' => (Fr [4, 5, 6, 7, 8, 9, 10, 11, 12, 13, 14, 15, 16, 17, 18, 19, 20, 21, 22, 23, 24, 25, 26, 27, 28, 29, 30, 31, 32, 33, 34, 35, 36, 37, 38, 39, 40, 41, 42, 43, 44, 45, 46, 47, 48, 49, 50, 51, 52, 53, 54, 55, 56, 57, 58, 59, 60, 61, 62, 63, 64, 65, 66, 67, 68, 69, 70, 71, 72, 73, 74, 75, 76, 77, 78, 79, 80, 81, 82, 83, 84, 85, 86, 87, 88, 89, 90, 91, 92, 93, 94, 95, 96, 97, 98, 99] _ s') ∧ (Hp w w' _) ∧ (s' 5 = I k) ∧ (0 ≤ k) ∧ (k ≤ l.length)) (fun (k : Int) => (l.length - k).toNat) (0) ⟨Fr.refl _ _, hH, rfl, (by omega), (by omega)⟩ ?_
 rintro k sg1 w1 ⟨fr1, hH1, e5_1, h0, hk⟩
 have e0_1 : sg1 0 = I _ := (fr1 0 rfl).trans rfl
 have e1_1 := (fr1 1 rfl).trans (by conv => lhs; whnf)
 refine CW.seq ?_
 refine SR ?_
 refine V (run_move e5_1) ?_
 refine V (run_move e1_1) ?_
 refine V (run_lenSl (hs.hp hH1) rfl underlying41 rfl) ?_
 refine V (run_lss rfl rfl) ?_
 refine RL.nil ?_
 refine CW.condP rfl (fun h3 => ?_) (fun h3 => ?_)
 ·refine CW.skip ?_
  refine CW.seq ?_
  refine CW.block ?_
  refine SR ?_
  refine V (run_move e1_1) ?_
  refine V (run_move e5_1) ?_
  refine V (run_indexAddrS (hs.hp hH1) underlying41 sizeOf43 rfl rfl (by first | omega | (simp only [Int.natCast_eq_zero] at *; omega))) ?_
  refine V (run_ldE (dv := node0) nodeL_len (hs.hp hH1) underlying43 rfl rfl rfl (by first | omega | (simp only [Int.natCast_eq_zero] at *; omega))) ?_
  refine RL.new rfl hH1 (f := fun b => (.pointer (some ⟨b, 0, none⟩))) (run_alloc Tryd.zeroValue43) ?_
  intro b6 w4 hH5
  refine RL.set hH5 (i := 0) rfl (run_stW (c' := (nodeL _).toArray) rfl rfl rfl (nodeL_one (hv.at (by first | omega | (simp only [Int.natCast_eq_zero] at *; omega)) (by first | omega | (simp only [Int.natCast_eq_zero] at *; omega)))) (hH5.blk (i := 0) rfl) rfl) ?_
  intro w7 hH8
  simp only [z0, z1] at hH8
  refine RL.nil ?_
  refine CW.cutG (G := (Bool)) hH8 [7, 18, 19, 20, 21, 22, 23, 24, 25, 26, 27, 28, 29, 30, 31] (fun (L : List Ent) (x7 : (Bool)) => L) (fun (x7 : (Bool)) s' => (s' 7 = B x7)) ?_ ?_
  ·refine CW.region ?_
   refine V (run_move e0_1) ?_
   refine V (run_eql rfl rfl) ?_
   refine V (mV (B _) rfl) ?_
   refine RL.splitP (dj := 20) rfl (fun h10 => ?_) (fun h10 => ?_)
   ·refine RL.gT rfl (bT h10) ?_
    refine V (run_ldA (cs := nodeL _) underlying43 rfl rfl rfl (rangeAt_cells (hH8.blk (i := 0) rfl))) ?_
    refine RL.gT rfl (bT h10) ?_
    refine RL.callT rfl (ihC _ (List.mem_of_getElem? (getD_at (d := node0) h0 ‹k < _›)) _ (NodeV.mono hH8.kw (hv.at h0 ‹_›))) (run_call1 call95 rfl) ?_
    rintro _ w13 ⟨⟨b16, rfl⟩, hb14⟩
    have hH15 := hH8.call hb14
    refine V (run_pickT (bT h10) (v := B _) rfl) ?_
    refine V (mV (B _) rfl) ?_
    refine RL.split (dj := 24) rfl (fun h18 => ?_) (fun h18 => ?_)
    ·refine RL.gF rfl rfl (bR (c := true) h18) rfl ?_
     refine RL.gF rfl rfl (bR (c := true) h18) rfl ?_
     refine RL.gF rfl rfl (bR (c := true) h18) rfl ?_
     refine RL.gU rfl rfl rfl ?_
     refine RL.gU rfl rfl rfl ?_
     refine RL.gF rfl rfl (bR (c := true) h18) rfl ?_
     refine V (run_pickT (bR (c := true) h18) (v := B true) rfl) ?_
     refine V (aV (B _) rfl) ?_
     refine RL.nil ?_
     refine ⟨((Fr.refl _ _)).u4.u4.u4.u1.u1.u1, _, hH15, rfl⟩
    ·refine RL.gT rfl (bR (c := false) h18) ?_
     refine V (run_move e0_1) ?_
     refine RL.gT rfl (bR (c := false) h18) ?_
     refine V (run_eql rfl rfl) ?_
     refine RL.gT rfl (bR (c := false) h18) ?_
     refine V (mV (B _) rfl) ?_
     refine RL.splitP (dj := 27) rfl (fun h20 => ?_) (fun h20 => ?_)
     ·refine RL.gT rfl (bT h20) ?_
      refine V (run_ldA (cs := nodeL _) underlying43 rfl rfl rfl (rangeAt_cells (hH15.blk (i := 0) rfl))) ?_
      refine RL.gT rfl (bT h20) ?_
      refine RL.callT rfl (ihL _ (List.mem_of_getElem? (getD_at (d := node0) h0 ‹k < _›)) _ (NodeV.mono hH15.kw (hv.at h0 ‹_›))) (run_call1 call43 rfl) ?_
      rintro _ w23 ⟨⟨b26, rfl⟩, hb24⟩
      have hH25 := hH15.call hb24
      refine RL.gT rfl (bR (c := false) h18) ?_
      refine V (run_pickT (bT h20) (v := B _) rfl) ?_
      refine V (run_pickF (bR (c := false) h18) (v := B _) rfl) ?_
      refine V (aV (B _) rfl) ?_
      refine RL.nil ?_
      refine ⟨((Fr.refl _ _)).u4.u4.u4.u1.u1.u1, _, hH25, rfl⟩
     ·refine RL.gF rfl rfl (bF h20) rfl ?_
      refine RL.gF rfl rfl (bF h20) rfl ?_
      refine RL.gT rfl (bR (c := false) h18) ?_
      refine V (run_pickF (bF h20) (v := B false) rfl) ?_
      refine V (run_pickF (bR (c := false) h18) (v := B _) rfl) ?_
      refine V (aV (B _) rfl) ?_
      refine RL.nil ?_
      refine ⟨((Fr.refl _ _)).u4.u4.u4.u1.u1.u1, _, hH15, rfl⟩
   ·refine RL.gF rfl rfl (bF h10) rfl ?_
    refine RL.gF rfl rfl (bF h10) rfl ?_
    refine V (run_pickF (bF h10) (v := B false) rfl) ?_
    refine V (mV (B _) rfl) ?_
    refine RL.gT rfl rfl ?_
    refine V (run_move e0_1) ?_
    refine RL.gT rfl rfl ?_
    refine V (run_eql rfl rfl) ?_
    refine RL.gT rfl rfl ?_
    refine V (mV (B _) rfl) ?_
    refine RL.splitP (dj := 27) rfl (fun h29 => ?_) (fun h29 => ?_)
    ·refine RL.gT rfl (bT h29) ?_
     refine V (run_ldA (cs := nodeL _) underlying43 rfl rfl rfl (rangeAt_cells (hH8.blk (i := 0) rfl))) ?_
     refine RL.gT rfl (bT h29) ?_
     refine RL.callT rfl (ihL _ (List.mem_of_getElem? (getD_at (d := node0) h0 ‹k < _›)) _ (NodeV.mono hH8.kw (hv.at h0 ‹_›))) (run_call1 call43 rfl) ?_
     rintro _ w32 ⟨⟨b35, rfl⟩, hb33⟩
     have hH34 := hH8.call hb33
     refine RL.gT rfl rfl ?_
     refine V (run_pickT (bT h29) (v := B _) rfl) ?_
     refine V (run_pickF rfl (v := B _) rfl) ?_
     refine V (aV (B _) rfl) ?_
     refine RL.nil ?_
     refine ⟨((Fr.refl _ _)).u4.u4.u4.u1.u1.u1, _, hH34, rfl⟩
    ·refine RL.gF rfl rfl (bF h29) rfl ?_
     refine RL.gF rfl rfl (bF h29) rfl ?_
     refine RL.gT rfl rfl ?_
     refine V (run_pickF (bF h29) (v := B false) rfl) ?_
     refine V (run_pickF rfl (v := B _) rfl) ?_
     refine V (aV (B _) rfl) ?_
     refine RL.nil ?_
     refine ⟨((Fr.refl _ _)).u4.u4.u4.u1.u1.u1, _, hH8, rfl⟩
  ·rintro x7 sg37 w37 fr37 hH37 e7_37
   have e0_37 := (fr37 0 rfl).trans e0_1
   have e1_37 := (fr37 1 rfl).trans e1_1
   have e5_37 := (fr37 5 rfl).trans e5_1
   have e6_37 : sg37 6 = Pn _ _ := (fr37 6 rfl).trans rfl
   have e8_37 : sg37 8 = I _ := (fr37 8 rfl).trans rfl
   have e9_37 := (fr37 9 rfl).trans (by conv => lhs; whnf)
   have e10_37 : sg37 10 = I _ := (fr37 10 rfl).trans rfl
   have e11_37 : sg37 11 = B _ := (fr37 11 rfl).trans rfl
   have e14_37 := (fr37 14 rfl).trans (by conv => lhs; whnf)
   have e15_37 : sg37 15 = I _ := (fr37 15 rfl).trans rfl
   have e16_37 : sg37 16 = Pn _ _ := (fr37 16 rfl).trans rfl
   have e17_37 : sg37 17 = .agg _ := (fr37 17 rfl).trans rfl
   refine CW.cutG (G := (Bool)) hH37 [7, 32, 33, 34, 35, 36, 37, 38, 39, 40, 41, 42, 43, 44, 45, 46, 47, 48, 49, 50, 51, 52] (fun (L : List Ent) (x7 : (Bool)) => L) (fun (x7 : (Bool)) s' => (s' 7 = B x7)) ?_ ?_
   ·refine SR ?_
    refine V (run_move e0_37) ?_
    refine V (run_eql rfl rfl) ?_
    refine RL.nil ?_
    refine CW.condP rfl (fun h40 => ?_) (fun h40 => ?_)
    ·refine CW.region ?_
     refine V (fA underlying43 0 rfl sizeOf3 e6_37) ?_
     refine V (run_ld underlying3 rfl rfl (hH37.cell (i := 0) rfl (v := I _) rfl)) ?_
     refine V (run_eql rfl rfl) ?_
     refine V (mV (B _) rfl) ?_
     refine RL.splitP (dj := 37) rfl (fun h42 => ?_) (fun h42 => ?_)
     ·refine RL.gT rfl (bT h42) ?_
      refine V (fA underlying43 2 rfl sizeOf9 e6_37) ?_
      refine RL.gT rfl (bT h42) ?_
      refine V (run_ld underlying9 rfl rfl (hH37.cell (i := 0) rfl (v := .string _) rfl)) ?_
      refine RL.gT rfl (bT h42) ?_
      refine RL.callP rfl hH37 (c_clearanceref02_Right _  _) (run_call1 call42 rfl) ?_
      intro w43 hH44
      refine V (run_pickT (bT h42) (v := B _) rfl) ?_
      refine V (mV (B _) rfl) ?_
      refine RL.split (dj := 42) rfl (fun h46 => ?_) (fun h46 => ?_)
      ·refine RL.gT rfl (bR (c := true) h46) ?_
       refine V (fA underlying43 3 rfl sizeOf39 e6_37) ?_
       refine RL.gT rfl (bR (c := true) h46) ?_
       refine V (run_ldV ((hv.at (by first | omega | (simp only [Int.natCast_eq_zero] at *; omega)) (by first | omega | (simp only [Int.natCast_eq_zero] at *; omega))).names_.sl.hp hH44) underlying39 rfl rfl (hH44.cell (i := 0) rfl rfl)) ?_
       refine RL.gT rfl (bR (c := true) h46) ?_
       refine RL.callP rfl hH44 (c_clearanceref10_right _ _  _ ((hv.at (by first | omega | (simp only [Int.natCast_eq_zero] at *; omega)) (by first | omega | (simp only [Int.natCast_eq_zero] at *; omega))).names_.sl.hp hH44)) (run_call1 call73 rfl) ?_
       intro w47 hH48
       refine V (run_pickT (bR (c := true) h46) (v := B _) rfl) ?_
       refine V (mV (B _) rfl) ?_
       refine RL.split (dj := 47) rfl (fun h50 => ?_) (fun h50 => ?_)
       ·refine RL.gT rfl (bR (c := true) h50) ?_
        refine V (fA underlying43 4 rfl sizeOf41 e6_37) ?_
        refine RL.gT rfl (bR (c := true) h50) ?_
        refine V (run_ldV ((hv.at (by first | omega | (simp only [Int.natCast_eq_zero] at *; omega)) (by first | omega | (simp only [Int.natCast_eq_zero] at *; omega))).kids_.sl.hp hH48) underlying41 rfl rfl (hH48.cell (i := 0) rfl rfl)) ?_
        refine RL.gT rfl (bR (c := true) h50) ?_
        refine V (run_lenSl ((hv.at (by first | omega | (simp only [Int.natCast_eq_zero] at *; omega)) (by first | omega | (simp only [Int.natCast_eq_zero] at *; omega))).kids_.sl.hp hH48) rfl underlying41 rfl) ?_
        refine RL.gT rfl (bR (c := true) h50) ?_
        refine V (run_eql rfl rfl) ?_
        refine V (run_pickT (bR (c := true) h50) (v := B _) rfl) ?_
        refine V (aV (B _) rfl) ?_
        refine RL.nil ?_
        refine ⟨((Fr.refl _ _)).u4.u4.u4.u4.u4.u1.u1, _, hH48, rfl⟩
       ·refine RL.gF rfl rfl (bR (c := false) h50) rfl ?_
        refine RL.gF rfl rfl (bR (c := false) h50) rfl ?_
        refine RL.gF rfl rfl (bR (c := false) h50) rfl ?_
        refine RL.gF rfl rfl (bR (c := false) h50) rfl ?_
        refine V (run_pickF (bR (c := false) h50) (v := B false) rfl) ?_
        refine V (aV (B _) rfl) ?_
        refine RL.nil ?_
        refine ⟨((Fr.refl _ _)).u4.u4.u4.u4.u4.u1.u1, _, hH48, rfl⟩
      ·refine RL.gF rfl rfl (bR (c := false) h46) rfl ?_
       refine RL.gF rfl rfl (bR (c := false) h46) rfl ?_
       refine RL.gF rfl rfl (bR (c := false) h46) rfl ?_
       refine V (run_pickF (bR (c := false) h46) (v := B false) rfl) ?_
       refine V (mV (B _) rfl) ?_
       refine RL.gF rfl rfl rfl rfl ?_
       refine RL.gF rfl rfl rfl rfl ?_
       refine RL.gF rfl rfl rfl rfl ?_
       refine RL.gF rfl rfl rfl rfl ?_
       refine V (run_pickF rfl (v := B false) rfl) ?_
       refine V (aV (B _) rfl) ?_
       refine RL.nil ?_
       refine ⟨((Fr.refl _ _)).u4.u4.u4.u4.u4.u1.u1, _, hH44, rfl⟩
     ·refine RL.gF rfl rfl (bF h42) rfl ?_
      refine RL.gF rfl rfl (bF h42) rfl ?_
      refine RL.gF rfl rfl (bF h42) rfl ?_
      refine V (run_pickF (bF h42) (v := B false) rfl) ?_
      refine V (mV (B _) rfl) ?_
      refine RL.gF rfl rfl rfl rfl ?_
      refine RL.gF rfl rfl rfl rfl ?_
      refine RL.gF rfl rfl rfl rfl ?_
      refine V (run_pickF rfl (v := B false) rfl) ?_
      refine V (mV (B _) rfl) ?_
      refine RL.gF rfl rfl rfl rfl ?_
      refine RL.gF rfl rfl rfl rfl ?_
      refine RL.gF rfl rfl rfl rfl ?_
      refine RL.gF rfl rfl rfl rfl ?_
      refine V (run_pickF rfl (v := B false) rfl) ?_
      refine V (aV (B _) rfl) ?_
      refine RL.nil ?_
      refine ⟨((Fr.refl _ _)).u4.u4.u4.u4.u4.u1.u1, _, hH37, rfl⟩
    ·refine CW.skip ?_
     refine ⟨((Fr.refl _ _)).u1.u1, _, hH37, (Eq.trans e7_37 rfl)⟩
   ·rintro x7 sg52 w52 fr52 hH52 e7_52
    have e0_52 := (fr52 0 rfl).trans e0_37
    have e1_52 := (fr52 1 rfl).trans e1_37
    have e5_52 := (fr52 5 rfl).trans e5_37
    have e6_52 := (fr52 6 rfl).trans e6_37
    have e8_52 := (fr52 8 rfl).trans e8_37
    have e9_52 := (fr52 9 rfl).trans e9_37
    have e10_52 := (fr52 10 rfl).trans e10_37
    have e11_52 := (fr52 11 rfl).trans e11_37
    have e14_52 := (fr52 14 rfl).trans e14_37
    have e15_52 := (fr52 15 rfl).trans e15_37
    have e16_52 := (fr52 16 rfl).trans e16_37
    have e17_52 := (fr52 17 rfl).trans e17_37
    refine CW.cutG (G := (Bool)) hH52 [7, 53, 54, 55, 56, 57, 58, 59, 60, 61, 62, 63, 64, 65, 66, 67, 68, 69, 70, 71, 72, 73, 74, 75, 76, 77, 78, 79, 80, 81, 82, 83, 84, 85, 86, 87, 88, 89, 90, 91, 92, 93, 94, 95, 96, 97] (fun (L : List Ent) (x7 : (Bool)) => L) (fun (x7 : (Bool)) s' => (s' 7 = B x7)) ?_ ?_
    ·refine SR ?_
     refine V (run_move e0_52) ?_
     refine V (run_eql rfl rfl) ?_
     refine RL.nil ?_
     refine CW.condP rfl (fun h55 => ?_) (fun h55 => ?_)
     ·refine CW.region ?_
      refine V (fA underlying43 0 rfl sizeOf3 e6_52) ?_
      refine V (run_ld underlying3 rfl rfl (hH52.cell (i := 0) rfl (v := I _) rfl)) ?_
      refine V (run_eql rfl rfl) ?_
      refine V (mV (B _) rfl) ?_
      refine RL.splitP (dj := 58) rfl (fun h57 => ?_) (fun h57 => ?_)
      ·refine RL.gT rfl (bT h57) ?_
       refine V (fA underlying43 2 rfl sizeOf9 e6_52) ?_
       refine RL.gT rfl (bT h57) ?_
       refine V (run_ld underlying9 rfl rfl (hH52.cell (i := 0) rfl (v := .string _) rfl)) ?_
       refine RL.gT rfl (bT h57) ?_
       refine RL.callP rfl hH52 (c_clearanceref02_Right _  _) (run_call1 call42 rfl) ?_
       intro w58 hH59
       refine V (run_pickT (bT h57) (v := B _) rfl) ?_
       refine V (mV (B _) rfl) ?_
       refine RL.split (dj := 63) rfl (fun h61 => ?_) (fun h61 => ?_)
       ·refine RL.gT rfl (bR (c := true) h61) ?_
        refine V (fA underlying43 3 rfl sizeOf39 e6_52) ?_
        refine RL.gT rfl (bR (c := true) h61) ?_
        refine V (run_ldV ((hv.at (by first | omega | (simp only [Int.natCast_eq_zero] at *; omega)) (by first | omega | (simp only [Int.natCast_eq_zero] at *; omega))).names_.sl.hp hH59) underlying39 rfl rfl (hH59.cell (i := 0) rfl rfl)) ?_
        refine RL.gT rfl (bR (c := true) h61) ?_
        refine V (run_lenSl ((hv.at (by first | omega | (simp only [Int.natCast_eq_zero] at *; omega)) (by first | omega | (simp only [Int.natCast_eq_zero] at *; omega))).names_.sl.hp hH59) rfl underlying39 rfl) ?_
        refine RL.gT rfl (bR (c := true) h61) ?_
        refine V (run_eql rfl rfl) ?_
        refine V (run_pickT (bR (c := true) h61) (v := B _) rfl) ?_
        refine V (mV (B _) rfl) ?_
        refine RL.splitP (dj := 69) rfl (fun h63 => ?_) (fun h63 => ?_)
        ·refine RL.gT rfl (bT h63) ?_
         refine V (fA underlying43 4 rfl sizeOf41 e6_52) ?_
         refine RL.gT rfl (bT h63) ?_
         refine V (run_ldV ((hv.at (by first | omega | (simp only [Int.natCast_eq_zero] at *; omega)) (by first | omega | (simp only [Int.natCast_eq_zero] at *; omega))).kids_.sl.hp hH59) underlying41 rfl rfl (hH59.cell (i := 0) rfl rfl)) ?_
         refine RL.gT rfl (bT h63) ?_
         refine V (run_lenSl ((hv.at (by first | omega | (simp only [Int.natCast_eq_zero] at *; omega)) (by first | omega | (simp only [Int.natCast_eq_zero] at *; omega))).kids_.sl.hp hH59) rfl underlying41 rfl) ?_
         refine RL.gT rfl (bT h63) ?_
         refine V (run_eql rfl rfl) ?_
         refine V (run_pickT (bT h63) (v := B _) rfl) ?_
         refine V (mV (B _) rfl) ?_
         refine RL.splitP (dj := 75) rfl (fun h65 => ?_) (fun h65 => ?_)
         ·refine RL.gT rfl (bT h65) ?_
          refine V (fA underlying43 4 rfl sizeOf41 e6_52) ?_
          refine RL.gT rfl (bT h65) ?_
          refine V (run_ldV ((hv.at (by first | omega | (simp only [Int.natCast_eq_zero] at *; omega)) (by first | omega | (simp only [Int.natCast_eq_zero] at *; omega))).kids_.sl.hp hH59) underlying41 rfl rfl (hH59.cell (i := 0) rfl rfl)) ?_
          refine RL.gT rfl (bT h65) ?_
          refine V (run_indexAddrS ((hv.at (by first | omega | (simp only [Int.natCast_eq_zero] at *; omega)) (by first | omega | (simp only [Int.natCast_eq_zero] at *; omega))).kids_.sl.hp hH59) underlying41 sizeOf43 rfl rfl (by first | omega | (simp only [Int.natCast_eq_zero] at *; omega))) ?_
          refine RL.gT rfl (bT h65) ?_
          refine V (run_ldE (dv := node0) nodeL_len ((hv.at (by first | omega | (simp only [Int.natCast_eq_zero] at *; omega)) (by first | omega | (simp only [Int.natCast_eq_zero] at *; omega))).kids_.sl.hp hH59) underlying43 rfl rfl rfl (by first | omega | (simp only [Int.natCast_eq_zero] at *; omega))) ?_
          refine RL.gT rfl (bT h65) ?_
          refine RL.callT rfl (ihG _ (List.mem_of_getElem? (getD_at (d := node0) h0 ‹k < _›)) _ (List.mem_of_getElem? (getD_at (d := node0) (i := 0) (by omega) (by omega))) _ (NodeV.mono hH59.kw ((hv.at h0 ‹_›).at (by omega) (by omega)))) (run_call1 call43 rfl) ?_
          rintro _ w68 ⟨⟨b71, rfl⟩, hb69⟩
          have hH70 := hH59.call hb69
          refine V (run_pickT (bT h65) (v := B _) rfl) ?_
          refine V (mV (B _) rfl) ?_
          refine RL.split (dj := 82) rfl (fun h73 => ?_) (fun h73 => ?_)
          ·refine RL.gT rfl (bR (c := true) h73) ?_
           refine V (fA underlying43 4 rfl sizeOf41 e6_52) ?_
           refine RL.gT rfl (bR (c := true) h73) ?_
           refine V (run_ldV ((hv.at (by first | omega | (simp only [Int.natCast_eq_zero] at *; omega)) (by first | omega | (simp only [Int.natCast_eq_zero] at *; omega))).kids_.sl.hp hH70) underlying41 rfl rfl (hH70.cell (i := 0) rfl rfl)) ?_
           refine RL.gT rfl (bR (c := true) h73) ?_
           refine V (run_indexAddrS ((hv.at (by first | omega | (simp only [Int.natCast_eq_zero] at *; omega)) (by first | omega | (simp only [Int.natCast_eq_zero] at *; omega))).kids_.sl.hp hH70) underlying41 sizeOf43 rfl rfl (by first | omega | (simp only [Int.natCast_eq_zero] at *; omega))) ?_
           refine RL.gT rfl (bR (c := true) h73) ?_
           refine V (fA underlying43 0 rfl sizeOf3 rfl) ?_
           refine RL.gT rfl (bR (c := true) h73) ?_
           refine V (run_ldE1 (dv := node0) (off := 0) nodeL_len ((hv.at (by first | omega | (simp only [Int.natCast_eq_zero] at *; omega)) (by first | omega | (simp only [Int.natCast_eq_zero] at *; omega))).kids_.sl.hp hH70) underlying3 rfl rfl (by first | omega | (simp only [Int.natCast_eq_zero] at *; omega)) rfl) ?_
           refine RL.gT rfl (bR (c := true) h73) ?_
           refine V (run_neq rfl rfl) ?_
           refine V (run_pickT (bR (c := true) h73) (v := B _) rfl) ?_
           refine V (mV (B _) rfl) ?_
           refine RL.splitP (dj := 90) rfl (fun h75 => ?_) (fun h75 => ?_)
           ·refine RL.gT rfl (bT h75) ?_
            refine V (fA underlying43 4 rfl sizeOf41 e6_52) ?_
            refine RL.gT rfl (bT h75) ?_
            refine V (run_ldV ((hv.at (by first | omega | (simp only [Int.natCast_eq_zero] at *; omega)) (by first | omega | (simp only [Int.natCast_eq_zero] at *; omega))).kids_.sl.hp hH70) underlying41 rfl rfl (hH70.cell (i := 0) rfl rfl)) ?_
            refine RL.gT rfl (bT h75) ?_
            refine V (run_indexAddrS ((hv.at (by first | omega | (simp only [Int.natCast_eq_zero] at *; omega)) (by first | omega | (simp only [Int.natCast_eq_zero] at *; omega))).kids_.sl.hp hH70) underlying41 sizeOf43 rfl rfl (by first | omega | (simp only [Int.natCast_eq_zero] at *; omega))) ?_
            refine RL.gT rfl (bT h75) ?_
            refine V (fA underlying43 0 rfl sizeOf3 rfl) ?_
            refine RL.gT rfl (bT h75) ?_
            refine V (run_ldE1 (dv := node0) (off := 0) nodeL_len ((hv.at (by first | omega | (simp only [Int.natCast_eq_zero] at *; omega)) (by first | omega | (simp only [Int.natCast_eq_zero] at *; omega))).kids_.sl.hp hH70) underlying3 rfl rfl (by first | omega | (simp only [Int.natCast_eq_zero] at *; omega)) rfl) ?_
            refine RL.gT rfl (bT h75) ?_
            refine V (run_neq rfl rfl) ?_
            refine V (run_pickT (bT h75) (v := B _) rfl) ?_
            refine V (aV (B _) rfl) ?_
            refine RL.nil ?_
            refine ⟨((Fr.refl _ _)).u4.u4.u4.u4.u4.u4.u4.u4.u4.u4.u4.u1.u1, _, hH70, rfl⟩
           ·refine RL.gF rfl rfl (bF h75) rfl ?_
            refine RL.gF rfl rfl (bF h75) rfl ?_
            refine RL.gF rfl rfl (bF h75) rfl ?_
            refine RL.gF rfl rfl (bF h75) rfl ?_
            refine RL.gF rfl rfl (bF h75) rfl ?_
            refine RL.gF rfl rfl (bF h75) rfl ?_
            refine V (run_pickF (bF h75) (v := B false) rfl) ?_
            refine V (aV (B _) rfl) ?_
            refine RL.nil ?_
            refine ⟨((Fr.refl _ _)).u4.u4.u4.u4.u4.u4.u4.u4.u4.u4.u4.u1.u1, _, hH70, rfl⟩
          ·refine RL.gF rfl rfl (bR (c := false) h73) rfl ?_
           refine RL.gF rfl rfl (bR (c := false) h73) rfl ?_
           refine RL.gF rfl rfl (bR (c := false) h73) rfl ?_
           refine RL.gF rfl rfl (bR (c := false) h73) rfl ?_
           refine RL.gF rfl rfl (bR (c := false) h73) rfl ?_
           refine RL.gF rfl rfl (bR (c := false) h73) rfl ?_
           refine V (run_pickF (bR (c := false) h73) (v := B false) rfl) ?_
           refine V (mV (B _) rfl) ?_
           refine RL.gF rfl rfl rfl rfl ?_
           refine RL.gF rfl rfl rfl rfl ?_
           refine RL.gF rfl rfl rfl rfl ?_
           refine RL.gF rfl rfl rfl rfl ?_
           refine RL.gF rfl rfl rfl rfl ?_
           refine RL.gF rfl rfl rfl rfl ?_
           refine V (run_pickF rfl (v := B false) rfl) ?_
           refine V (aV (B _) rfl) ?_
           refine RL.nil ?_
           refine ⟨((Fr.refl _ _)).u4.u4.u4.u4.u4.u4.u4.u4.u4.u4.u4.u1.u1, _, hH70, rfl⟩
         ·refine RL.gF rfl rfl (bF h65) rfl ?_
          refine RL.gF rfl rfl (bF h65) rfl ?_
          refine RL.gF rfl rfl (bF h65) rfl ?_
          refine RL.gF rfl rfl (bF h65) rfl ?_
          refine RL.gF rfl rfl (bF h65) rfl ?_
          refine V (run_pickF (bF h65) (v := B false) rfl) ?_
          refine V (mV (B _) rfl) ?_
          refine RL.gF rfl rfl rfl rfl ?_
          refine RL.gF rfl rfl rfl rfl ?_
          refine RL.gF rfl rfl rfl rfl ?_
          refine RL.gF rfl rfl rfl rfl ?_
          refine RL.gF rfl rfl rfl rfl ?_
          refine RL.gF rfl rfl rfl rfl ?_
          refine V (run_pickF rfl (v := B false) rfl) ?_
          refine V (mV (B _) rfl) ?_
          refine RL.gF rfl rfl rfl rfl ?_
          refine RL.gF rfl rfl rfl rfl ?_
          refine RL.gF rfl rfl rfl rfl ?_
          refine RL.gF rfl rfl rfl rfl ?_
          refine RL.gF rfl rfl rfl rfl ?_
          refine RL.gF rfl rfl rfl rfl ?_
          refine V (run_pickF rfl (v := B false) rfl) ?_
          refine V (aV (B _) rfl) ?_
          refine RL.nil ?_
          refine ⟨((Fr.refl _ _)).u4.u4.u4.u4.u4.u4.u4.u4.u4.u4.u4.u1.u1, _, hH59, rfl⟩
        ·refine RL.gF rfl rfl (bF h63) rfl ?_
         refine RL.gF rfl rfl (bF h63) rfl ?_
         refine RL.gF rfl rfl (bF h63) rfl ?_
         refine RL.gF rfl rfl (bF h63) rfl ?_
         refine V (run_pickF (bF h63) (v := B false) rfl) ?_
         refine V (mV (B _) rfl) ?_
         refine RL.gF rfl rfl rfl rfl ?_
         refine RL.gF rfl rfl rfl rfl ?_
         refine RL.gF rfl rfl rfl rfl ?_
         refine RL.gF rfl rfl rfl rfl ?_
         refine RL.gF rfl rfl rfl rfl ?_
         refine V (run_pickF rfl (v := B false) rfl) ?_
         refine V (mV (B _) rfl) ?_
         refine RL.gF rfl rfl rfl rfl ?_
         refine RL.gF rfl rfl rfl rfl ?_
         refine RL.gF rfl rfl rfl rfl ?_
         refine RL.gF rfl rfl rfl rfl ?_
         refine RL.gF rfl rfl rfl rfl ?_
         refine RL.gF rfl rfl rfl rfl ?_
         refine V (run_pickF rfl (v := B false) rfl) ?_
         refine V (mV (B _) rfl) ?_
         refine RL.gF rfl rfl rfl rfl ?_
         refine RL.gF rfl rfl rfl rfl ?_
         refine RL.gF rfl rfl rfl rfl ?_
         refine RL.gF rfl rfl rfl rfl ?_
         refine RL.gF rfl rfl rfl rfl ?_
         refine RL.gF rfl rfl rfl rfl ?_
         refine V (run_pickF rfl (v := B false) rfl) ?_
         refine V (aV (B _) rfl) ?_
         refine RL.nil ?_
         refine ⟨((Fr.refl _ _)).u4.u4.u4.u4.u4.u4.u4.u4.u4.u4.u4.u1.u1, _, hH59, rfl⟩
       ·refine RL.gF rfl rfl (bR (c := false) h61) rfl ?_
        refine RL.gF rfl rfl (bR (c := false) h61) rfl ?_
        refine RL.gF rfl rfl (bR (c := false) h61) rfl ?_
        refine RL.gF rfl rfl (bR (c := false) h61) rfl ?_
        refine V (run_pickF (bR (c := false) h61) (v := B false) rfl) ?_
        refine V (mV (B _) rfl) ?_
        refine RL.gF rfl rfl rfl rfl ?_
        refine RL.gF rfl rfl rfl rfl ?_
        refine RL.gF rfl rfl rfl rfl ?_
        refine RL.gF rfl rfl rfl rfl ?_
        refine V (run_pickF rfl (v := B false) rfl) ?_
        refine V (mV (B _) rfl) ?_
        refine RL.gF rfl rfl rfl rfl ?_
        refine RL.gF rfl rfl rfl rfl ?_
        refine RL.gF rfl rfl rfl rfl ?_
        refine RL.gF rfl rfl rfl rfl ?_
        refine RL.gF rfl rfl rfl rfl ?_
        refine V (run_pickF rfl (v := B false) rfl) ?_
        refine V (mV (B _) rfl) ?_
        refine RL.gF rfl rfl rfl rfl ?_
        refine RL.gF rfl rfl rfl rfl ?_
        refine RL.gF rfl rfl rfl rfl ?_
        refine RL.gF rfl rfl rfl rfl ?_
        refine RL.gF rfl rfl rfl rfl ?_
        refine RL.gF rfl rfl rfl rfl ?_
        refine V (run_pickF rfl (v := B false) rfl) ?_
        refine V (mV (B _) rfl) ?_
        refine RL.gF rfl rfl rfl rfl ?_
        refine RL.gF rfl rfl rfl rfl ?_
        refine RL.gF rfl rfl rfl rfl ?_
        refine RL.gF rfl rfl rfl rfl ?_
        refine RL.gF rfl rfl rfl rfl ?_
        refine RL.gF rfl rfl rfl rfl ?_
        refine V (run_pickF rfl (v := B false) rfl) ?_
        refine V (aV (B _) rfl) ?_
        refine RL.nil ?_
        refine ⟨((Fr.refl _ _)).u4.u4.u4.u4.u4.u4.u4.u4.u4.u4.u4.u1.u1, _, hH59, rfl⟩
      ·refine RL.gF rfl rfl (bF h57) rfl ?_
       refine RL.gF rfl rfl (bF h57) rfl ?_
       refine RL.gF rfl rfl (bF h57) rfl ?_
       refine V (run_pickF (bF h57) (v := B false) rfl) ?_
       refine V (mV (B _) rfl) ?_
       refine RL.gF rfl rfl rfl rfl ?_
       refine RL.gF rfl rfl rfl rfl ?_
       refine RL.gF rfl rfl rfl rfl ?_
       refine RL.gF rfl rfl rfl rfl ?_
       refine V (run_pickF rfl (v := B false) rfl) ?_
       refine V (mV (B _) rfl) ?_
       refine RL.gF rfl rfl rfl rfl ?_
       refine RL.gF rfl rfl rfl rfl ?_
       refine RL.gF rfl rfl rfl rfl ?_
       refine RL.gF rfl rfl rfl rfl ?_
       refine V (run_pickF rfl (v := B false) rfl) ?_
       refine V (mV (B _) rfl) ?_
       refine RL.gF rfl rfl rfl rfl ?_
       refine RL.gF rfl rfl rfl rfl ?_
       refine RL.gF rfl rfl rfl rfl ?_
       refine RL.gF rfl rfl rfl rfl ?_
       refine RL.gF rfl rfl rfl rfl ?_
       refine V (run_pickF rfl (v := B false) rfl) ?_
       refine V (mV (B _) rfl) ?_
       refine RL.gF rfl rfl rfl rfl ?_
       refine RL.gF rfl rfl rfl rfl ?_
       refine RL.gF rfl rfl rfl rfl ?_
       refine RL.gF rfl rfl rfl rfl ?_
       refine RL.gF rfl rfl rfl rfl ?_
       refine RL.gF rfl rfl rfl rfl ?_
       refine V (run_pickF rfl (v := B false) rfl) ?_
       refine V (mV (B _) rfl) ?_
       refine RL.gF rfl rfl rfl rfl ?_
       refine RL.gF rfl rfl rfl rfl ?_
       refine RL.gF rfl rfl rfl rfl ?_
       refine RL.gF rfl rfl rfl rfl ?_
       refine RL.gF rfl rfl rfl rfl ?_
       refine RL.gF rfl rfl rfl rfl ?_
       refine V (run_pickF rfl (v := B false) rfl) ?_
       refine V (aV (B _) rfl) ?_
       refine RL.nil ?_
       refine ⟨((Fr.refl _ _)).u4.u4.u4.u4.u4.u4.u4.u4.u4.u4.u4.u1.u1, _, hH52, rfl⟩
     ·refine CW.skip ?_
      refine ⟨((Fr.refl _ _)).u1.u1, _, hH52, (Eq.trans e7_52 rfl)⟩
    ·rintro x7 sg77 w77 fr77 hH77 e7_77
     have e0_77 := (fr77 0 rfl).trans e0_52
     have e1_77 := (fr77 1 rfl).trans e1_52
     have e5_77 := (fr77 5 rfl).trans e5_52
     have e6_77 := (fr77 6 rfl).trans e6_52
     have e8_77 := (fr77 8 rfl).trans e8_52
     have e9_77 := (fr77 9 rfl).trans e9_52
     have e10_77 := (fr77 10 rfl).trans e10_52
     have e11_77 := (fr77 11 rfl).trans e11_52
     have e14_77 := (fr77 14 rfl).trans e14_52
     have e15_77 := (fr77 15 rfl).trans e15_52
     have e16_77 := (fr77 16 rfl).trans e16_52
     have e17_77 := (fr77 17 rfl).trans e17_52
     refine SR ?_
     refine V (run_move e7_77) ?_
     refine V (run_not rfl) ?_
     refine RL.nil ?_
     refine CW.cond rfl (fun h80 => ?_) (fun h80 => ?_)
     ·refine SR ?_
      refine V (aV (B false) rfl) ?_
      refine RL.nil ?_
      refine CW.ret ?_
      exact out1 Tryd.results72 rfl ⟨⟨_, rfl⟩, hH77.below⟩
     ·refine CW.skip ?_
      refine CW.region ?_
      refine V (run_move e5_77) ?_
      refine V (run_add rfl rfl (by omega)) ?_
      refine V (aV (I _) rfl) ?_
      refine RL.nil ?_
      refine ⟨k + 1, ?_, (((((((fr1.u4.u4.u1).t fr37 rfl)).t fr52 rfl)).t fr77 rfl)).u4.u1, (hH77.sub (sQ sR)), (congrArg I (by first | rfl | omega)), ?_, ?_⟩
      ·((try dsimp only); omega)
      ·omega
      ·omega
 ·refine CW.exit (id := 0) rfl ?_
  refine SR ?_
  refine V (aV (B true) rfl) ?_
  refine RL.nil ?_
  refine CW.ret ?_
  exact out1 Tryd.results72 rfl ⟨⟨_, rfl⟩, hH1.below⟩

theorem s_IsConst (n : NodeR) (w : World) (hn : NodeV (Kw w) n) (hA : ∀ (what : Int) (v : Value) (w : World), Sl w v 5 n.kids.length (n.kids.flatMap nodeL) → NodesV (Kw w) n.kids → Calls Tryd.prog 72 #[I what, v] w (Ret fun u w' => (∃ b : Bool, u = B b) ∧ Below w.heap.size w w')) : Calls Tryd.prog 95 #[.agg (nodeL n).toArray] w (Ret fun u w' => (∃ b : Bool, u = B b) ∧ Below w.heap.size w w') := by
 have hm1 := hn.kids_.small
 have hm2 := hn.names_.small
 unfold maxLen at hm1 hm2
 refine enter Tryd.func95 rfl Tryd.ntmps95 rfl ?_
 have hH := Hp.start w
 refine SR ?_
 refine RL.new rfl hH (f := fun b => (.pointer (some ⟨b, 0, none⟩))) (run_box (v := .agg _) rfl) ?_
 intro b3 w1 hH2
 refine V (aV (B false) rfl) ?_
 refine RL.nil ?_
 refine CW.seq ?_
 refine SR ?_
 refine V (fA underlying43 0 rfl sizeOf3 rfl) ?_
 refine V (run_ld underlying3 rfl rfl (hH2.cell (i := 0) rfl (v := I _) rfl)) ?_
 refine RL.nil ?_
 refine CW.block ?_
 refine SR ?_
 refine V (run_eql rfl rfl) ?_
 refine V (aV (B _) rfl) ?_
 refine RL.nil ?_
 refine CW.condP rfl (fun h5 => ?_) (fun h5 => ?_)
 ·refine SR ?_
  refine V (fA underlying43 2 rfl sizeOf9 rfl) ?_
  refine V (run_ld underlying9 rfl rfl (hH2.cell (i := 0) rfl (v := .string _) rfl)) ?_
  refine RL.callP rfl hH2 (c_clearanceref02_Right _  _) (run_call1 call42 rfl) ?_
  intro w6 hH7
  refine V (mV (B _) rfl) ?_
  refine RL.split (dj := 10) rfl (fun h9 => ?_) (fun h9 => ?_)
  ·refine RL.gT rfl (bR (c := true) h9) ?_
   refine V (fA underlying43 3 rfl sizeOf39 rfl) ?_
   refine RL.gT rfl (bR (c := true) h9) ?_
   refine V (run_ldV (hn.names_.sl.hp hH7) underlying39 rfl rfl (hH7.cell (i := 0) rfl rfl)) ?_
   refine RL.gT rfl (bR (c := true) h9) ?_
   refine V (run_lenSl (hn.names_.sl.hp hH7) rfl underlying39 rfl) ?_
   refine RL.gT rfl (bR (c := true) h9) ?_
   refine V (fA underlying43 4 rfl sizeOf41 rfl) ?_
   refine RL.gT rfl (bR (c := true) h9) ?_
   refine V (run_ldV (hn.kids_.sl.hp hH7) underlying41 rfl rfl (hH7.cell (i := 0) rfl rfl)) ?_
   refine RL.gT rfl (bR (c := true) h9) ?_
   refine V (run_lenSl (hn.kids_.sl.hp hH7) rfl underlying41 rfl) ?_
   refine RL.gT rfl (bR (c := true) h9) ?_
   refine V (run_addW rfl rfl) ?_
   refine RL.gT rfl (bR (c := true) h9) ?_
   refine V (run_eql rfl rfl) ?_
   refine V (run_pickT (bR (c := true) h9) (v := B _) rfl) ?_
   refine V (aV (B _) rfl) ?_
   refine RL.nil ?_
   refine CW.ret ?_
   exact out1 Tryd.results95 rfl ⟨⟨_, rfl⟩, hH7.below⟩
  ·refine RL.gF rfl rfl (bR (c := false) h9) rfl ?_
   refine RL.gF rfl rfl (bR (c := false) h9) rfl ?_
   refine RL.gF rfl rfl (bR (c := false) h9) rfl ?_
   refine RL.gF rfl rfl (bR (c := false) h9) rfl ?_
   refine RL.gF rfl rfl (bR (c := false) h9) rfl ?_
   refine RL.gF rfl rfl (bR (c := false) h9) rfl ?_
   refine RL.gF rfl rfl (bR (c := false) h9) rfl ?_
   refine RL.gF rfl rfl (bR (c := false) h9) rfl ?_
   refine V (run_pickF (bR (c := false) h9) (v := B false) rfl) ?_
   refine V (aV (B _) rfl) ?_
   refine RL.nil ?_
   refine CW.ret ?_
   exact out1 Tryd.results95 rfl ⟨⟨_, rfl⟩, hH7.below⟩
 ·refine SR ?_
  refine V (run_eql rfl rfl) ?_
  refine V (aV (B _) rfl) ?_
  refine RL.nil ?_
  refine CW.condP rfl (fun h12 => ?_) (fun h12 => ?_)
  ·refine SR ?_
   refine V (fA underlying43 2 rfl sizeOf9 rfl) ?_
   refine V (run_ld underlying9 rfl rfl (hH2.cell (i := 0) rfl (v := .string _) rfl)) ?_
   refine V (run_eqlS rfl rfl) ?_
   refine V (mV (B _) rfl) ?_
   refine RL.splitP (dj := 25) rfl (fun h14 => ?_) (fun h14 => ?_)
   ·refine RL.gT rfl (bT h14) ?_
    refine V (fA underlying43 3 rfl sizeOf39 rfl) ?_
    refine RL.gT rfl (bT h14) ?_
    refine V (run_ldV (hn.names_.sl.hp hH2) underlying39 rfl rfl (hH2.cell (i := 0) rfl rfl)) ?_
    refine RL.gT rfl (bT h14) ?_
    refine RL.callP rfl hH2 (c_clearanceref10_right _ _  _ (hn.names_.sl.hp hH2)) (run_call1 call73 rfl) ?_
    intro w15 hH16
    refine V (run_pickT (bT h14) (v := B _) rfl) ?_
    refine V (mV (B _) rfl) ?_
    refine RL.split (dj := 30) rfl (fun h18 => ?_) (fun h18 => ?_)
    ·refine RL.gT rfl (bR (c := true) h18) ?_
     refine V (fA underlying43 4 rfl sizeOf41 rfl) ?_
     refine RL.gT rfl (bR (c := true) h18) ?_
     refine V (run_ldV (hn.kids_.sl.hp hH16) underlying41 rfl rfl (hH16.cell (i := 0) rfl rfl)) ?_
     refine RL.gT rfl (bR (c := true) h18) ?_
     refine V (run_lenSl (hn.kids_.sl.hp hH16) rfl underlying41 rfl) ?_
     refine RL.gT rfl (bR (c := true) h18) ?_
     refine V (run_eql rfl rfl) ?_
     refine V (run_pickT (bR (c := true) h18) (v := B _) rfl) ?_
     refine V (aV (B _) rfl) ?_
     refine RL.nil ?_
     refine CW.ret ?_
     exact out1 Tryd.results95 rfl ⟨⟨_, rfl⟩, hH16.below⟩
    ·refine RL.gF rfl rfl (bR (c := false) h18) rfl ?_
     refine RL.gF rfl rfl (bR (c := false) h18) rfl ?_
     refine RL.gF rfl rfl (bR (c := false) h18) rfl ?_
     refine RL.gF rfl rfl (bR (c := false) h18) rfl ?_
     refine V (run_pickF (bR (c := false) h18) (v := B false) rfl) ?_
     refine V (aV (B _) rfl) ?_
     refine RL.nil ?_
     refine CW.ret ?_
     exact out1 Tryd.results95 rfl ⟨⟨_, rfl⟩, hH16.below⟩
   ·refine RL.gF rfl rfl (bF h14) rfl ?_
    refine RL.gF rfl rfl (bF h14) rfl ?_
    refine RL.gF rfl rfl (bF h14) rfl ?_
    refine V (run_pickF (bF h14) (v := B false) rfl) ?_
    refine V (mV (B _) rfl) ?_
    refine RL.gF rfl rfl rfl rfl ?_
    refine RL.gF rfl rfl rfl rfl ?_
    refine RL.gF rfl rfl rfl rfl ?_
    refine RL.gF rfl rfl rfl rfl ?_
    refine V (run_pickF rfl (v := B false) rfl) ?_
    refine V (aV (B _) rfl) ?_
    refine RL.nil ?_
    refine CW.ret ?_
    exact out1 Tryd.results95 rfl ⟨⟨_, rfl⟩, hH2.below⟩
  ·refine SR ?_
   refine V (run_eql rfl rfl) ?_
   refine V (aV (B _) rfl) ?_
   refine RL.nil ?_
   refine CW.condP rfl (fun h21 => ?_) (fun h21 => ?_)
   ·refine SR ?_
    refine V (fA underlying43 2 rfl sizeOf9 rfl) ?_
    refine V (run_ld underlying9 rfl rfl (hH2.cell (i := 0) rfl (v := .string _) rfl)) ?_
    refine V (run_eqlS rfl rfl) ?_
    refine V (mV (B _) rfl) ?_
    refine RL.splitP (dj := 41) rfl (fun h23 => ?_) (fun h23 => ?_)
    ·refine RL.gT rfl (bT h23) ?_
     refine V (fA underlying43 3 rfl sizeOf39 rfl) ?_
     refine RL.gT rfl (bT h23) ?_
     refine V (run_ldV (hn.names_.sl.hp hH2) underlying39 rfl rfl (hH2.cell (i := 0) rfl rfl)) ?_
     refine RL.gT rfl (bT h23) ?_
     refine V (run_lenSl (hn.names_.sl.hp hH2) rfl underlying39 rfl) ?_
     refine RL.gT rfl (bT h23) ?_
     refine V (run_eql rfl rfl) ?_
     refine V (run_pickT (bT h23) (v := B _) rfl) ?_
     refine V (mV (B _) rfl) ?_
     refine RL.splitP (dj := 47) rfl (fun h25 => ?_) (fun h25 => ?_)
     ·refine RL.gT rfl (bT h25) ?_
      refine V (fA underlying43 4 rfl sizeOf41 rfl) ?_
      refine RL.gT rfl (bT h25) ?_
      refine V (run_ldV (hn.kids_.sl.hp hH2) underlying41 rfl rfl (hH2.cell (i := 0) rfl rfl)) ?_
      refine RL.gT rfl (bT h25) ?_
      refine V (run_lenSl (hn.kids_.sl.hp hH2) rfl underlying41 rfl) ?_
      refine RL.gT rfl (bT h25) ?_
      refine V (run_gtr rfl rfl) ?_
      refine V (run_pickT (bT h25) (v := B _) rfl) ?_
      refine V (mV (B _) rfl) ?_
      refine RL.splitP (dj := 53) rfl (fun h27 => ?_) (fun h27 => ?_)
      ·refine RL.gT rfl (bT h27) ?_
       refine V (fA underlying43 4 rfl sizeOf41 rfl) ?_
       refine RL.gT rfl (bT h27) ?_
       refine V (run_ldV (hn.kids_.sl.hp hH2) underlying41 rfl rfl (hH2.cell (i := 0) rfl rfl)) ?_
       refine RL.gT rfl (bT h27) ?_
       refine RL.callT rfl (hA 1 _ _ (hn.kids_.sl.hp hH2) ⟨(NodeV.mono hH2.kw hn).each⟩) (run_call2 call72 (show _ = I 1 from rfl) rfl) ?_
       rintro _ w30 ⟨⟨b33, rfl⟩, hb31⟩
       have hH32 := hH2.call hb31
       refine V (run_pickT (bT h27) (v := B _) rfl) ?_
       refine V (aV (B _) rfl) ?_
       refine RL.nil ?_
       refine CW.ret ?_
       exact out1 Tryd.results95 rfl ⟨⟨_, rfl⟩, hH32.below⟩
      ·refine RL.gF rfl rfl (bF h27) rfl ?_
       refine RL.gF rfl rfl (bF h27) rfl ?_
       refine RL.gF rfl rfl (bF h27) rfl ?_
       refine V (run_pickF (bF h27) (v := B false) rfl) ?_
       refine V (aV (B _) rfl) ?_
       refine RL.nil ?_
       refine CW.ret ?_
       exact out1 Tryd.results95 rfl ⟨⟨_, rfl⟩, hH2.below⟩
     ·refine RL.gF rfl rfl (bF h25) rfl ?_
      refine RL.gF rfl rfl (bF h25) rfl ?_
      refine RL.gF rfl rfl (bF h25) rfl ?_
      refine RL.gF rfl rfl (bF h25) rfl ?_
      refine V (run_pickF (bF h25) (v := B false) rfl) ?_
      refine V (mV (B _) rfl) ?_
      refine RL.gF rfl rfl rfl rfl ?_
      refine RL.gF rfl rfl rfl rfl ?_
      refine RL.gF rfl rfl rfl rfl ?_
      refine V (run_pickF rfl (v := B false) rfl) ?_
      refine V (aV (B _) rfl) ?_
      refine RL.nil ?_
      refine CW.ret ?_
      exact out1 Tryd.results95 rfl ⟨⟨_, rfl⟩, hH2.below⟩
    ·refine RL.gF rfl rfl (bF h23) rfl ?_
     refine RL.gF rfl rfl (bF h23) rfl ?_
     refine RL.gF rfl rfl (bF h23) rfl ?_
     refine RL.gF rfl rfl (bF h23) rfl ?_
     refine V (run_pickF (bF h23) (v := B false) rfl) ?_
     refine V (mV (B _) rfl) ?_
     refine RL.gF rfl rfl rfl rfl ?_
     refine RL.gF rfl rfl rfl rfl ?_
     refine RL.gF rfl rfl rfl rfl ?_
     refine RL.gF rfl rfl rfl rfl ?_
     refine V (run_pickF rfl (v := B false) rfl) ?_
     refine V (mV (B _) rfl) ?_
     refine RL.gF rfl rfl rfl rfl ?_
     refine RL.gF rfl rfl rfl rfl ?_
     refine RL.gF rfl rfl rfl rfl ?_
     refine V (run_pickF rfl (v := B false) rfl) ?_
     refine V (aV (B _) rfl) ?_
     refine RL.nil ?_
     refine CW.ret ?_
     exact out1 Tryd.results95 rfl ⟨⟨_, rfl⟩, hH2.below⟩
   ·refine SR ?_
    refine V (run_eql rfl rfl) ?_
    refine V (aV (B _) rfl) ?_
    refine RL.nil ?_
    refine CW.condP rfl (fun h36 => ?_) (fun h36 => ?_)
    ·refine SR ?_
     refine V (fA underlying43 2 rfl sizeOf9 rfl) ?_
     refine V (run_ld underlying9 rfl rfl (hH2.cell (i := 0) rfl (v := .string _) rfl)) ?_
     refine V (run_eqlS rfl rfl) ?_
     refine V (mV (B _) rfl) ?_
     refine RL.splitP (dj := 63) rfl (fun h38 => ?_) (fun h38 => ?_)
     ·refine RL.gT rfl (bT h38) ?_
      refine V (fA underlying43 3 rfl sizeOf39 rfl) ?_
      refine RL.gT rfl (bT h38) ?_
      refine V (run_ldV (hn.names_.sl.hp hH2) underlying39 rfl rfl (hH2.cell (i := 0) rfl rfl)) ?_
      refine RL.gT rfl (bT h38) ?_
      refine V (run_lenSl (hn.names_.sl.hp hH2) rfl underlying39 rfl) ?_
      refine RL.gT rfl (bT h38) ?_
      refine V (run_eql rfl rfl) ?_
      refine V (run_pickT (bT h38) (v := B _) rfl) ?_
      refine V (mV (B _) rfl) ?_
      refine RL.splitP (dj := 69) rfl (fun h40 => ?_) (fun h40 => ?_)
      ·refine RL.gT rfl (bT h40) ?_
       refine V (fA underlying43 4 rfl sizeOf41 rfl) ?_
       refine RL.gT rfl (bT h40) ?_
       refine V (run_ldV (hn.kids_.sl.hp hH2) underlying41 rfl rfl (hH2.cell (i := 0) rfl rfl)) ?_
       refine RL.gT rfl (bT h40) ?_
       refine RL.callT rfl (hA 2 _ _ (hn.kids_.sl.hp hH2) ⟨(NodeV.mono hH2.kw hn).each⟩) (run_call2 call72 (show _ = I 2 from rfl) rfl) ?_
       rintro _ w43 ⟨⟨b46, rfl⟩, hb44⟩
       have hH45 := hH2.call hb44
       refine V (run_pickT (bT h40) (v := B _) rfl) ?_
       refine V (aV (B _) rfl) ?_
       refine RL.nil ?_
       refine CW.ret ?_
       exact out1 Tryd.results95 rfl ⟨⟨_, rfl⟩, hH45.below⟩
      ·refine RL.gF rfl rfl (bF h40) rfl ?_
       refine RL.gF rfl rfl (bF h40) rfl ?_
       refine RL.gF rfl rfl (bF h40) rfl ?_
       refine V (run_pickF (bF h40) (v := B false) rfl) ?_
       refine V (aV (B _) rfl) ?_
       refine RL.nil ?_
       refine CW.ret ?_
       exact out1 Tryd.results95 rfl ⟨⟨_, rfl⟩, hH2.below⟩
     ·refine RL.gF rfl rfl (bF h38) rfl ?_
      refine RL.gF rfl rfl (bF h38) rfl ?_
      refine RL.gF rfl rfl (bF h38) rfl ?_
      refine RL.gF rfl rfl (bF h38) rfl ?_
      refine V (run_pickF (bF h38) (v := B false) rfl) ?_
      refine V (mV (B _) rfl) ?_
      refine RL.gF rfl rfl rfl rfl ?_
      refine RL.gF rfl rfl rfl rfl ?_
      refine RL.gF rfl rfl rfl rfl ?_
      refine V (run_pickF rfl (v := B false) rfl) ?_
      refine V (aV (B _) rfl) ?_
      refine RL.nil ?_
      refine CW.ret ?_
      exact out1 Tryd.results95 rfl ⟨⟨_, rfl⟩, hH2.below⟩
    ·refine CW.skip ?_
     refine SR ?_
     refine V (aV (B false) rfl) ?_
     refine RL.nil ?_
     refine CW.ret ?_
     exact out1 Tryd.results95 rfl ⟨⟨_, rfl⟩, hH2.below⟩

theorem s_IsLabel (n : NodeR) (w : World) (hn : NodeV (Kw w) n) (hA : ∀ (what : Int) (v : Value) (w : World), Sl w v 5 n.kids.length (n.kids.flatMap nodeL) → NodesV (Kw w) n.kids → Calls Tryd.prog 72 #[I what, v] w (Ret fun u w' => (∃ b : Bool, u = B b) ∧ Below w.heap.size w w')) : Calls Tryd.prog 43 #[.agg (nodeL n).toArray] w (Ret fun u w' => (∃ b : Bool, u = B b) ∧ Below w.heap.size w w') := by
 have hm1 := hn.kids_.small
 have hm2 := hn.names_.small
 unfold maxLen at hm1 hm2
 refine enter Tryd.func43 rfl Tryd.ntmps43 rfl ?_
 have hH := Hp.start w
 refine SR ?_
 refine RL.new rfl hH (f := fun b => (.pointer (some ⟨b, 0, none⟩))) (run_box (v := .agg _) rfl) ?_
 intro b3 w1 hH2
 refine V (aV (B false) rfl) ?_
 refine RL.nil ?_
 refine CW.seq ?_
 refine SR ?_
 refine V (fA underlying43 0 rfl sizeOf3 rfl) ?_
 refine V (run_ld underlying3 rfl rfl (hH2.cell (i := 0) rfl (v := I _) rfl)) ?_
 refine RL.nil ?_
 refine CW.block ?_
 refine SR ?_
 refine V (run_eql rfl rfl) ?_
 refine V (aV (B _) rfl) ?_
 refine RL.nil ?_
 refine CW.condP rfl (fun h5 => ?_) (fun h5 => ?_)
 ·refine SR ?_
  refine V (fA underlying43 2 rfl sizeOf9 rfl) ?_
  refine V (run_ld underlying9 rfl rfl (hH2.cell (i := 0) rfl (v := .string _) rfl)) ?_
  refine RL.callP rfl hH2 (c_clearanceref02_Right _  _) (run_call1 call42 rfl) ?_
  intro w6 hH7
  refine V (mV (B _) rfl) ?_
  refine RL.split (dj := 10) rfl (fun h9 => ?_) (fun h9 => ?_)
  ·refine RL.gT rfl (bR (c := true) h9) ?_
   refine V (fA underlying43 3 rfl sizeOf39 rfl) ?_
   refine RL.gT rfl (bR (c := true) h9) ?_
   refine V (run_ldV (hn.names_.sl.hp hH7) underlying39 rfl rfl (hH7.cell (i := 0) rfl rfl)) ?_
   refine RL.gT rfl (bR (c := true) h9) ?_
   refine V (run_lenSl (hn.names_.sl.hp hH7) rfl underlying39 rfl) ?_
   refine RL.gT rfl (bR (c := true) h9) ?_
   refine V (fA underlying43 4 rfl sizeOf41 rfl) ?_
   refine RL.gT rfl (bR (c := true) h9) ?_
   refine V (run_ldV (hn.kids_.sl.hp hH7) underlying41 rfl rfl (hH7.cell (i := 0) rfl rfl)) ?_
   refine RL.gT rfl (bR (c := true) h9) ?_
   refine V (run_lenSl (hn.kids_.sl.hp hH7) rfl underlying41 rfl) ?_
   refine RL.gT rfl (bR (c := true) h9) ?_
   refine V (run_addW rfl rfl) ?_
   refine RL.gT rfl (bR (c := true) h9) ?_
   refine V (run_eql rfl rfl) ?_
   refine V (run_pickT (bR (c := true) h9) (v := B _) rfl) ?_
   refine V (aV (B _) rfl) ?_
   refine RL.nil ?_
   refine CW.ret ?_
   exact out1 Tryd.results43 rfl ⟨⟨_, rfl⟩, hH7.below⟩
  ·refine RL.gF rfl rfl (bR (c := false) h9) rfl ?_
   refine RL.gF rfl rfl (bR (c := false) h9) rfl ?_
   refine RL.gF rfl rfl (bR (c := false) h9) rfl ?_
   refine RL.gF rfl rfl (bR (c := false) h9) rfl ?_
   refine RL.gF rfl rfl (bR (c := false) h9) rfl ?_
   refine RL.gF rfl rfl (bR (c := false) h9) rfl ?_
   refine RL.gF rfl rfl (bR (c := false) h9) rfl ?_
   refine RL.gF rfl rfl (bR (c := false) h9) rfl ?_
   refine V (run_pickF (bR (c := false) h9) (v := B false) rfl) ?_
   refine V (aV (B _) rfl) ?_
   refine RL.nil ?_
   refine CW.ret ?_
   exact out1 Tryd.results43 rfl ⟨⟨_, rfl⟩, hH7.below⟩
 ·refine SR ?_
  refine V (run_eql rfl rfl) ?_
  refine V (aV (B _) rfl) ?_
  refine RL.nil ?_
  refine CW.condP rfl (fun h12 => ?_) (fun h12 => ?_)
  ·refine SR ?_
   refine V (fA underlying43 2 rfl sizeOf9 rfl) ?_
   refine V (run_ld underlying9 rfl rfl (hH2.cell (i := 0) rfl (v := .string _) rfl)) ?_
   refine V (run_eqlS rfl rfl) ?_
   refine V (mV (B _) rfl) ?_
   refine RL.splitP (dj := 25) rfl (fun h14 => ?_) (fun h14 => ?_)
   ·refine RL.gT rfl (bT h14) ?_
    refine V (fA underlying43 3 rfl sizeOf39 rfl) ?_
    refine RL.gT rfl (bT h14) ?_
    refine V (run_ldV (hn.names_.sl.hp hH2) underlying39 rfl rfl (hH2.cell (i := 0) rfl rfl)) ?_
    refine RL.gT rfl (bT h14) ?_
    refine V (run_lenSl (hn.names_.sl.hp hH2) rfl underlying39 rfl) ?_
    refine RL.gT rfl (bT h14) ?_
    refine V (run_eql rfl rfl) ?_
    refine V (run_pickT (bT h14) (v := B _) rfl) ?_
    refine V (mV (B _) rfl) ?_
    refine RL.splitP (dj := 31) rfl (fun h16 => ?_) (fun h16 => ?_)
    ·refine RL.gT rfl (bT h16) ?_
     refine V (fA underlying43 4 rfl sizeOf41 rfl) ?_
     refine RL.gT rfl (bT h16) ?_
     refine V (run_ldV (hn.kids_.sl.hp hH2) underlying41 rfl rfl (hH2.cell (i := 0) rfl rfl)) ?_
     refine RL.gT rfl (bT h16) ?_
     refine V (run_lenSl (hn.kids_.sl.hp hH2) rfl underlying41 rfl) ?_
     refine RL.gT rfl (bT h16) ?_
     refine V (run_eql rfl rfl) ?_
     refine V (run_pickT (bT h16) (v := B _) rfl) ?_
     refine V (mV (B _) rfl) ?_
     refine RL.splitP (dj := 37) rfl (fun h18 => ?_) (fun h18 => ?_)
     ·refine RL.gT rfl (bT h18) ?_
      refine V (fA underlying43 4 rfl sizeOf41 rfl) ?_
      refine RL.gT rfl (bT h18) ?_
      refine V (run_ldV (hn.kids_.sl.hp hH2) underlying41 rfl rfl (hH2.cell (i := 0) rfl rfl)) ?_
      refine RL.gT rfl (bT h18) ?_
      refine RL.callT rfl (hA 1 _ _ (hn.kids_.sl.hp hH2) ⟨(NodeV.mono hH2.kw hn).each⟩) (run_call2 call72 (show _ = I 1 from rfl) rfl) ?_
      rintro _ w21 ⟨⟨b24, rfl⟩, hb22⟩
      have hH23 := hH2.call hb22
      refine V (run_pickT (bT h18) (v := B _) rfl) ?_
      refine V (aV (B _) rfl) ?_
      refine RL.nil ?_
      refine CW.ret ?_
      exact out1 Tryd.results43 rfl ⟨⟨_, rfl⟩, hH23.below⟩
     ·refine RL.gF rfl rfl (bF h18) rfl ?_
      refine RL.gF rfl rfl (bF h18) rfl ?_
      refine RL.gF rfl rfl (bF h18) rfl ?_
      refine V (run_pickF (bF h18) (v := B false) rfl) ?_
      refine V (aV (B _) rfl) ?_
      refine RL.nil ?_
      refine CW.ret ?_
      exact out1 Tryd.results43 rfl ⟨⟨_, rfl⟩, hH2.below⟩
    ·refine RL.gF rfl rfl (bF h16) rfl ?_
     refine RL.gF rfl rfl (bF h16) rfl ?_
     refine RL.gF rfl rfl (bF h16) rfl ?_
     refine RL.gF rfl rfl (bF h16) rfl ?_
     refine V (run_pickF (bF h16) (v := B false) rfl) ?_
     refine V (mV (B _) rfl) ?_
     refine RL.gF rfl rfl rfl rfl ?_
     refine RL.gF rfl rfl rfl rfl ?_
     refine RL.gF rfl rfl rfl rfl ?_
     refine V (run_pickF rfl (v := B false) rfl) ?_
     refine V (aV (B _) rfl) ?_
     refine RL.nil ?_
     refine CW.ret ?_
     exact out1 Tryd.results43 rfl ⟨⟨_, rfl⟩, hH2.below⟩
   ·refine RL.gF rfl rfl (bF h14) rfl ?_
    refine RL.gF rfl rfl (bF h14) rfl ?_
    refine RL.gF rfl rfl (bF h14) rfl ?_
    refine RL.gF rfl rfl (bF h14) rfl ?_
    refine V (run_pickF (bF h14) (v := B false) rfl) ?_
    refine V (mV (B _) rfl) ?_
    refine RL.gF rfl rfl rfl rfl ?_
    refine RL.gF rfl rfl rfl rfl ?_
    refine RL.gF rfl rfl rfl rfl ?_
    refine RL.gF rfl rfl rfl rfl ?_
    refine V (run_pickF rfl (v := B false) rfl) ?_
    refine V (mV (B _) rfl) ?_
    refine RL.gF rfl rfl rfl rfl ?_
    refine RL.gF rfl rfl rfl rfl ?_
    refine RL.gF rfl rfl rfl rfl ?_
    refine V (run_pickF rfl (v := B false) rfl) ?_
    refine V (aV (B _) rfl) ?_
    refine RL.nil ?_
    refine CW.ret ?_
    exact out1 Tryd.results43 rfl ⟨⟨_, rfl⟩, hH2.below⟩
  ·refine CW.seq ?_
   refine SR ?_
   refine V (run_eql rfl rfl) ?_
   refine V (aV (B _) rfl) ?_
   refine RL.nil ?_
   refine CW.condP rfl (fun h27 => ?_) (fun h27 => ?_)
   ·refine CW.skip ?_
    refine CW.condT (bT h27) ?_
    refine SR ?_
    refine V (fA underlying43 2 rfl sizeOf9 rfl) ?_
    refine V (run_ld underlying9 rfl rfl (hH2.cell (i := 0) rfl (v := .string _) rfl)) ?_
    refine V (run_eqlS rfl rfl) ?_
    refine V (mV (B _) rfl) ?_
    refine RL.splitP (dj := 48) rfl (fun h29 => ?_) (fun h29 => ?_)
    ·refine RL.gT rfl (bT h29) ?_
     refine V (fA underlying43 3 rfl sizeOf39 rfl) ?_
     refine RL.gT rfl (bT h29) ?_
     refine V (run_ldV (hn.names_.sl.hp hH2) underlying39 rfl rfl (hH2.cell (i := 0) rfl rfl)) ?_
     refine RL.gT rfl (bT h29) ?_
     refine V (run_lenSl (hn.names_.sl.hp hH2) rfl underlying39 rfl) ?_
     refine RL.gT rfl (bT h29) ?_
     refine V (run_eql rfl rfl) ?_
     refine V (run_pickT (bT h29) (v := B _) rfl) ?_
     refine V (mV (B _) rfl) ?_
     refine RL.splitP (dj := 54) rfl (fun h31 => ?_) (fun h31 => ?_)
     ·refine RL.gT rfl (bT h31) ?_
      refine V (fA underlying43 4 rfl sizeOf41 rfl) ?_
      refine RL.gT rfl (bT h31) ?_
      refine V (run_ldV (hn.kids_.sl.hp hH2) underlying41 rfl rfl (hH2.cell (i := 0) rfl rfl)) ?_
      refine RL.gT rfl (bT h31) ?_
      refine V (run_lenSl (hn.kids_.sl.hp hH2) rfl underlying41 rfl) ?_
      refine RL.gT rfl (bT h31) ?_
      refine V (run_gtr rfl rfl) ?_
      refine V (run_pickT (bT h31) (v := B _) rfl) ?_
      refine V (mV (B _) rfl) ?_
      refine RL.splitP (dj := 60) rfl (fun h33 => ?_) (fun h33 => ?_)
      ·refine RL.gT rfl (bT h33) ?_
       refine V (fA underlying43 4 rfl sizeOf41 rfl) ?_
       refine RL.gT rfl (bT h33) ?_
       refine V (run_ldV (hn.kids_.sl.hp hH2) underlying41 rfl rfl (hH2.cell (i := 0) rfl rfl)) ?_
       refine RL.gT rfl (bT h33) ?_
       refine RL.callT rfl (hA 3 _ _ (hn.kids_.sl.hp hH2) ⟨(NodeV.mono hH2.kw hn).each⟩) (run_call2 call72 (show _ = I 3 from rfl) rfl) ?_
       rintro _ w36 ⟨⟨b39, rfl⟩, hb37⟩
       have hH38 := hH2.call hb37
       refine V (run_pickT (bT h33) (v := B _) rfl) ?_
       refine V (aV (B _) rfl) ?_
       refine RL.nil ?_
       refine CW.ret ?_
       exact out1 Tryd.results43 rfl ⟨⟨_, rfl⟩, hH38.below⟩
      ·refine RL.gF rfl rfl (bF h33) rfl ?_
       refine RL.gF rfl rfl (bF h33) rfl ?_
       refine RL.gF rfl rfl (bF h33) rfl ?_
       refine V (run_pickF (bF h33) (v := B false) rfl) ?_
       refine V (aV (B _) rfl) ?_
       refine RL.nil ?_
       refine CW.ret ?_
       exact out1 Tryd.results43 rfl ⟨⟨_, rfl⟩, hH2.below⟩
     ·refine RL.gF rfl rfl (bF h31) rfl ?_
      refine RL.gF rfl rfl (bF h31) rfl ?_
      refine RL.gF rfl rfl (bF h31) rfl ?_
      refine RL.gF rfl rfl (bF h31) rfl ?_
      refine V (run_pickF (bF h31) (v := B false) rfl) ?_
      refine V (mV (B _) rfl) ?_
      refine RL.gF rfl rfl rfl rfl ?_
      refine RL.gF rfl rfl rfl rfl ?_
      refine RL.gF rfl rfl rfl rfl ?_
      refine V (run_pickF rfl (v := B false) rfl) ?_
      refine V (aV (B _) rfl) ?_
      refine RL.nil ?_
      refine CW.ret ?_
      exact out1 Tryd.results43 rfl ⟨⟨_, rfl⟩, hH2.below⟩
    ·refine RL.gF rfl rfl (bF h29) rfl ?_
     refine RL.gF rfl rfl (bF h29) rfl ?_
     refine RL.gF rfl rfl (bF h29) rfl ?_
     refine RL.gF rfl rfl (bF h29) rfl ?_
     refine V (run_pickF (bF h29) (v := B false) rfl) ?_
     refine V (mV (B _) rfl) ?_
     refine RL.gF rfl rfl rfl rfl ?_
     refine RL.gF rfl rfl rfl rfl ?_
     refine RL.gF rfl rfl rfl rfl ?_
     refine RL.gF rfl rfl rfl rfl ?_
     refine V (run_pickF rfl (v := B false) rfl) ?_
     refine V (mV (B _) rfl) ?_
     refine RL.gF rfl rfl rfl rfl ?_
     refine RL.gF rfl rfl rfl rfl ?_
     refine RL.gF rfl rfl rfl rfl ?_
     refine V (run_pickF rfl (v := B false) rfl) ?_
     refine V (aV (B _) rfl) ?_
     refine RL.nil ?_
     refine CW.ret ?_
     exact out1 Tryd.results43 rfl ⟨⟨_, rfl⟩, hH2.below⟩
   ·refine CW.region ?_
    refine V (run_eql rfl rfl) ?_
    refine V (aV (B _) rfl) ?_
    refine RL.nil ?_
    refine CW.condP rfl (fun h42 => ?_) (fun h42 => ?_)
    ·refine SR ?_
     refine V (fA underlying43 2 rfl sizeOf9 rfl) ?_
     refine V (run_ld underlying9 rfl rfl (hH2.cell (i := 0) rfl (v := .string _) rfl)) ?_
     refine V (run_eqlS rfl rfl) ?_
     refine V (mV (B _) rfl) ?_
     refine RL.splitP (dj := 48) rfl (fun h44 => ?_) (fun h44 => ?_)
     ·refine RL.gT rfl (bT h44) ?_
      refine V (fA underlying43 3 rfl sizeOf39 rfl) ?_
      refine RL.gT rfl (bT h44) ?_
      refine V (run_ldV (hn.names_.sl.hp hH2) underlying39 rfl rfl (hH2.cell (i := 0) rfl rfl)) ?_
      refine RL.gT rfl (bT h44) ?_
      refine V (run_lenSl (hn.names_.sl.hp hH2) rfl underlying39 rfl) ?_
      refine RL.gT rfl (bT h44) ?_
      refine V (run_eql rfl rfl) ?_
      refine V (run_pickT (bT h44) (v := B _) rfl) ?_
      refine V (mV (B _) rfl) ?_
      refine RL.splitP (dj := 54) rfl (fun h46 => ?_) (fun h46 => ?_)
      ·refine RL.gT rfl (bT h46) ?_
       refine V (fA underlying43 4 rfl sizeOf41 rfl) ?_
       refine RL.gT rfl (bT h46) ?_
       refine V (run_ldV (hn.kids_.sl.hp hH2) underlying41 rfl rfl (hH2.cell (i := 0) rfl rfl)) ?_
       refine RL.gT rfl (bT h46) ?_
       refine V (run_lenSl (hn.kids_.sl.hp hH2) rfl underlying41 rfl) ?_
       refine RL.gT rfl (bT h46) ?_
       refine V (run_gtr rfl rfl) ?_
       refine V (run_pickT (bT h46) (v := B _) rfl) ?_
       refine V (mV (B _) rfl) ?_
       refine RL.splitP (dj := 60) rfl (fun h48 => ?_) (fun h48 => ?_)
       ·refine RL.gT rfl (bT h48) ?_
        refine V (fA underlying43 4 rfl sizeOf41 rfl) ?_
        refine RL.gT rfl (bT h48) ?_
        refine V (run_ldV (hn.kids_.sl.hp hH2) underlying41 rfl rfl (hH2.cell (i := 0) rfl rfl)) ?_
        refine RL.gT rfl (bT h48) ?_
        refine RL.callT rfl (hA 3 _ _ (hn.kids_.sl.hp hH2) ⟨(NodeV.mono hH2.kw hn).each⟩) (run_call2 call72 (show _ = I 3 from rfl) rfl) ?_
        rintro _ w51 ⟨⟨b54, rfl⟩, hb52⟩
        have hH53 := hH2.call hb52
        refine V (run_pickT (bT h48) (v := B _) rfl) ?_
        refine V (aV (B _) rfl) ?_
        refine RL.nil ?_
        refine CW.ret ?_
        exact out1 Tryd.results43 rfl ⟨⟨_, rfl⟩, hH53.below⟩
       ·refine RL.gF rfl rfl (bF h48) rfl ?_
        refine RL.gF rfl rfl (bF h48) rfl ?_
        refine RL.gF rfl rfl (bF h48) rfl ?_
        refine V (run_pickF (bF h48) (v := B false) rfl) ?_
        refine V (aV (B _) rfl) ?_
        refine RL.nil ?_
        refine CW.ret ?_
        exact out1 Tryd.results43 rfl ⟨⟨_, rfl⟩, hH2.below⟩
      ·refine RL.gF rfl rfl (bF h46) rfl ?_
       refine RL.gF rfl rfl (bF h46) rfl ?_
       refine RL.gF rfl rfl (bF h46) rfl ?_
       refine RL.gF rfl rfl (bF h46) rfl ?_
       refine V (run_pickF (bF h46) (v := B false) rfl) ?_
       refine V (mV (B _) rfl) ?_
       refine RL.gF rfl rfl rfl rfl ?_
       refine RL.gF rfl rfl rfl rfl ?_
       refine RL.gF rfl rfl rfl rfl ?_
       refine V (run_pickF rfl (v := B false) rfl) ?_
       refine V (aV (B _) rfl) ?_
       refine RL.nil ?_
       refine CW.ret ?_
       exact out1 Tryd.results43 rfl ⟨⟨_, rfl⟩, hH2.below⟩
     ·refine RL.gF rfl rfl (bF h44) rfl ?_
      refine RL.gF rfl rfl (bF h44) rfl ?_
      refine RL.gF rfl rfl (bF h44) rfl ?_
      refine RL.gF rfl rfl (bF h44) rfl ?_
      refine V (run_pickF (bF h44) (v := B false) rfl) ?_
      refine V (mV (B _) rfl) ?_
      refine RL.gF rfl rfl rfl rfl ?_
      refine RL.gF rfl rfl rfl rfl ?_
      refine RL.gF rfl rfl rfl rfl ?_
      refine RL.gF rfl rfl rfl rfl ?_
      refine V (run_pickF rfl (v := B false) rfl) ?_
      refine V (mV (B _) rfl) ?_
      refine RL.gF rfl rfl rfl rfl ?_
      refine RL.gF rfl rfl rfl rfl ?_
      refine RL.gF rfl rfl rfl rfl ?_
      refine V (run_pickF rfl (v := B false) rfl) ?_
      refine V (aV (B _) rfl) ?_
      refine RL.nil ?_
      refine CW.ret ?_
      exact out1 Tryd.results43 rfl ⟨⟨_, rfl⟩, hH2.below⟩
    ·refine CW.skip ?_
     refine SR ?_
     refine V (aV (B false) rfl) ?_
     refine RL.nil ?_
     refine CW.ret ?_
     exact out1 Tryd.results43 rfl ⟨⟨_, rfl⟩, hH2.below⟩

theorem s_IsRow (n : NodeR) (w : World) (hn : NodeV (Kw w) n) (hA : ∀ (what : Int) (v : Value) (w : World), Sl w v 5 n.kids.length (n.kids.flatMap nodeL) → NodesV (Kw w) n.kids → Calls Tryd.prog 72 #[I what, v] w (Ret fun u w' => (∃ b : Bool, u = B b) ∧ Below w.heap.size w w')) (hL : ∀ w, NodeV (Kw w) n → Calls Tryd.prog 43 #[.agg (nodeL n).toArray] w (Ret fun u w' => (∃ b : Bool, u = B b) ∧ Below w.heap.size w w')) : Calls Tryd.prog 44 #[.agg (nodeL n).toArray] w (Ret fun u w' => (∃ b : Bool, u = B b) ∧ Below w.heap.size w w') := by
 have hm1 := hn.kids_.small
 have hm2 := hn.names_.small
 unfold maxLen at hm1 hm2
 refine enter Tryd.func44 rfl Tryd.ntmps44 rfl ?_
 have hH := Hp.start w
 refine SR ?_
 refine RL.new rfl hH (f := fun b => (.pointer (some ⟨b, 0, none⟩))) (run_box (v := .agg _) rfl) ?_
 intro b3 w1 hH2
 refine V (aV (B false) rfl) ?_
 refine RL.nil ?_
 refine CW.seq ?_
 refine SR ?_
 refine V (fA underlying43 0 rfl sizeOf3 rfl) ?_
 refine V (run_ld underlying3 rfl rfl (hH2.cell (i := 0) rfl (v := I _) rfl)) ?_
 refine V (run_eql rfl rfl) ?_
 refine RL.nil ?_
 refine CW.condP rfl (fun h5 => ?_) (fun h5 => ?_)
 ·refine SR ?_
  refine V (fA underlying43 2 rfl sizeOf9 rfl) ?_
  refine V (run_ld underlying9 rfl rfl (hH2.cell (i := 0) rfl (v := .string _) rfl)) ?_
  refine V (run_eqlS rfl rfl) ?_
  refine V (mV (B _) rfl) ?_
  refine RL.splitP (dj := 9) rfl (fun h7 => ?_) (fun h7 => ?_)
  ·refine RL.gT rfl (bT h7) ?_
   refine V (fA underlying43 3 rfl sizeOf39 rfl) ?_
   refine RL.gT rfl (bT h7) ?_
   refine V (run_ldV (hn.names_.sl.hp hH2) underlying39 rfl rfl (hH2.cell (i := 0) rfl rfl)) ?_
   refine RL.gT rfl (bT h7) ?_
   refine V (run_lenSl (hn.names_.sl.hp hH2) rfl underlying39 rfl) ?_
   refine RL.gT rfl (bT h7) ?_
   refine V (run_leq rfl rfl) ?_
   refine V (run_pickT (bT h7) (v := B _) rfl) ?_
   refine V (mV (B _) rfl) ?_
   refine RL.splitP (dj := 15) rfl (fun h9 => ?_) (fun h9 => ?_)
   ·refine RL.gT rfl (bT h9) ?_
    refine V (fA underlying43 3 rfl sizeOf39 rfl) ?_
    refine RL.gT rfl (bT h9) ?_
    refine V (run_ldV (hn.names_.sl.hp hH2) underlying39 rfl rfl (hH2.cell (i := 0) rfl rfl)) ?_
    refine RL.gT rfl (bT h9) ?_
    refine RL.callP rfl hH2 (c_clearanceref10_right _ _  _ (hn.names_.sl.hp hH2)) (run_call1 call73 rfl) ?_
    intro w10 hH11
    refine V (run_pickT (bT h9) (v := B _) rfl) ?_
    refine V (mV (B _) rfl) ?_
    refine RL.split (dj := 20) rfl (fun h13 => ?_) (fun h13 => ?_)
    ·refine RL.gT rfl (bR (c := true) h13) ?_
     refine V (fA underlying43 4 rfl sizeOf41 rfl) ?_
     refine RL.gT rfl (bR (c := true) h13) ?_
     refine V (run_ldV (hn.kids_.sl.hp hH11) underlying41 rfl rfl (hH11.cell (i := 0) rfl rfl)) ?_
     refine RL.gT rfl (bR (c := true) h13) ?_
     refine RL.callT rfl (hA 4 _ _ (hn.kids_.sl.hp hH11) ⟨(NodeV.mono hH11.kw hn).each⟩) (run_call2 call72 (show _ = I 4 from rfl) rfl) ?_
     rintro _ w16 ⟨⟨b19, rfl⟩, hb17⟩
     have hH18 := hH11.call hb17
     refine V (run_pickT (bR (c := true) h13) (v := B _) rfl) ?_
     refine V (aV (B _) rfl) ?_
     refine RL.nil ?_
     refine CW.ret ?_
     exact out1 Tryd.results44 rfl ⟨⟨_, rfl⟩, hH18.below⟩
    ·refine RL.gF rfl rfl (bR (c := false) h13) rfl ?_
     refine RL.gF rfl rfl (bR (c := false) h13) rfl ?_
     refine RL.gF rfl rfl (bR (c := false) h13) rfl ?_
     refine V (run_pickF (bR (c := false) h13) (v := B false) rfl) ?_
     refine V (aV (B _) rfl) ?_
     refine RL.nil ?_
     refine CW.ret ?_
     exact out1 Tryd.results44 rfl ⟨⟨_, rfl⟩, hH11.below⟩
   ·refine RL.gF rfl rfl (bF h9) rfl ?_
    refine RL.gF rfl rfl (bF h9) rfl ?_
    refine RL.gF rfl rfl (bF h9) rfl ?_
    refine V (run_pickF (bF h9) (v := B false) rfl) ?_
    refine V (mV (B _) rfl) ?_
    refine RL.gF rfl rfl rfl rfl ?_
    refine RL.gF rfl rfl rfl rfl ?_
    refine RL.gF rfl rfl rfl rfl ?_
    refine V (run_pickF rfl (v := B false) rfl) ?_
    refine V (aV (B _) rfl) ?_
    refine RL.nil ?_
    refine CW.ret ?_
    exact out1 Tryd.results44 rfl ⟨⟨_, rfl⟩, hH2.below⟩
  ·refine RL.gF rfl rfl (bF h7) rfl ?_
   refine RL.gF rfl rfl (bF h7) rfl ?_
   refine RL.gF rfl rfl (bF h7) rfl ?_
   refine RL.gF rfl rfl (bF h7) rfl ?_
   refine V (run_pickF (bF h7) (v := B false) rfl) ?_
   refine V (mV (B _) rfl) ?_
   refine RL.gF rfl rfl rfl rfl ?_
   refine RL.gF rfl rfl rfl rfl ?_
   refine RL.gF rfl rfl rfl rfl ?_
   refine V (run_pickF rfl (v := B false) rfl) ?_
   refine V (mV (B _) rfl) ?_
   refine RL.gF rfl rfl rfl rfl ?_
   refine RL.gF rfl rfl rfl rfl ?_
   refine RL.gF rfl rfl rfl rfl ?_
   refine V (run_pickF rfl (v := B false) rfl) ?_
   refine V (aV (B _) rfl) ?_
   refine RL.nil ?_
   refine CW.ret ?_
   exact out1 Tryd.results44 rfl ⟨⟨_, rfl⟩, hH2.below⟩
 ·refine CW.skip ?_
  refine SR ?_
  refine V (fA underlying43 0 rfl sizeOf3 rfl) ?_
  refine V (run_ld underlying3 rfl rfl (hH2.cell (i := 0) rfl (v := I _) rfl)) ?_
  refine V (run_eql rfl rfl) ?_
  refine V (mV (B _) rfl) ?_
  refine RL.splitP (dj := 28) rfl (fun h22 => ?_) (fun h22 => ?_)
  ·refine RL.gT rfl (bT h22) ?_
   refine V (run_ldA (cs := nodeL _) underlying43 rfl rfl rfl (rangeAt_cells (hH2.blk (i := 0) rfl))) ?_
   refine RL.gT rfl (bT h22) ?_
   refine RL.callT rfl (hL _ (NodeV.mono hH2.kw hn)) (run_call1 call43 rfl) ?_
   rintro _ w25 ⟨⟨b28, rfl⟩, hb26⟩
   have hH27 := hH2.call hb26
   refine V (run_pickT (bT h22) (v := B _) rfl) ?_
   refine V (aV (B _) rfl) ?_
   refine RL.nil ?_
   refine CW.ret ?_
   exact out1 Tryd.results44 rfl ⟨⟨_, rfl⟩, hH27.below⟩
  ·refine RL.gF rfl rfl (bF h22) rfl ?_
   refine RL.gF rfl rfl (bF h22) rfl ?_
   refine V (run_pickF (bF h22) (v := B false) rfl) ?_
   refine V (aV (B _) rfl) ?_
   refine RL.nil ?_
   refine CW.ret ?_
   exact out1 Tryd.results44 rfl ⟨⟨_, rfl⟩, hH2.below⟩
theorem c_nodes (n : NodeR) : ((∀ w, NodeV (Kw w) n → Calls Tryd.prog 95 #[.agg (nodeL n).toArray] w (Ret fun u w' => (∃ b : Bool, u = B b) ∧ Below w.heap.size w w')) ∧ (∀ w, NodeV (Kw w) n → Calls Tryd.prog 43 #[.agg (nodeL n).toArray] w (Ret fun u w' => (∃ b : Bool, u = B b) ∧ Below w.heap.size w w'))) ∧ ∀ y ∈ n.kids, (∀ w, NodeV (Kw w) y → Calls Tryd.prog 95 #[.agg (nodeL y).toArray] w (Ret fun u w' => (∃ b : Bool, u = B b) ∧ Below w.heap.size w w')) ∧ (∀ w, NodeV (Kw w) y → Calls Tryd.prog 43 #[.agg (nodeL y).toArray] w (Ret fun u w' => (∃ b : Bool, u = B b) ∧ Below w.heap.size w w')) :=
 node_ind (C := fun n => ((∀ w, NodeV (Kw w) n → Calls Tryd.prog 95 #[.agg (nodeL n).toArray] w (Ret fun u w' => (∃ b : Bool, u = B b) ∧ Below w.heap.size w w')) ∧ (∀ w, NodeV (Kw w) n → Calls Tryd.prog 43 #[.agg (nodeL n).toArray] w (Ret fun u w' => (∃ b : Bool, u = B b) ∧ Below w.heap.size w w'))) ∧ ∀ y ∈ n.kids, (∀ w, NodeV (Kw w) y → Calls Tryd.prog 95 #[.agg (nodeL y).toArray] w (Ret fun u w' => (∃ b : Bool, u = B b) ∧ Below w.heap.size w w')) ∧ (∀ w, NodeV (Kw w) y → Calls Tryd.prog 43 #[.agg (nodeL y).toArray] w (Ret fun u w' => (∃ b : Bool, u = B b) ∧ Below w.heap.size w w'))) (fun n ih => by
  have hA : ∀ (what : Int) (v : Value) (w : World), Sl w v 5 n.kids.length (n.kids.flatMap nodeL) → NodesV (Kw w) n.kids → Calls Tryd.prog 72 #[I what, v] w (Ret fun u w' => (∃ b : Bool, u = B b) ∧ Below w.heap.size w w') := fun what v w hs hv =>
   s_all what v n.kids w hs hv (fun x hx => (ih x hx).1.1) (fun x hx => (ih x hx).1.2) (fun x hx y hy => ((ih x hx).2 y hy).2)
  exact ⟨⟨fun w hn => s_IsConst n w hn hA, fun w hn => s_IsLabel n w hn hA⟩, fun y hy => (ih y hy).1⟩) n
theorem c_clearanceref10_IsLabel (n : NodeR) (w : World) (hn : NodeV (Kw w) n) : Calls Tryd.prog 43 #[.agg (nodeL n).toArray] w (Ret fun u w' => (∃ b : Bool, u = B b) ∧ Below w.heap.size w w') := (c_nodes n).1.2 w hn
theorem c_clearanceref10_IsConst (n : NodeR) (w : World) (hn : NodeV (Kw w) n) : Calls Tryd.prog 95 #[.agg (nodeL n).toArray] w (Ret fun u w' => (∃ b : Bool, u = B b) ∧ Below w.heap.size w w') := (c_nodes n).1.1 w hn
theorem c_clearanceref10_IsRow (n : NodeR) (w : World) (hn : NodeV (Kw w) n) : Calls Tryd.prog 44 #[.agg (nodeL n).toArray] w (Ret fun u w' => (∃ b : Bool, u = B b) ∧ Below w.heap.size w w') :=
 s_IsRow n w hn (fun what v w hs hv => s_all what v n.kids w hs hv (fun x hx => ((c_nodes n).2 x hx).1) (fun x hx => ((c_nodes n).2 x hx).2) (fun x hx y hy => ((c_nodes x).2 y hy).2)) (c_nodes n).1.2

theorem s_same (a b : NodeR) (w : World) (ha : NodeV (Kw w) a) (hb : NodeV (Kw w) b) (ih : ∀ x ∈ a.kids, ∀ y ∈ b.kids, ∀ w, NodeV (Kw w) x → NodeV (Kw w) y → Calls Tryd.prog 74 #[.agg (nodeL x).toArray, .agg (nodeL y).toArray] w (Ret fun u w' => (∃ b : Bool, u = B b) ∧ Below w.heap.size w w')) : Calls Tryd.prog 74 #[.agg (nodeL a).toArray, .agg (nodeL b).toArray] w (Ret fun u w' => (∃ b : Bool, u = B b) ∧ Below w.heap.size w w') := by
 have hm1 := ha.kids_.small
 have hm2 := ha.names_.small
 unfold maxLen at hm1 hm2
 refine enter Tryd.func74 rfl Tryd.ntmps74 rfl ?_
 have hH := Hp.start w
 refine SR ?_
 refine RL.new rfl hH (f := fun b => (.pointer (some ⟨b, 0, none⟩))) (run_box (v := .agg _) rfl) ?_
 intro b3 w1 hH2
 refine RL.new rfl hH2 (f := fun b => (.pointer (some ⟨b, 0, none⟩))) (run_box (v := .agg _) rfl) ?_
 intro b6 w4 hH5
 refine V (aV (B false) rfl) ?_
 refine RL.nil ?_
 refine CW.seq ?_
 refine SR ?_
 refine V (fA underlying43 0 rfl sizeOf3 rfl) ?_
 refine V (run_ld underlying3 rfl rfl (hH5.cell (i := 1) rfl (v := I _) rfl)) ?_
 refine V (fA underlying43 0 rfl sizeOf3 rfl) ?_
 refine V (run_ld underlying3 rfl rfl (hH5.cell (i := 0) rfl (v := I _) rfl)) ?_
 refine V (run_neq rfl rfl) ?_
 refine V (mV (B _) rfl) ?_
 refine RL.splitP (dj := 12) rfl (fun h8 => ?_) (fun h8 => ?_)
 ·refine RL.gF rfl rfl (bT h8) rfl ?_
  refine RL.gF rfl rfl (bT h8) rfl ?_
  refine RL.gF rfl rfl (bT h8) rfl ?_
  refine RL.gF rfl rfl (bT h8) rfl ?_
  refine RL.gF rfl rfl (bT h8) rfl ?_
  refine V (run_pickT (bT h8) (v := B true) rfl) ?_
  refine V (mV (B _) rfl) ?_
  refine RL.gF rfl rfl rfl rfl ?_
  refine RL.gF rfl rfl rfl rfl ?_
  refine RL.gF rfl rfl rfl rfl ?_
  refine RL.gF rfl rfl rfl rfl ?_
  refine RL.gF rfl rfl rfl rfl ?_
  refine RL.gF rfl rfl rfl rfl ?_
  refine RL.gF rfl rfl rfl rfl ?_
  refine V (run_pickT rfl (v := B true) rfl) ?_
  refine V (mV (B _) rfl) ?_
  refine RL.gF rfl rfl rfl rfl ?_
  refine RL.gF rfl rfl rfl rfl ?_
  refine RL.gF rfl rfl rfl rfl ?_
  refine RL.gF rfl rfl rfl rfl ?_
  refine RL.gF rfl rfl rfl rfl ?_
  refine RL.gF rfl rfl rfl rfl ?_
  refine RL.gF rfl rfl rfl rfl ?_
  refine V (run_pickT rfl (v := B true) rfl) ?_
  refine RL.nil ?_
  refine CW.condT rfl ?_
  refine SR ?_
  refine V (aV (B false) rfl) ?_
  refine RL.nil ?_
  refine CW.ret ?_
  exact out1 Tryd.results74 rfl ⟨⟨_, rfl⟩, hH5.below⟩
 ·refine RL.gT rfl (bF h8) ?_
  refine V (fA underlying43 2 rfl sizeOf9 rfl) ?_
  refine RL.gT rfl (bF h8) ?_
  refine V (run_ld underlying9 rfl rfl (hH5.cell (i := 1) rfl (v := .string _) rfl)) ?_
  refine RL.gT rfl (bF h8) ?_
  refine V (fA underlying43 2 rfl sizeOf9 rfl) ?_
  refine RL.gT rfl (bF h8) ?_
  refine V (run_ld underlying9 rfl rfl (hH5.cell (i := 0) rfl (v := .string _) rfl)) ?_
  refine RL.gT rfl (bF h8) ?_
  refine V (run_neqS rfl rfl) ?_
  refine V (run_pickF (bF h8) (v := B _) rfl) ?_
  refine V (mV (B _) rfl) ?_
  refine RL.splitP (dj := 19) rfl (fun h10 => ?_) (fun h10 => ?_)
  ·refine RL.gF rfl rfl (bT h10) rfl ?_
   refine RL.gF rfl rfl (bT h10) rfl ?_
   refine RL.gF rfl rfl (bT h10) rfl ?_
   refine RL.gF rfl rfl (bT h10) rfl ?_
   refine RL.gF rfl rfl (bT h10) rfl ?_
   refine RL.gF rfl rfl (bT h10) rfl ?_
   refine RL.gF rfl rfl (bT h10) rfl ?_
   refine V (run_pickT (bT h10) (v := B true) rfl) ?_
   refine V (mV (B _) rfl) ?_
   refine RL.gF rfl rfl rfl rfl ?_
   refine RL.gF rfl rfl rfl rfl ?_
   refine RL.gF rfl rfl rfl rfl ?_
   refine RL.gF rfl rfl rfl rfl ?_
   refine RL.gF rfl rfl rfl rfl ?_
   refine RL.gF rfl rfl rfl rfl ?_
   refine RL.gF rfl rfl rfl rfl ?_
   refine V (run_pickT rfl (v := B true) rfl) ?_
   refine RL.nil ?_
   refine CW.condT rfl ?_
   refine SR ?_
   refine V (aV (B false) rfl) ?_
   refine RL.nil ?_
   refine CW.ret ?_
   exact out1 Tryd.results74 rfl ⟨⟨_, rfl⟩, hH5.below⟩
  ·refine RL.gT rfl (bF h10) ?_
   refine V (fA underlying43 3 rfl sizeOf39 rfl) ?_
   refine RL.gT rfl (bF h10) ?_
   refine V (run_ldV (ha.names_.sl.hp hH5) underlying39 rfl rfl (hH5.cell (i := 1) rfl rfl)) ?_
   refine RL.gT rfl (bF h10) ?_
   refine V (run_lenSl (ha.names_.sl.hp hH5) rfl underlying39 rfl) ?_
   refine RL.gT rfl (bF h10) ?_
   refine V (fA underlying43 3 rfl sizeOf39 rfl) ?_
   refine RL.gT rfl (bF h10) ?_
   refine V (run_ldV (hb.names_.sl.hp hH5) underlying39 rfl rfl (hH5.cell (i := 0) rfl rfl)) ?_
   refine RL.gT rfl (bF h10) ?_
   refine V (run_lenSl (hb.names_.sl.hp hH5) rfl underlying39 rfl) ?_
   refine RL.gT rfl (bF h10) ?_
   refine V (run_neq rfl rfl) ?_
   refine V (run_pickF (bF h10) (v := B _) rfl) ?_
   refine V (mV (B _) rfl) ?_
   refine RL.splitP (dj := 28) rfl (fun h12 => ?_) (fun h12 => ?_)
   ·refine RL.gF rfl rfl (bT h12) rfl ?_
    refine RL.gF rfl rfl (bT h12) rfl ?_
    refine RL.gF rfl rfl (bT h12) rfl ?_
    refine RL.gF rfl rfl (bT h12) rfl ?_
    refine RL.gF rfl rfl (bT h12) rfl ?_
    refine RL.gF rfl rfl (bT h12) rfl ?_
    refine RL.gF rfl rfl (bT h12) rfl ?_
    refine V (run_pickT (bT h12) (v := B true) rfl) ?_
    refine RL.nil ?_
    refine CW.condT rfl ?_
    refine SR ?_
    refine V (aV (B false) rfl) ?_
    refine RL.nil ?_
    refine CW.ret ?_
    exact out1 Tryd.results74 rfl ⟨⟨_, rfl⟩, hH5.below⟩
   ·refine RL.gT rfl (bF h12) ?_
    refine V (fA underlying43 4 rfl sizeOf41 rfl) ?_
    refine RL.gT rfl (bF h12) ?_
    refine V (run_ldV (ha.kids_.sl.hp hH5) underlying41 rfl rfl (hH5.cell (i := 1) rfl rfl)) ?_
    refine RL.gT rfl (bF h12) ?_
    refine V (run_lenSl (ha.kids_.sl.hp hH5) rfl underlying41 rfl) ?_
    refine RL.gT rfl (bF h12) ?_
    refine V (fA underlying43 4 rfl sizeOf41 rfl) ?_
    refine RL.gT rfl (bF h12) ?_
    refine V (run_ldV (hb.kids_.sl.hp hH5) underlying41 rfl rfl (hH5.cell (i := 0) rfl rfl)) ?_
    refine RL.gT rfl (bF h12) ?_
    refine V (run_lenSl (hb.kids_.sl.hp hH5) rfl underlying41 rfl) ?_
    refine RL.gT rfl (bF h12) ?_
    refine V (run_neq rfl rfl) ?_
    refine V (run_pickF (bF h12) (v := B _) rfl) ?_
    refine RL.nil ?_
    refine CW.condP rfl (fun h14 => ?_) (fun h14 => ?_)
    ·refine SR ?_
     refine V (aV (B false) rfl) ?_
     refine RL.nil ?_
     refine CW.ret ?_
     exact out1 Tryd.results74 rfl ⟨⟨_, rfl⟩, hH5.below⟩
    ·refine CW.skip ?_
     refine CW.seq ?_
     refine SR ?_
     refine V (aV (I 0) rfl) ?_
     refine RL.nil ?_
     refine CW.block ?_
     have hnl : a.names.length = b.names.length := by omega
     have hkl : a.kids.length = b.kids.length := by omega
     refine CW.loop (G := (Int)) (fun (k : Int) s' w' => (Fr [4, 5, 37, 38, 39, 40, 41, 42, 43, 44, 45, 46, 47, 48, 49, 50, 51, 52, 53, 54, 55, 56] _ s') ∧ (Hp w w' _) ∧ (s' 5 = I k) ∧ (0 ≤ k) ∧ (k ≤ a.names.length)) (fun (k : Int) => (a.names.length - k).toNat) (0) ⟨Fr.refl _ _, hH5, rfl, (by omega), (by omega)⟩ ?_
     rintro k sg15 w15 ⟨fr15, hH15, e5_15, h0, hk⟩
     have e2_15 : sg15 2 = Pn _ _ := (fr15 2 rfl).trans rfl
     have e3_15 : sg15 3 = Pn _ _ := (fr15 3 rfl).trans rfl
     refine CW.seq ?_
     refine SR ?_
     refine V (run_move e5_15) ?_
     refine V (fA underlying43 3 rfl sizeOf39 e2_15) ?_
     refine V (run_ldV (ha.names_.sl.hp hH15) underlying39 rfl rfl (hH15.cell (i := 1) rfl rfl)) ?_
     refine V (run_lenSl (ha.names_.sl.hp hH15) rfl underlying39 rfl) ?_
     refine V (run_lss rfl rfl) ?_
     refine RL.nil ?_
     refine CW.condP rfl (fun h17 => ?_) (fun h17 => ?_)
     ·refine CW.skip ?_
      refine CW.seq ?_
      refine CW.block ?_
      refine CW.seq ?_
      refine CW.regionD (by kernel_rfl) hH15 ?_
      intro w18 hH19
      refine AT 0 rfl (hH19.sub sR) (fun w hS => fA underlying43 3 rfl sizeOf39 e2_15) ?_
      refine AT 1 rfl (hH19.sub sR) (fun w hS => run_ldV (ha.names_.sl.hp hS) underlying39 rfl rfl (hS.cell (i := 1) rfl rfl)) ?_
      refine AT 2 rfl (hH19.sub sR) (fun w hS => run_move e5_15) ?_
      refine AT 3 rfl (hH19.sub sR) (fun w hS => run_indexAddrS (ha.names_.sl.hp hS) underlying39 sizeOf38 rfl rfl (by omega)) ?_
      refine AT 4 rfl (hH19.sub sR) (fun w hS => fA underlying38 0 rfl sizeOf9 rfl) ?_
      refine AT 5 rfl (hH19.sub sR) (fun w hS => run_ldE1 (dv := wd0) (off := 0) wdL_len (ha.names_.sl.hp hS) underlying9 rfl rfl (by omega) rfl) ?_
      refine AT 6 rfl (hH19.sub sR) (fun w hS => fA underlying43 3 rfl sizeOf39 e3_15) ?_
      refine AT 7 rfl (hH19.sub sR) (fun w hS => run_ldV (hb.names_.sl.hp hS) underlying39 rfl rfl (hS.cell (i := 0) rfl rfl)) ?_
      refine AT 8 rfl (hH19.sub sR) (fun w hS => run_move e5_15) ?_
      refine AT 9 rfl (hH19.sub sR) (fun w hS => run_indexAddrS (hb.names_.sl.hp hS) underlying39 sizeOf38 rfl rfl (by omega)) ?_
      refine AT 10 rfl (hH19.sub sR) (fun w hS => fA underlying38 0 rfl sizeOf9 rfl) ?_
      refine AT 11 rfl (hH19.sub sR) (fun w hS => run_ldE1 (dv := wd0) (off := 0) wdL_len (hb.names_.sl.hp hS) underlying9 rfl rfl (by omega) rfl) ?_
      refine AT 12 rfl (hH19.sub sR) (fun w hS => run_neqS rfl rfl) ?_
      refine AD ?_
      refine CW.condP rfl (fun h21 => ?_) (fun h21 => ?_)
      ·refine SR ?_
       refine V (aV (B false) rfl) ?_
       refine RL.nil ?_
       refine CW.ret ?_
       exact out1 Tryd.results74 rfl ⟨⟨_, rfl⟩, hH19.below⟩
      ·refine CW.skip ?_
       refine CW.region ?_
       refine V (run_move e5_15) ?_
       refine V (run_add rfl rfl (by omega)) ?_
       refine V (aV (I _) rfl) ?_
       refine RL.nil ?_
       refine ⟨k + 1, ?_, fr15.u4.u4.u4.u4.u4.u1, hH19, (congrArg I (by first | rfl | omega)), ?_, ?_⟩
       ·((try dsimp only); omega)
       ·omega
       ·omega
     ·refine CW.exit (id := 0) rfl ?_
      refine CW.seq ?_
      refine SR ?_
      refine V (aV (I 0) rfl) ?_
      refine RL.nil ?_
      refine CW.block ?_
      refine CW.loop (G := (Int)) (fun (j : Int) s' w' => (Fr [4, 6, 57, 58, 59, 60, 61, 62, 63, 64, 65, 66, 67, 68, 69, 70, 71, 72, 73, 74, 75] _ s') ∧ (Hp w w' _) ∧ (s' 6 = I j) ∧ (0 ≤ j) ∧ (j ≤ a.kids.length)) (fun (j : Int) => (a.kids.length - j).toNat) (0) ⟨Fr.refl _ _, hH15, rfl, (by omega), (by omega)⟩ ?_
      rintro j sg22 w22 ⟨fr22, hH22, e6_22, j0, hj⟩
      have e2_22 := (fr22 2 rfl).trans e2_15
      have e3_22 := (fr22 3 rfl).trans e3_15
      refine CW.seq ?_
      refine SR ?_
      refine V (run_move e6_22) ?_
      refine V (fA underlying43 4 rfl sizeOf41 e2_22) ?_
      refine V (run_ldV (ha.kids_.sl.hp hH22) underlying41 rfl rfl (hH22.cell (i := 1) rfl rfl)) ?_
      refine V (run_lenSl (ha.kids_.sl.hp hH22) rfl underlying41 rfl) ?_
      refine V (run_lss rfl rfl) ?_
      refine RL.nil ?_
      refine CW.condP rfl (fun h24 => ?_) (fun h24 => ?_)
      ·refine CW.skip ?_
       refine CW.seq ?_
       refine CW.block ?_
       refine CW.seq ?_
       refine CW.regionD (by kernel_rfl) hH22 ?_
       intro w25 hH26
       refine AT 0 rfl (hH26.sub sR) (fun w hS => fA underlying43 4 rfl sizeOf41 e2_22) ?_
       refine AT 1 rfl (hH26.sub sR) (fun w hS => run_ldV (ha.kids_.sl.hp hS) underlying41 rfl rfl (hS.cell (i := 1) rfl rfl)) ?_
       refine AT 2 rfl (hH26.sub sR) (fun w hS => run_move e6_22) ?_
       refine AT 3 rfl (hH26.sub sR) (fun w hS => run_indexAddrS (ha.kids_.sl.hp hS) underlying41 sizeOf43 rfl rfl (by omega)) ?_
       refine AT 4 rfl (hH26.sub sR) (fun w hS => run_ldE (dv := node0) nodeL_len (ha.kids_.sl.hp hS) underlying43 rfl rfl rfl (by omega)) ?_
       refine AT 5 rfl (hH26.sub sR) (fun w hS => fA underlying43 4 rfl sizeOf41 e3_22) ?_
       refine AT 6 rfl (hH26.sub sR) (fun w hS => run_ldV (hb.kids_.sl.hp hS) underlying41 rfl rfl (hS.cell (i := 0) rfl rfl)) ?_
       refine AT 7 rfl (hH26.sub sR) (fun w hS => run_move e6_22) ?_
       refine AT 8 rfl (hH26.sub sR) (fun w hS => run_indexAddrS (hb.kids_.sl.hp hS) underlying41 sizeOf43 rfl rfl (by omega)) ?_
       refine AT 9 rfl (hH26.sub sR) (fun w hS => run_ldE (dv := node0) nodeL_len (hb.kids_.sl.hp hS) underlying43 rfl rfl rfl (by omega)) ?_
       refine A1 10 ?_
       refine AO.callT rfl gnone rfl (ih _ (List.mem_of_getElem? (getD_at (d := node0) j0 ‹j < _›)) _ (List.mem_of_getElem? (getD_at (d := node0) j0 (by omega))) _ (NodeV.mono hH26.kw (ha.at j0 (by omega))) (NodeV.mono hH26.kw (hb.at j0 (by omega)))) (run_call2 call74 rfl rfl) (fun u w' hq => (hH26.call hq.2).sub sR) ?_
       rintro _ w29 ⟨⟨b32, rfl⟩, hb30⟩
       have hH31 := hH26.call hb30
       refine AT 11 rfl (hH31.sub sR) (fun w hS => run_not rfl) ?_
       refine AD ?_
       refine CW.cond rfl (fun h35 => ?_) (fun h35 => ?_)
       ·refine SR ?_
        refine V (aV (B false) rfl) ?_
        refine RL.nil ?_
        refine CW.ret ?_
        exact out1 Tryd.results74 rfl ⟨⟨_, rfl⟩, hH31.below⟩
       ·refine CW.skip ?_
        refine CW.region ?_
        refine V (run_move e6_22) ?_
        refine V (run_add rfl rfl (by omega)) ?_
        refine V (aV (I _) rfl) ?_
        refine RL.nil ?_
        refine ⟨j + 1, ?_, fr22.u4.u4.u4.u4.u4, hH31, (congrArg I (by first | rfl | omega)), ?_, ?_⟩
        ·((try dsimp only); omega)
        ·omega
        ·omega
      ·refine CW.exit (id := 2) rfl ?_
       refine SR ?_
       refine V (aV (B true) rfl) ?_
       refine RL.nil ?_
       refine CW.ret ?_
       exact out1 Tryd.results74 rfl ⟨⟨_, rfl⟩, hH22.below⟩
theorem c_clearanceref10_Same (a b : NodeR) : ∀ w, NodeV (Kw w) a → NodeV (Kw w) b → Calls Tryd.prog 74 #[.agg (nodeL a).toArray, .agg (nodeL b).toArray] w (Ret fun u w' => (∃ b : Bool, u = B b) ∧ Below w.heap.size w w') := node2_ind (C := fun a b => ∀ w, NodeV (Kw w) a → NodeV (Kw w) b → Calls Tryd.prog 74 #[.agg (nodeL a).toArray, .agg (nodeL b).toArray] w (Ret fun u w' => (∃ b : Bool, u = B b) ∧ Below w.heap.size w w')) (fun a b ih w ha hb => s_same a b w ha hb ih) a b

theorem c_clearanceref12_zero (n : NodeR) (w : World) (hn : NodeV (Kw w) n) : Calls Tryd.prog 45 #[.agg (nodeL n).toArray] w (Ret fun u w' => (∃ b : Bool, u = B b) ∧ Below w.heap.size w w') := by
 refine enter Tryd.func45 rfl Tryd.ntmps45 rfl ?_
 have hH := Hp.start w
 refine SR ?_
 refine RL.new rfl hH (f := fun b => (.pointer (some ⟨b, 0, none⟩))) (run_box (v := .agg _) rfl) ?_
 intro b3 w1 hH2
 refine V (aV (B false) rfl) ?_
 refine RL.nil ?_
 refine SR ?_
 refine V (run_ldA (cs := nodeL _) underlying43 rfl rfl rfl (rangeAt_cells (hH2.blk (i := 0) rfl))) ?_
 refine V (run_bld (vs := []) rfl built_node0) ?_
 refine RL.callT rfl (c_clearanceref10_Same _ node0 _ (NodeV.mono hH2.kw hn) (node0_v _)) (run_call2 call74 rfl rfl) ?_
 rintro _ w6 ⟨⟨b9, rfl⟩, hb7⟩
 have hH8 := hH2.call hb7
 refine V (aV (B _) rfl) ?_
 refine RL.nil ?_
 refine CW.ret ?_
 exact out1 Tryd.results45 rfl ⟨⟨_, rfl⟩, hH8.below⟩

end Go.Proofs.YtiaifdnlkdcbiaaDoor.W
