/-
  The walks of the functions that the laws of this seat reach, part 2: each returns what its plain counterpart tells, and turns nothing that was there.
-/
import Derived.Test.YtningfhcklabmaaGreatDoorProg
import Derived.Test.YtningfhcklabmaaGreatDoorEnv
import Derived.Test.YtningfhcklabmaaGreatDoorPlain
import Derived.Test.YtningfhcklabmaaGreatDoorBase
import Derived.Test.YtningfhcklabmaaGreatDoorOrd
import Derived.Test.YtningfhcklabmaaGreatDoorRel
import Derived.Test.YtningfhcklabmaaGreatDoorClo
import Derived.Test.YtningfhcklabmaaGreatDoorCov
import Derived.Test.YtningfhcklabmaaGreatDoorArr
import Derived.Test.YtningfhcklabmaaGreatDoorHas
import Derived.Test.YtningfhcklabmaaGreatDoorGrd
import Derived.Test.YtningfhcklabmaaGreatDoorStr
import Derived.Test.YtningfhcklabmaaGreatDoorVu
import Derived.Test.YtningfhcklabmaaGreatDoorShp
import Derived.Test.YtningfhcklabmaaGreatDoorShl
import Derived.Test.YtningfhcklabmaaGreatDoorShq
import Derived.Test.YtningfhcklabmaaGreatDoorShr
import Derived.Test.YtningfhcklabmaaGreatDoorCut
import Derived.Test.YtningfhcklabmaaGreatDoorRec
import Derived.Test.YtningfhcklabmaaGreatDoorOut
import Derived.Test.YtningfhcklabmaaGreatDoorScp
import Derived.Test.YtningfhcklabmaaGreatDoorScq
import Derived.Test.YtningfhcklabmaaGreatDoorByt
import Derived.Test.YtningfhcklabmaaGreatDoorNod
import Derived.Test.YtningfhcklabmaaGreatDoorSpl
import Derived.Test.YtningfhcklabmaaGreatDoorSpb
import Derived.Test.YtningfhcklabmaaGreatDoorSpt
import Derived.Test.YtningfhcklabmaaGreatDoorSpn
import Derived.Test.YtningfhcklabmaaGreatDoorSpx
import Derived.Test.YtningfhcklabmaaGreatDoorSpy
import Derived.Test.YtningfhcklabmaaGreatDoorMin
import Derived.Test.YtningfhcklabmaaGreatDoorSpellNodePacesA
namespace Go.Proofs.YtningfhcklabmaaGreatDoor.W
open Go Go.RowKit Go.Proofs.YtningfhcklabmaaGreatDoor.E Go.Proofs.YtningfhcklabmaaGreatDoor.M
set_option linter.unusedVariables false
set_option linter.unusedSimpArgs false
set_option maxRecDepth 100000
open Tryz

theorem c_clearanceref05_Right (r : Rl) (w : World) : Calls Tryz.prog 74 #[.agg (relC r)] w (Pure (B (rightG r)) w) := by
 refine enter Tryz.func74 rfl Tryz.ntmps74 rfl ?_
 have hH := Hp.start w
 refine SR ?_
 refine RL.new rfl hH (f := fun b => (.pointer (some ⟨b, 0, none⟩))) (run_box (v := .agg _) rfl) ?_
 intro b3 w1 hH2
 refine V (aV (B false) rfl) ?_
 refine RL.nil ?_
 refine SR ?_
 refine V (fA underlying48 0 rfl sizeOf3 rfl) ?_
 refine V (run_ld underlying3 rfl rfl (hH2.cell (i := 0) rfl (relC_N _))) ?_
 refine V (run_geq rfl rfl) ?_
 refine V (mV (B _) rfl) ?_
 refine RL.splitP (dj := 6) rfl (fun h5 => ?_) (fun h5 => ?_)
 ·refine RL.gT rfl (bT h5) ?_
  refine V (fA underlying48 0 rfl sizeOf3 rfl) ?_
  refine RL.gT rfl (bT h5) ?_
  refine V (run_ld underlying3 rfl rfl (hH2.cell (i := 0) rfl (relC_N _))) ?_
  refine RL.gT rfl (bT h5) ?_
  refine V (run_leq rfl rfl) ?_
  refine V (run_pickT (bT h5) (v := B _) rfl) ?_
  refine V (mV (B _) rfl) ?_
  refine RL.splitP (dj := 11) rfl (fun h7 => ?_) (fun h7 => ?_)
  ·refine RL.gT rfl (bT h7) ?_
   refine V (run_ldRel underlying48 rfl rfl rfl (hH2.blk (i := 0) rfl)) ?_
   refine RL.gT rfl (bT h7) ?_
   refine RL.callP rfl hH2 (c_clearanceref03_Closed _  _) (run_call1 call108 rfl) ?_
   intro w8 hH9
   refine V (run_pickT (bT h7) (v := B _) rfl) ?_
   refine V (aV (B _) rfl) ?_
   refine RL.nil ?_
   refine CW.ret ?_
   refine outP1 Tryz.results74 (congrArg B ?_) hH9.below
   first | rw [rightG, decide_eq_false (show ¬ (1 ≤ r.n ∧ r.n ≤ 8) by omega), Bool.false_and] | rw [rightG, decide_eq_true (show 1 ≤ r.n ∧ r.n ≤ 8 by omega), Bool.true_and]
  ·refine RL.gF rfl rfl (bF h7) rfl ?_
   refine RL.gF rfl rfl (bF h7) rfl ?_
   refine V (run_pickF (bF h7) (v := B false) rfl) ?_
   refine V (aV (B _) rfl) ?_
   refine RL.nil ?_
   refine CW.ret ?_
   refine outP1 Tryz.results74 (congrArg B ?_) hH2.below
   first | rw [rightG, decide_eq_false (show ¬ (1 ≤ r.n ∧ r.n ≤ 8) by omega), Bool.false_and] | rw [rightG, decide_eq_true (show 1 ≤ r.n ∧ r.n ≤ 8 by omega), Bool.true_and]
 ·refine RL.gF rfl rfl (bF h5) rfl ?_
  refine RL.gF rfl rfl (bF h5) rfl ?_
  refine RL.gF rfl rfl (bF h5) rfl ?_
  refine V (run_pickF (bF h5) (v := B false) rfl) ?_
  refine V (mV (B _) rfl) ?_
  refine RL.gF rfl rfl rfl rfl ?_
  refine RL.gF rfl rfl rfl rfl ?_
  refine V (run_pickF rfl (v := B false) rfl) ?_
  refine V (aV (B _) rfl) ?_
  refine RL.nil ?_
  refine CW.ret ?_
  refine outP1 Tryz.results74 (congrArg B ?_) hH2.below
  first | rw [rightG, decide_eq_false (show ¬ (1 ≤ r.n ∧ r.n ≤ 8) by omega), Bool.false_and] | rw [rightG, decide_eq_true (show 1 ≤ r.n ∧ r.n ≤ 8 by omega), Bool.true_and]

theorem c_clearanceref05_Out (r : Rl) (s : BitVec 64) (o x : Int) (hn : 1 ≤ r.n ∧ r.n ≤ 8) (w : World) : Calls Tryz.prog 104 #[.agg (relC r), U s, I o, I x] w (Pure (B (outG r s o x)) w) := by
 refine enter Tryz.func104 rfl Tryz.ntmps104 rfl ?_
 have hH := Hp.start w
 refine SR ?_
 refine RL.new rfl hH (f := fun b => (.pointer (some ⟨b, 0, none⟩))) (run_box (v := .agg _) rfl) ?_
 intro b3 w1 hH2
 refine V (aV (B false) rfl) ?_
 refine RL.nil ?_
 refine SR ?_
 refine V (mV (I _) rfl) ?_
 refine V (run_geq rfl rfl) ?_
 refine V (mV (B _) rfl) ?_
 refine RL.splitP (dj := 11) rfl (fun h5 => ?_) (fun h5 => ?_)
 ·refine RL.gT rfl (bT h5) ?_
  refine V (mV (I _) rfl) ?_
  refine RL.gT rfl (bT h5) ?_
  refine V (run_geq rfl rfl) ?_
  refine V (run_pickT (bT h5) (v := B _) rfl) ?_
  refine V (mV (B _) rfl) ?_
  refine RL.splitP (dj := 15) rfl (fun h7 => ?_) (fun h7 => ?_)
  ·refine RL.gT rfl (bT h7) ?_
   refine V (mV (I _) rfl) ?_
   refine RL.gT rfl (bT h7) ?_
   refine V (fA underlying48 0 rfl sizeOf3 rfl) ?_
   refine RL.gT rfl (bT h7) ?_
   refine V (run_ld underlying3 rfl rfl (hH2.cell (i := 0) rfl (relC_N _))) ?_
   refine RL.gT rfl (bT h7) ?_
   refine V (run_lss rfl rfl) ?_
   refine V (run_pickT (bT h7) (v := B _) rfl) ?_
   refine V (mV (B _) rfl) ?_
   refine RL.splitP (dj := 21) rfl (fun h9 => ?_) (fun h9 => ?_)
   ·refine RL.gT rfl (bT h9) ?_
    refine V (mV (I _) rfl) ?_
    refine RL.gT rfl (bT h9) ?_
    refine V (fA underlying48 0 rfl sizeOf3 rfl) ?_
    refine RL.gT rfl (bT h9) ?_
    refine V (run_ld underlying3 rfl rfl (hH2.cell (i := 0) rfl (relC_N _))) ?_
    refine RL.gT rfl (bT h9) ?_
    refine V (run_lss rfl rfl) ?_
    refine V (run_pickT (bT h9) (v := B _) rfl) ?_
    refine V (mV (B _) rfl) ?_
    refine RL.splitP (dj := 27) rfl (fun h11 => ?_) (fun h11 => ?_)
    ·refine RL.gT rfl (bT h11) ?_
     refine V (mV (U _) rfl) ?_
     refine RL.gT rfl (bT h11) ?_
     refine V (mV (I _) rfl) ?_
     refine RL.gT rfl (bT h11) ?_
     refine V (run_mul rfl rfl (by omega)) ?_
     refine RL.gT rfl (bT h11) ?_
     refine V (mV (I _) rfl) ?_
     refine RL.gT rfl (bT h11) ?_
     refine V (run_add rfl rfl (by omega)) ?_
     refine RL.gT rfl (bT h11) ?_
     refine RL.callP rfl hH2 (c_clearanceref01_Has _ _  _) (run_call2 call62 rfl rfl) ?_
     intro w12 hH13
     refine V (run_pickT (bT h11) (v := B _) rfl) ?_
     refine V (aV (B _) rfl) ?_
     refine RL.nil ?_
     refine CW.ret ?_
     refine outP1 Tryz.results104 (congrArg B ?_) hH13.below
     first | rw [outG, decide_eq_false (by omega), Bool.false_and] | rw [outG, decide_eq_true (by omega), Bool.true_and]
    ·refine RL.gF rfl rfl (bF h11) rfl ?_
     refine RL.gF rfl rfl (bF h11) rfl ?_
     refine RL.gF rfl rfl (bF h11) rfl ?_
     refine RL.gF rfl rfl (bF h11) rfl ?_
     refine RL.gF rfl rfl (bF h11) rfl ?_
     refine RL.gF rfl rfl (bF h11) rfl ?_
     refine V (run_pickF (bF h11) (v := B false) rfl) ?_
     refine V (aV (B _) rfl) ?_
     refine RL.nil ?_
     refine CW.ret ?_
     refine outP1 Tryz.results104 (congrArg B ?_) hH2.below
     first | rw [outG, decide_eq_false (by omega), Bool.false_and] | rw [outG, decide_eq_true (by omega), Bool.true_and]
   ·refine RL.gF rfl rfl (bF h9) rfl ?_
    refine RL.gF rfl rfl (bF h9) rfl ?_
    refine RL.gF rfl rfl (bF h9) rfl ?_
    refine RL.gF rfl rfl (bF h9) rfl ?_
    refine V (run_pickF (bF h9) (v := B false) rfl) ?_
    refine V (mV (B _) rfl) ?_
    refine RL.gF rfl rfl rfl rfl ?_
    refine RL.gF rfl rfl rfl rfl ?_
    refine RL.gF rfl rfl rfl rfl ?_
    refine RL.gF rfl rfl rfl rfl ?_
    refine RL.gF rfl rfl rfl rfl ?_
    refine RL.gF rfl rfl rfl rfl ?_
    refine V (run_pickF rfl (v := B false) rfl) ?_
    refine V (aV (B _) rfl) ?_
    refine RL.nil ?_
    refine CW.ret ?_
    refine outP1 Tryz.results104 (congrArg B ?_) hH2.below
    first | rw [outG, decide_eq_false (by omega), Bool.false_and] | rw [outG, decide_eq_true (by omega), Bool.true_and]
  ·refine RL.gF rfl rfl (bF h7) rfl ?_
   refine RL.gF rfl rfl (bF h7) rfl ?_
   refine RL.gF rfl rfl (bF h7) rfl ?_
   refine RL.gF rfl rfl (bF h7) rfl ?_
   refine V (run_pickF (bF h7) (v := B false) rfl) ?_
   refine V (mV (B _) rfl) ?_
   refine RL.gF rfl rfl rfl rfl ?_
   refine RL.gF rfl rfl rfl rfl ?_
   refine RL.gF rfl rfl rfl rfl ?_
   refine RL.gF rfl rfl rfl rfl ?_
   refine V (run_pickF rfl (v := B false) rfl) ?_
   refine V (mV (B _) rfl) ?_
   refine RL.gF rfl rfl rfl rfl ?_
   refine RL.gF rfl rfl rfl rfl ?_
   refine RL.gF rfl rfl rfl rfl ?_
   refine RL.gF rfl rfl rfl rfl ?_
   refine RL.gF rfl rfl rfl rfl ?_
   refine RL.gF rfl rfl rfl rfl ?_
   refine V (run_pickF rfl (v := B false) rfl) ?_
   refine V (aV (B _) rfl) ?_
   refine RL.nil ?_
   refine CW.ret ?_
   refine outP1 Tryz.results104 (congrArg B ?_) hH2.below
   first | rw [outG, decide_eq_false (by omega), Bool.false_and] | rw [outG, decide_eq_true (by omega), Bool.true_and]
 ·refine RL.gF rfl rfl (bF h5) rfl ?_
  refine RL.gF rfl rfl (bF h5) rfl ?_
  refine V (run_pickF (bF h5) (v := B false) rfl) ?_
  refine V (mV (B _) rfl) ?_
  refine RL.gF rfl rfl rfl rfl ?_
  refine RL.gF rfl rfl rfl rfl ?_
  refine RL.gF rfl rfl rfl rfl ?_
  refine RL.gF rfl rfl rfl rfl ?_
  refine V (run_pickF rfl (v := B false) rfl) ?_
  refine V (mV (B _) rfl) ?_
  refine RL.gF rfl rfl rfl rfl ?_
  refine RL.gF rfl rfl rfl rfl ?_
  refine RL.gF rfl rfl rfl rfl ?_
  refine RL.gF rfl rfl rfl rfl ?_
  refine V (run_pickF rfl (v := B false) rfl) ?_
  refine V (mV (B _) rfl) ?_
  refine RL.gF rfl rfl rfl rfl ?_
  refine RL.gF rfl rfl rfl rfl ?_
  refine RL.gF rfl rfl rfl rfl ?_
  refine RL.gF rfl rfl rfl rfl ?_
  refine RL.gF rfl rfl rfl rfl ?_
  refine RL.gF rfl rfl rfl rfl ?_
  refine V (run_pickF rfl (v := B false) rfl) ?_
  refine V (aV (B _) rfl) ?_
  refine RL.nil ?_
  refine CW.ret ?_
  refine outP1 Tryz.results104 (congrArg B ?_) hH2.below
  first | rw [outG, decide_eq_false (by omega), Bool.false_and] | rw [outG, decide_eq_true (by omega), Bool.true_and]

theorem c_clearanceref05_follows (r : Rl) (s : BitVec 64) (o x : Int) (hn : 1 ≤ r.n ∧ r.n ≤ 8) (w : World) : Calls Tryz.prog 130 #[.agg (relC r), U s, I o, I x] w (Pure (B (folB r s o x)) w) := by
 refine enter Tryz.func130 rfl Tryz.ntmps130 rfl ?_
 have hH := Hp.start w
 refine SR ?_
 refine RL.new rfl hH (f := fun b => (.pointer (some ⟨b, 0, none⟩))) (run_box (v := .agg _) rfl) ?_
 intro b3 w1 hH2
 refine V (aV (B false) rfl) ?_
 refine RL.nil ?_
 refine CW.seq ?_
 refine SR ?_
 refine V (aV (I 0) rfl) ?_
 refine RL.nil ?_
 refine CW.block ?_
 refine CW.loop (G := (Int)) (fun (p : Int) s' w' => (Fr [8, 9, 10, 11, 12, 13, 14, 15, 16, 17, 18, 19, 20, 21, 22, 23, 24, 25, 26, 27, 28, 29, 30, 31, 32, 33, 34, 35, 36, 37, 38, 39] _ s') ∧ (Hp w w' _) ∧ (s' 9 = I p) ∧ (0 ≤ p) ∧ (p ≤ r.n) ∧ (∀ q y : Int, 0 ≤ q → q < p → ¬ (outG r s q y = true ∧ hasR r o q = true ∧ hasR r x y = true))) (fun (p : Int) => (r.n - p).toNat) (0) ⟨Fr.refl _ _, hH2, rfl, (by omega), (by omega), fun q y a b => absurd b (by omega)⟩ ?_
 rintro p sg4 w4 ⟨fr4, hH4, e9_4, p0, p1, hf⟩
 have e1_4 : sg4 1 = U _ := (fr4 1 rfl).trans rfl
 have e2_4 : sg4 2 = I _ := (fr4 2 rfl).trans rfl
 have e3_4 : sg4 3 = I _ := (fr4 3 rfl).trans rfl
 have e4_4 : sg4 4 = Pn _ _ := (fr4 4 rfl).trans rfl
 refine CW.seq ?_
 refine SR ?_
 refine V (run_move e9_4) ?_
 refine V (fA underlying48 0 rfl sizeOf3 e4_4) ?_
 refine V (run_ld underlying3 rfl rfl (hH4.cell (i := 0) rfl (relC_N _))) ?_
 refine V (run_lss rfl rfl) ?_
 refine RL.nil ?_
 refine CW.condP rfl (fun h6 => ?_) (fun h6 => ?_)
 ·refine CW.skip ?_
  refine CW.seq ?_
  refine CW.block ?_
  refine SR ?_
  refine V (aV (I 0) rfl) ?_
  refine RL.nil ?_
  refine CW.block ?_
  refine CW.loop (G := (Int)) (fun (y : Int) s' w' => (Fr [8, 10, 17, 18, 19, 20, 21, 22, 23, 24, 25, 26, 27, 28, 29, 30, 31, 32, 33, 34, 35, 36, 37, 38, 39] _ s') ∧ (Hp w w' _) ∧ (s' 10 = I y) ∧ (0 ≤ y) ∧ (y ≤ r.n) ∧ (∀ z : Int, 0 ≤ z → z < y → ¬ (outG r s p z = true ∧ hasR r o p = true ∧ hasR r x z = true))) (fun (y : Int) => (r.n - y).toNat) (0) ⟨Fr.refl _ _, hH4, rfl, (by omega), (by omega), fun z a b => absurd b (by omega)⟩ ?_
  rintro y sg7 w7 ⟨fr7, hH7, e10_7, y0, y1, hg⟩
  have e1_7 := (fr7 1 rfl).trans e1_4
  have e2_7 := (fr7 2 rfl).trans e2_4
  have e3_7 := (fr7 3 rfl).trans e3_4
  have e4_7 := (fr7 4 rfl).trans e4_4
  have e9_7 := (fr7 9 rfl).trans e9_4
  have e11_7 : sg7 11 = I _ := (fr7 11 rfl).trans rfl
  have e12_7 : sg7 12 = Pn _ _ := (fr7 12 rfl).trans rfl
  have e13_7 : sg7 13 = I _ := (fr7 13 rfl).trans rfl
  have e14_7 : sg7 14 = B _ := (fr7 14 rfl).trans rfl
  refine CW.seq ?_
  refine SR ?_
  refine V (run_move e10_7) ?_
  refine V (fA underlying48 0 rfl sizeOf3 e4_7) ?_
  refine V (run_ld underlying3 rfl rfl (hH7.cell (i := 0) rfl (relC_N _))) ?_
  refine V (run_lss rfl rfl) ?_
  refine RL.nil ?_
  refine CW.condP rfl (fun h9 => ?_) (fun h9 => ?_)
  ·refine CW.skip ?_
   refine CW.seq ?_
   refine CW.block ?_
   refine SR ?_
   refine V (run_ldRel underlying48 rfl rfl e4_7 (hH7.blk (i := 0) rfl)) ?_
   refine V (run_move e1_7) ?_
   refine V (run_move e9_7) ?_
   refine V (run_move e10_7) ?_
   refine RL.callP rfl hH7 (c_clearanceref05_Out _ _ _ _ (by first | assumption | omega) _) (run_call4 call104 rfl rfl rfl rfl) ?_
   intro w10 hH11
   refine V (mV (B _) rfl) ?_
   refine RL.split (dj := 28) rfl (fun h13 => ?_) (fun h13 => ?_)
   ·refine RL.gT rfl (bR (c := true) h13) ?_
    refine V (run_ldRel underlying48 rfl rfl e4_7 (hH11.blk (i := 0) rfl)) ?_
    refine RL.gT rfl (bR (c := true) h13) ?_
    refine V (run_move e2_7) ?_
    refine RL.gT rfl (bR (c := true) h13) ?_
    refine V (run_move e9_7) ?_
    refine RL.gT rfl (bR (c := true) h13) ?_
    refine RL.callP rfl hH11 (c_clearanceref03_Has _ _ _  _) (run_call3 call94 rfl rfl rfl) ?_
    intro w14 hH15
    refine V (run_pickT (bR (c := true) h13) (v := B _) rfl) ?_
    refine V (mV (B _) rfl) ?_
    refine RL.split (dj := 34) rfl (fun h17 => ?_) (fun h17 => ?_)
    ·refine RL.gT rfl (bR (c := true) h17) ?_
     refine V (run_ldRel underlying48 rfl rfl e4_7 (hH15.blk (i := 0) rfl)) ?_
     refine RL.gT rfl (bR (c := true) h17) ?_
     refine V (run_move e3_7) ?_
     refine RL.gT rfl (bR (c := true) h17) ?_
     refine V (run_move e10_7) ?_
     refine RL.gT rfl (bR (c := true) h17) ?_
     refine RL.callP rfl hH15 (c_clearanceref03_Has _ _ _  _) (run_call3 call94 rfl rfl rfl) ?_
     intro w18 hH19
     refine V (run_pickT (bR (c := true) h17) (v := B _) rfl) ?_
     refine RL.nil ?_
     refine CW.cond rfl (fun h21 => ?_) (fun h21 => ?_)
     ·refine SR ?_
      refine V (aV (B true) rfl) ?_
      refine RL.nil ?_
      refine CW.ret ?_
      refine outP1 Tryz.results130 (congrArg B ?_) hH19.below
      first | exact (fol_iff.2 ⟨p, y, ‹_›, ‹_›, ‹_›⟩).symm | exact (fol_none ‹_› hf).symm
     ·refine CW.skip ?_
      refine CW.region ?_
      refine V (run_move e10_7) ?_
      refine V (run_add rfl rfl (by omega)) ?_
      refine V (aV (I _) rfl) ?_
      refine RL.nil ?_
      refine ⟨y + 1, ?_, fr7.u4.u4.u4.u4.u4.u4, hH19, (congrArg I (by first | rfl | omega)), ?_, ?_, ?_⟩
      ·((try dsimp only); omega)
      ·omega
      ·omega
      ·exact fun z a b h => if e : z = y then (by subst e; simp_all) else hg z a (by omega) h
    ·refine RL.gF rfl rfl (bR (c := false) h17) rfl ?_
     refine RL.gF rfl rfl (bR (c := false) h17) rfl ?_
     refine RL.gF rfl rfl (bR (c := false) h17) rfl ?_
     refine RL.gF rfl rfl (bR (c := false) h17) rfl ?_
     refine V (run_pickF (bR (c := false) h17) (v := B false) rfl) ?_
     refine RL.nil ?_
     refine CW.condF rfl ?_
     refine CW.skip ?_
     refine CW.region ?_
     refine V (run_move e10_7) ?_
     refine V (run_add rfl rfl (by omega)) ?_
     refine V (aV (I _) rfl) ?_
     refine RL.nil ?_
     refine ⟨y + 1, ?_, fr7.u4.u4.u4.u4.u4.u4, hH15, (congrArg I (by first | rfl | omega)), ?_, ?_, ?_⟩
     ·((try dsimp only); omega)
     ·omega
     ·omega
     ·exact fun z a b h => if e : z = y then (by subst e; simp_all) else hg z a (by omega) h
   ·refine RL.gF rfl rfl (bR (c := false) h13) rfl ?_
    refine RL.gF rfl rfl (bR (c := false) h13) rfl ?_
    refine RL.gF rfl rfl (bR (c := false) h13) rfl ?_
    refine RL.gF rfl rfl (bR (c := false) h13) rfl ?_
    refine V (run_pickF (bR (c := false) h13) (v := B false) rfl) ?_
    refine V (mV (B _) rfl) ?_
    refine RL.gF rfl rfl rfl rfl ?_
    refine RL.gF rfl rfl rfl rfl ?_
    refine RL.gF rfl rfl rfl rfl ?_
    refine RL.gF rfl rfl rfl rfl ?_
    refine V (run_pickF rfl (v := B false) rfl) ?_
    refine RL.nil ?_
    refine CW.condF rfl ?_
    refine CW.skip ?_
    refine CW.region ?_
    refine V (run_move e10_7) ?_
    refine V (run_add rfl rfl (by omega)) ?_
    refine V (aV (I _) rfl) ?_
    refine RL.nil ?_
    refine ⟨y + 1, ?_, fr7.u4.u4.u4.u4.u4.u4, hH11, (congrArg I (by first | rfl | omega)), ?_, ?_, ?_⟩
    ·((try dsimp only); omega)
    ·omega
    ·omega
    ·exact fun z a b h => if e : z = y then (by subst e; simp_all) else hg z a (by omega) h
  ·refine CW.exit (id := 2) rfl ?_
   refine CW.region ?_
   refine V (run_move e9_7) ?_
   refine V (run_add rfl rfl (by omega)) ?_
   refine V (aV (I _) rfl) ?_
   refine RL.nil ?_
   refine ⟨p + 1, ?_, (((fr4.u4.u1).t fr7 rfl)).u4.u1.u1.u1, hH7, (congrArg I (by first | rfl | omega)), ?_, ?_, ?_⟩
   ·((try dsimp only); omega)
   ·omega
   ·omega
   ·exact fun q y a b h => if e : q = p then hg y (out_iff.1 h.1).1.2.1 (by have := (out_iff.1 h.1).1; omega) (e ▸ h) else hf q y a (by omega) h
 ·refine CW.exit (id := 0) rfl ?_
  refine SR ?_
  refine V (aV (B false) rfl) ?_
  refine RL.nil ?_
  refine CW.ret ?_
  refine outP1 Tryz.results130 (congrArg B ?_) hH4.below
  first | exact (fol_iff.2 ⟨p, y, ‹_›, ‹_›, ‹_›⟩).symm | exact (fol_none ‹_› hf).symm

theorem c_clearanceref05_Close (r : Rl) (s : BitVec 64) (w : World) : Calls Tryz.prog 103 #[.agg (relC r), U s] w (Pure (U (closeG r s)) w) := by
 refine enter Tryz.func103 rfl Tryz.ntmps103 rfl ?_
 have hH := Hp.start w
 refine SR ?_
 refine RL.new rfl hH (f := fun b => (.pointer (some ⟨b, 0, none⟩))) (run_box (v := .agg _) rfl) ?_
 intro b3 w1 hH2
 refine V (aV (U 0#64) rfl) ?_
 refine RL.nil ?_
 refine SR ?_
 refine V (aV (.slice none 0 0) rfl) ?_
 have hH4 := hH2.nilRow 3 1
 refine RL.nil ?_
 refine CW.seq ?_
 refine SR ?_
 refine V (run_ldRel underlying48 rfl rfl rfl (hH4.blk (i := 1) rfl)) ?_
 refine RL.callP rfl hH4 (c_clearanceref05_Right _  _) (run_call1 call74 rfl) ?_
 intro w5 hH6
 refine V (run_not rfl) ?_
 refine RL.nil ?_
 refine CW.cond rfl (fun h9 => ?_) (fun h9 => ?_)
 ·refine SR ?_
  refine V (aV (U 0#64) rfl) ?_
  refine RL.nil ?_
  refine CW.ret ?_
  refine outP1 Tryz.results103 (congrArg U ?_) hH6.below
  first | exact (close_no (nt ‹_›)).symm | (rw [hl]; exact close_ref hr (by omega))
 ·refine CW.skip ?_
  refine CW.seq ?_
  refine SR ?_
  refine V (aV (I 0) rfl) ?_
  refine RL.nil ?_
  refine CW.block ?_
  have hr : rightG r = true := nf ‹_›
  have hs := right_spec hr
  refine CW.loop (G := (Int) × (List Int) × (Value)) (fun (⟨o, l, v5⟩ : (Int) × (List Int) × (Value)) s' w' => (Fr [5, 6, 7, 11, 12, 13, 14, 15, 16, 17, 18, 19, 20, 21, 22, 23, 24, 25, 26, 27, 28, 29, 30, 31, 32, 33, 34] _ s') ∧ (Hp w w' (.row v5 3 1 (l.length) (l.map I) :: _)) ∧ (s' 5 = v5) ∧ (s' 6 = I o) ∧ (0 ≤ o) ∧ (o ≤ r.n) ∧ (l = closeL r s o)) (fun (⟨o, l, v5⟩ : (Int) × (List Int) × (Value)) => (r.n - o).toNat) ((0, [], (.slice none 0 0 : Value))) ⟨Fr.refl _ _, hH6, rfl, rfl, (by omega), (by omega), rfl⟩ ?_
  rintro ⟨o, l, v5⟩ sg10 w10 ⟨fr10, hH10, e5_10, e6_10, o0, o1, hl⟩
  have e1_10 : sg10 1 = U _ := (fr10 1 rfl).trans rfl
  have e2_10 : sg10 2 = Pn _ _ := (fr10 2 rfl).trans rfl
  have e4_10 : sg10 4 = U _ := (fr10 4 rfl).trans rfl
  refine CW.seq ?_
  refine SR ?_
  refine V (run_move e6_10) ?_
  refine V (fA underlying48 0 rfl sizeOf3 e2_10) ?_
  refine V (run_ld underlying3 rfl rfl (hH10.cell (i := 1) rfl (relC_N _))) ?_
  refine V (run_lss rfl rfl) ?_
  refine RL.nil ?_
  refine CW.condP rfl (fun h12 => ?_) (fun h12 => ?_)
  ·refine CW.skip ?_
   refine CW.seq ?_
   refine CW.block ?_
   refine SR ?_
   refine V (aV (I 0) rfl) ?_
   refine RL.nil ?_
   refine CW.block ?_
   refine CW.loop (G := (Int) × (List Int) × (Value)) (fun (⟨x, l2, v5⟩ : (Int) × (List Int) × (Value)) s' w' => (Fr [5, 7, 17, 18, 19, 20, 21, 22, 23, 24, 25, 26, 27, 28, 29, 30, 31, 32, 33, 34] _ s') ∧ (Hp w w' (.row v5 3 1 (l2.length) (l2.map I) :: _)) ∧ (s' 5 = v5) ∧ (s' 7 = I x) ∧ (0 ≤ x) ∧ (x ≤ r.n) ∧ (l2 = closeL r s o ++ rowL r s o x)) (fun (⟨x, l2, v5⟩ : (Int) × (List Int) × (Value)) => (r.n - x).toNat) ((0, l, (v5 : Value))) ⟨Fr.refl _ _, hH10, e5_10, rfl, (by omega), (by omega), (by rw [hl, rowL]; simp [upto])⟩ ?_
   rintro ⟨x, l2, v5⟩ sg13 w13 ⟨fr13, hH13, e5_13, e7_13, x0, x1, h2⟩
   have e1_13 := (fr13 1 rfl).trans e1_10
   have e2_13 := (fr13 2 rfl).trans e2_10
   have e4_13 := (fr13 4 rfl).trans e4_10
   have e6_13 := (fr13 6 rfl).trans e6_10
   have e11_13 : sg13 11 = I _ := (fr13 11 rfl).trans rfl
   have e12_13 : sg13 12 = Pn _ _ := (fr13 12 rfl).trans rfl
   have e13_13 : sg13 13 = I _ := (fr13 13 rfl).trans rfl
   have e14_13 : sg13 14 = B _ := (fr13 14 rfl).trans rfl
   refine CW.seq ?_
   refine SR ?_
   refine V (run_move e7_13) ?_
   refine V (fA underlying48 0 rfl sizeOf3 e2_13) ?_
   refine V (run_ld underlying3 rfl rfl (hH13.cell (i := 1) rfl (relC_N _))) ?_
   refine V (run_lss rfl rfl) ?_
   refine RL.nil ?_
   refine CW.condP rfl (fun h15 => ?_) (fun h15 => ?_)
   ·refine CW.skip ?_
    refine CW.seq ?_
    refine CW.block ?_
    refine SR ?_
    refine V (run_ldRel underlying48 rfl rfl e2_13 (hH13.blk (i := 1) rfl)) ?_
    refine V (run_move e1_13) ?_
    refine V (run_move e6_13) ?_
    refine V (run_move e7_13) ?_
    refine RL.callP rfl hH13 (c_clearanceref05_follows _ _ _ _ (by first | assumption | omega) _) (run_call4 call130 rfl rfl rfl rfl) ?_
    intro w16 hH17
    refine RL.nil ?_
    refine CW.cond rfl (fun h19 => ?_) (fun h19 => ?_)
    ·refine CW.region ?_
     refine V (run_move e5_13) ?_
     refine V (run_move e6_13) ?_
     refine V (run_mul rfl rfl (by omega)) ?_
     refine V (run_move e7_13) ?_
     refine V (run_add rfl rfl (by omega)) ?_
     refine RL.new rfl hH17 (f := fun b => (.slice (some ⟨b, 0, none⟩) 1 1)) (run_mkL underlying82 rfl rfl (sz := 1) (vs := [I _]) rfl rfl (by decide) (by decide) rfl rfl) ?_
     intro b22 w20 hH21
     (try simp only [List.flatMap_cons, List.flatMap_nil, clI, clB, clS, clP, clL, clA, List.append_nil, List.cons_append, List.nil_append] at hH21)
     refine RL.app rfl hH21 (i := 1) rfl (hH21.slBlk (i := 0) (n := 1) (sz := 1) rfl rfl (by decide)) rfl rfl underlying82 rfl rfl (size := 1) (bytes := 8) rfl rfl rfl (by decide) (by simp [Value.oneCell']) (by rw [h2]; have := @closeL_len r s o hs.1.2 (by omega); have := @rowL_len r s o x; simp; omega) (by rw [h2]; have := @closeL_len r s o hs.1.2 (by omega); have := @rowL_len r s o x; simp only [maxLen]; simp; omega) ?_
     intro v23 w24 hH25
     simp only [z0, z1] at hH25
     refine V (run_assign (by conv => lhs; whnf)) ?_
     refine RL.nil ?_
     refine CW.region ?_
     refine V (run_move e7_13) ?_
     refine V (run_add rfl rfl (by omega)) ?_
     refine V (aV (I _) rfl) ?_
     refine RL.nil ?_
     refine ⟨(x + 1, l2 ++ [8 * o + x], v23), ?_, fr13.u4.u4.u4.u4.u4, (Hp.conv (hH25.sub (sQ sR)) (by first | rfl | simp)), rfl, (congrArg I (by first | rfl | omega)), ?_, ?_, ?_⟩
     ·((try dsimp only); omega)
     ·omega
     ·omega
     ·(rw [h2]; first | (rw [List.append_assoc, rowL_yes x0 ‹_›]) | (rw [rowL_no x0 ‹_›]))
    ·refine CW.skip ?_
     refine CW.region ?_
     refine V (run_move e7_13) ?_
     refine V (run_add rfl rfl (by omega)) ?_
     refine V (aV (I _) rfl) ?_
     refine RL.nil ?_
     refine ⟨(x + 1, l2, v5), ?_, fr13.u4.u4.u4, (Hp.conv hH17 (by first | rfl | simp)), e5_13, (congrArg I (by first | rfl | omega)), ?_, ?_, ?_⟩
     ·((try dsimp only); omega)
     ·omega
     ·omega
     ·(rw [h2]; first | (rw [List.append_assoc, rowL_yes x0 ‹_›]) | (rw [rowL_no x0 ‹_›]))
   ·refine CW.exit (id := 2) rfl ?_
    refine CW.region ?_
    refine V (run_move e6_13) ?_
    refine V (run_add rfl rfl (by omega)) ?_
    refine V (aV (I _) rfl) ?_
    refine RL.nil ?_
    refine ⟨(o + 1, l2, v5), ?_, (((fr10.u4.u1).t fr13 rfl)).u4.u1.u1.u1, (Hp.conv hH13 (by first | rfl | simp)), e5_13, (congrArg I (by first | rfl | omega)), ?_, ?_, ?_⟩
    ·((try dsimp only); omega)
    ·omega
    ·omega
    ·(rw [h2]; exact closeL_next o0 (by omega))
  ·refine CW.exit (id := 0) rfl ?_
   refine SR ?_
   refine V (run_move e5_10) ?_
   refine RL.callP rfl hH10 (c_clearanceref01_Of _ _  _ (hH10.sl (i := 0) rfl)) (run_call1 call92 rfl) ?_
   intro w26 hH27
   refine V (aV (U _) rfl) ?_
   refine RL.nil ?_
   refine CW.ret ?_
   refine outP1 Tryz.results103 (congrArg U ?_) hH27.below
   first | exact (close_no (nt ‹_›)).symm | (rw [hl]; exact close_ref hr (by omega))

theorem c_clearanceref05_Readers (r : Rl) (s : BitVec 64) (o : Int) (w : World) : Calls Tryz.prog 64 #[.agg (relC r), U s, I o] w (Pure (U (readersG r s o)) w) := by
 refine enter Tryz.func64 rfl Tryz.ntmps64 rfl ?_
 have hH := Hp.start w
 refine SR ?_
 refine RL.new rfl hH (f := fun b => (.pointer (some ⟨b, 0, none⟩))) (run_box (v := .agg _) rfl) ?_
 intro b3 w1 hH2
 refine V (aV (U 0#64) rfl) ?_
 refine RL.nil ?_
 refine SR ?_
 refine V (aV (.slice none 0 0) rfl) ?_
 have hH4 := hH2.nilRow 3 1
 refine RL.nil ?_
 refine CW.seq ?_
 refine SR ?_
 refine V (run_ldRel underlying48 rfl rfl rfl (hH4.blk (i := 1) rfl)) ?_
 refine RL.callP rfl hH4 (c_clearanceref05_Right _  _) (run_call1 call74 rfl) ?_
 intro w5 hH6
 refine V (run_not rfl) ?_
 refine V (mV (B _) rfl) ?_
 refine RL.split (dj := 12) rfl (fun h9 => ?_) (fun h9 => ?_)
 ·refine RL.gF rfl rfl (bR (c := true) h9) rfl ?_
  refine RL.gF rfl rfl (bR (c := true) h9) rfl ?_
  refine V (run_pickT (bR (c := true) h9) (v := B true) rfl) ?_
  refine V (mV (B _) rfl) ?_
  refine RL.gF rfl rfl rfl rfl ?_
  refine RL.gF rfl rfl rfl rfl ?_
  refine RL.gF rfl rfl rfl rfl ?_
  refine RL.gF rfl rfl rfl rfl ?_
  refine V (run_pickT rfl (v := B true) rfl) ?_
  refine RL.nil ?_
  refine CW.condT rfl ?_
  refine SR ?_
  refine V (aV (U 0#64) rfl) ?_
  refine RL.nil ?_
  refine CW.ret ?_
  refine outP1 Tryz.results64 (congrArg U ?_) hH6.below
  first | exact (read_no (own_no (.inl (nt ‹_›)))).symm | exact (read_no (own_no (.inr (by omega)))).symm | (rw [hl]; exact read_ref ho (by omega))
 ·refine RL.gT rfl (bR (c := false) h9) ?_
  refine V (mV (I _) rfl) ?_
  refine RL.gT rfl (bR (c := false) h9) ?_
  refine V (run_lss rfl rfl) ?_
  refine V (run_pickF (bR (c := false) h9) (v := B _) rfl) ?_
  refine V (mV (B _) rfl) ?_
  refine RL.splitP (dj := 16) rfl (fun h11 => ?_) (fun h11 => ?_)
  ·refine RL.gF rfl rfl (bT h11) rfl ?_
   refine RL.gF rfl rfl (bT h11) rfl ?_
   refine RL.gF rfl rfl (bT h11) rfl ?_
   refine RL.gF rfl rfl (bT h11) rfl ?_
   refine V (run_pickT (bT h11) (v := B true) rfl) ?_
   refine RL.nil ?_
   refine CW.condT rfl ?_
   refine SR ?_
   refine V (aV (U 0#64) rfl) ?_
   refine RL.nil ?_
   refine CW.ret ?_
   refine outP1 Tryz.results64 (congrArg U ?_) hH6.below
   first | exact (read_no (own_no (.inl (nt ‹_›)))).symm | exact (read_no (own_no (.inr (by omega)))).symm | (rw [hl]; exact read_ref ho (by omega))
  ·refine RL.gT rfl (bF h11) ?_
   refine V (mV (I _) rfl) ?_
   refine RL.gT rfl (bF h11) ?_
   refine V (fA underlying48 0 rfl sizeOf3 rfl) ?_
   refine RL.gT rfl (bF h11) ?_
   refine V (run_ld underlying3 rfl rfl (hH6.cell (i := 1) rfl (relC_N _))) ?_
   refine RL.gT rfl (bF h11) ?_
   refine V (run_geq rfl rfl) ?_
   refine V (run_pickF (bF h11) (v := B _) rfl) ?_
   refine RL.nil ?_
   refine CW.condP rfl (fun h13 => ?_) (fun h13 => ?_)
   ·refine SR ?_
    refine V (aV (U 0#64) rfl) ?_
    refine RL.nil ?_
    refine CW.ret ?_
    refine outP1 Tryz.results64 (congrArg U ?_) hH6.below
    first | exact (read_no (own_no (.inl (nt ‹_›)))).symm | exact (read_no (own_no (.inr (by omega)))).symm | (rw [hl]; exact read_ref ho (by omega))
   ·refine CW.skip ?_
    refine CW.seq ?_
    refine SR ?_
    refine V (aV (I 0) rfl) ?_
    refine RL.nil ?_
    refine CW.block ?_
    have hr : rightG r = true := nf ‹_›
    have hs := right_spec hr
    have ho : ownsG r o = true := own_yes hr (by omega)
    have hn8 := hs.1
    refine CW.loop (G := (Int) × (List Int) × (Value)) (fun (⟨x, l, v7⟩ : (Int) × (List Int) × (Value)) s' w' => (Fr [7, 8, 22, 23, 24, 25, 26, 27, 28, 29, 30, 31, 32, 33, 34, 35, 36, 37] _ s') ∧ (Hp w w' (.row v7 3 1 (l.length) (l.map I) :: _)) ∧ (s' 7 = v7) ∧ (s' 8 = I x) ∧ (0 ≤ x) ∧ (x ≤ r.n) ∧ (l = readL r s o x)) (fun (⟨x, l, v7⟩ : (Int) × (List Int) × (Value)) => (r.n - x).toNat) ((0, [], (.slice none 0 0 : Value))) ⟨Fr.refl _ _, hH6, rfl, rfl, (by omega), (by omega), rfl⟩ ?_
    rintro ⟨x, l, v7⟩ sg14 w14 ⟨fr14, hH14, e7_14, e8_14, x0, x1, hl⟩
    have e1_14 : sg14 1 = U _ := (fr14 1 rfl).trans rfl
    have e2_14 : sg14 2 = I _ := (fr14 2 rfl).trans rfl
    have e3_14 : sg14 3 = Pn _ _ := (fr14 3 rfl).trans rfl
    have e6_14 : sg14 6 = U _ := (fr14 6 rfl).trans rfl
    refine CW.seq ?_
    refine SR ?_
    refine V (run_move e8_14) ?_
    refine V (fA underlying48 0 rfl sizeOf3 e3_14) ?_
    refine V (run_ld underlying3 rfl rfl (hH14.cell (i := 1) rfl (relC_N _))) ?_
    refine V (run_lss rfl rfl) ?_
    refine RL.nil ?_
    refine CW.condP rfl (fun h16 => ?_) (fun h16 => ?_)
    ·refine CW.skip ?_
     refine CW.seq ?_
     refine CW.block ?_
     refine SR ?_
     refine V (run_ldRel underlying48 rfl rfl e3_14 (hH14.blk (i := 1) rfl)) ?_
     refine V (run_move e1_14) ?_
     refine V (run_move e2_14) ?_
     refine V (run_move e8_14) ?_
     refine RL.callP rfl hH14 (c_clearanceref05_Out _ _ _ _ (by first | assumption | omega) _) (run_call4 call104 rfl rfl rfl rfl) ?_
     intro w17 hH18
     refine V (run_not rfl) ?_
     refine RL.nil ?_
     refine CW.cond rfl (fun h21 => ?_) (fun h21 => ?_)
     ·refine CW.region ?_
      refine V (run_move e7_14) ?_
      refine V (run_move e8_14) ?_
      refine RL.new rfl hH18 (f := fun b => (.slice (some ⟨b, 0, none⟩) 1 1)) (run_mkL underlying82 rfl rfl (sz := 1) (vs := [I _]) rfl rfl (by decide) (by decide) rfl rfl) ?_
      intro b24 w22 hH23
      (try simp only [List.flatMap_cons, List.flatMap_nil, clI, clB, clS, clP, clL, clA, List.append_nil, List.cons_append, List.nil_append] at hH23)
      refine RL.app rfl hH23 (i := 1) rfl (hH23.slBlk (i := 0) (n := 1) (sz := 1) rfl rfl (by decide)) rfl rfl underlying82 rfl rfl (size := 1) (bytes := 8) rfl rfl rfl (by decide) (by simp [Value.oneCell']) (by rw [hl]; have := @readL_len r s o x; omega) (by rw [hl]; have := @readL_len r s o x; simp only [maxLen]; omega) ?_
      intro v25 w26 hH27
      simp only [z0, z1] at hH27
      refine V (run_assign (by conv => lhs; whnf)) ?_
      refine RL.nil ?_
      refine CW.region ?_
      refine V (run_move e8_14) ?_
      refine V (run_add rfl rfl (by omega)) ?_
      refine V (aV (I _) rfl) ?_
      refine RL.nil ?_
      refine ⟨(x + 1, l ++ [x], v25), ?_, fr14.u4.u4.u4.u4.u1.u1, (Hp.conv (hH27.sub (sQ sR)) (by first | rfl | simp)), rfl, (congrArg I (by first | rfl | omega)), ?_, ?_, ?_⟩
      ·((try dsimp only); omega)
      ·omega
      ·omega
      ·(rw [hl]; first | exact readL_yes x0 (nt ‹_›) | exact readL_no x0 (nf ‹_›))
     ·refine CW.skip ?_
      refine CW.region ?_
      refine V (run_move e8_14) ?_
      refine V (run_add rfl rfl (by omega)) ?_
      refine V (aV (I _) rfl) ?_
      refine RL.nil ?_
      refine ⟨(x + 1, l, v7), ?_, fr14.u4.u4.u4.u1, (Hp.conv hH18 (by first | rfl | simp)), e7_14, (congrArg I (by first | rfl | omega)), ?_, ?_, ?_⟩
      ·((try dsimp only); omega)
      ·omega
      ·omega
      ·(rw [hl]; first | exact readL_yes x0 (nt ‹_›) | exact readL_no x0 (nf ‹_›))
    ·refine CW.exit (id := 0) rfl ?_
     refine SR ?_
     refine V (run_move e7_14) ?_
     refine RL.callP rfl hH14 (c_clearanceref01_Of _ _  _ (hH14.sl (i := 0) rfl)) (run_call1 call92 rfl) ?_
     intro w28 hH29
     refine V (aV (U _) rfl) ?_
     refine RL.nil ?_
     refine CW.ret ?_
     refine outP1 Tryz.results64 (congrArg U ?_) hH29.below
     first | exact (read_no (own_no (.inl (nt ‹_›)))).symm | exact (read_no (own_no (.inr (by omega)))).symm | (rw [hl]; exact read_ref ho (by omega))

theorem c_clearanceref05_Owners (r : Rl) (s : BitVec 64) (w : World) : Calls Tryz.prog 63 #[.agg (relC r), U s] w (Pure (U (ownersG r s)) w) := by
 refine enter Tryz.func63 rfl Tryz.ntmps63 rfl ?_
 have hH := Hp.start w
 refine SR ?_
 refine RL.new rfl hH (f := fun b => (.pointer (some ⟨b, 0, none⟩))) (run_box (v := .agg _) rfl) ?_
 intro b3 w1 hH2
 refine V (aV (U 0#64) rfl) ?_
 refine RL.nil ?_
 refine SR ?_
 refine V (aV (.slice none 0 0) rfl) ?_
 have hH4 := hH2.nilRow 3 1
 refine RL.nil ?_
 refine CW.seq ?_
 refine SR ?_
 refine V (run_ldRel underlying48 rfl rfl rfl (hH4.blk (i := 1) rfl)) ?_
 refine RL.callP rfl hH4 (c_clearanceref05_Right _  _) (run_call1 call74 rfl) ?_
 intro w5 hH6
 refine V (run_not rfl) ?_
 refine RL.nil ?_
 refine CW.cond rfl (fun h9 => ?_) (fun h9 => ?_)
 ·refine SR ?_
  refine V (aV (U 0#64) rfl) ?_
  refine RL.nil ?_
  refine CW.ret ?_
  refine outP1 Tryz.results63 (congrArg U ?_) hH6.below
  first | exact (owner_no (nt ‹_›)).symm | (rw [hl]; exact owner_yes hr (by omega))
 ·refine CW.skip ?_
  refine CW.seq ?_
  refine SR ?_
  refine V (aV (I 0) rfl) ?_
  refine RL.nil ?_
  refine CW.block ?_
  have hr : rightG r = true := nf ‹_›
  have hs := right_spec hr
  refine CW.loop (G := (Int) × (List Int) × (Value)) (fun (⟨o, l, v5⟩ : (Int) × (List Int) × (Value)) s' w' => (Fr [5, 6, 10, 11, 12, 13, 14, 15, 16, 17, 18, 19, 20, 21, 22, 23, 24, 25, 26, 27] _ s') ∧ (Hp w w' (.row v5 3 1 (l.length) (l.map I) :: _)) ∧ (s' 5 = v5) ∧ (s' 6 = I o) ∧ (0 ≤ o) ∧ (o ≤ r.n) ∧ (l = ownL r s o)) (fun (⟨o, l, v5⟩ : (Int) × (List Int) × (Value)) => (r.n - o).toNat) ((0, [], (.slice none 0 0 : Value))) ⟨Fr.refl _ _, hH6, rfl, rfl, (by omega), (by omega), rfl⟩ ?_
  rintro ⟨o, l, v5⟩ sg10 w10 ⟨fr10, hH10, e5_10, e6_10, o0, o1, hl⟩
  have e1_10 : sg10 1 = U _ := (fr10 1 rfl).trans rfl
  have e2_10 : sg10 2 = Pn _ _ := (fr10 2 rfl).trans rfl
  have e4_10 : sg10 4 = U _ := (fr10 4 rfl).trans rfl
  refine CW.seq ?_
  refine SR ?_
  refine V (run_move e6_10) ?_
  refine V (fA underlying48 0 rfl sizeOf3 e2_10) ?_
  refine V (run_ld underlying3 rfl rfl (hH10.cell (i := 1) rfl (relC_N _))) ?_
  refine V (run_lss rfl rfl) ?_
  refine RL.nil ?_
  refine CW.condP rfl (fun h12 => ?_) (fun h12 => ?_)
  ·refine CW.skip ?_
   refine CW.seq ?_
   refine CW.block ?_
   refine CW.seq ?_
   refine CW.regionD (by kernel_rfl) hH10 ?_
   intro w13 hH14
   refine AT 0 rfl (hH14.sub sR) (fun w hS => run_ldRel underlying48 rfl rfl e2_10 (hS.blk (i := 1) rfl)) ?_
   refine AT 1 rfl (hH14.sub sR) (fun w hS => run_move e1_10) ?_
   refine AT 2 rfl (hH14.sub sR) (fun w hS => run_move e6_10) ?_
   refine AT 4 rfl (hH14.sub sR) (fun w hS => fA underlying48 0 rfl sizeOf3 e2_10) ?_
   refine AT 5 rfl (hH14.sub sR) (fun w hS => run_ld underlying3 rfl rfl (hS.cell (i := 1) rfl (relC_N _))) ?_
   refine A1 3 ?_
   refine AO.callP rfl gnone rfl hH14 sR (c_clearanceref05_Readers _ _ _  _) (run_call3 call64 rfl rfl rfl) ?_
   intro w15 hH16
   refine A1 6 ?_
   refine AO.callP rfl gnone rfl hH16 sR (c_clearanceref01_Below _  _) (run_call1 call95 rfl) ?_
   intro w17 hH18
   refine AT 7 rfl (hH18.sub sR) (fun w hS => run_neqU rfl rfl) ?_
   refine AD ?_
   refine CW.condP rfl (fun h20 => ?_) (fun h20 => ?_)
   ·refine CW.region ?_
    refine V (run_move e5_10) ?_
    refine V (run_move e6_10) ?_
    refine RL.new rfl hH18 (f := fun b => (.slice (some ⟨b, 0, none⟩) 1 1)) (run_mkL underlying82 rfl rfl (sz := 1) (vs := [I _]) rfl rfl (by decide) (by decide) rfl rfl) ?_
    intro b23 w21 hH22
    (try simp only [List.flatMap_cons, List.flatMap_nil, clI, clB, clS, clP, clL, clA, List.append_nil, List.cons_append, List.nil_append] at hH22)
    refine RL.app rfl hH22 (i := 1) rfl (hH22.slBlk (i := 0) (n := 1) (sz := 1) rfl rfl (by decide)) rfl rfl underlying82 rfl rfl (size := 1) (bytes := 8) rfl rfl rfl (by decide) (by simp [Value.oneCell']) (by rw [hl]; have := @ownL_len r s o; omega) (by rw [hl]; have := @ownL_len r s o; simp only [maxLen]; omega) ?_
    intro v24 w25 hH26
    simp only [z0, z1] at hH26
    refine V (run_assign (by conv => lhs; whnf)) ?_
    refine RL.nil ?_
    refine CW.region ?_
    refine V (run_move e6_10) ?_
    refine V (run_add rfl rfl (by omega)) ?_
    refine V (aV (I _) rfl) ?_
    refine RL.nil ?_
    refine ⟨(o + 1, l ++ [o], v24), ?_, fr10.u4.u4.u4.u4.u4, (Hp.conv (hH26.sub (sQ sR)) (by first | rfl | simp)), rfl, (congrArg I (by first | rfl | omega)), ?_, ?_, ?_⟩
    ·((try dsimp only); omega)
    ·omega
    ·omega
    ·(rw [hl]; first | exact ownL_yes o0 ((read_below hr ⟨o0, ‹_›⟩).1 ‹_›) | exact ownL_no o0 (fun h => ‹¬ readersG r s o ≠ below r.n› ((read_below hr ⟨o0, ‹_›⟩).2 h)))
   ·refine CW.skip ?_
    refine CW.region ?_
    refine V (run_move e6_10) ?_
    refine V (run_add rfl rfl (by omega)) ?_
    refine V (aV (I _) rfl) ?_
    refine RL.nil ?_
    refine ⟨(o + 1, l, v5), ?_, fr10.u4.u4.u4.u1.u1.u1, (Hp.conv hH18 (by first | rfl | simp)), e5_10, (congrArg I (by first | rfl | omega)), ?_, ?_, ?_⟩
    ·((try dsimp only); omega)
    ·omega
    ·omega
    ·(rw [hl]; first | exact ownL_yes o0 ((read_below hr ⟨o0, ‹_›⟩).1 ‹_›) | exact ownL_no o0 (fun h => ‹¬ readersG r s o ≠ below r.n› ((read_below hr ⟨o0, ‹_›⟩).2 h)))
  ·refine CW.exit (id := 0) rfl ?_
   refine SR ?_
   refine V (run_move e5_10) ?_
   refine RL.callP rfl hH10 (c_clearanceref01_Of _ _  _ (hH10.sl (i := 0) rfl)) (run_call1 call92 rfl) ?_
   intro w27 hH28
   refine V (aV (U _) rfl) ?_
   refine RL.nil ?_
   refine CW.ret ?_
   refine outP1 Tryz.results63 (congrArg U ?_) hH28.below
   first | exact (owner_no (nt ‹_›)).symm | (rw [hl]; exact owner_yes hr (by omega))

theorem c_name_letter (c : Int) (w : World) : Calls Tryz.prog 119 #[.int .u8 c] w (Pure (B (letterB c)) w) := by
 refine enter Tryz.func119 rfl Tryz.ntmps119 rfl ?_
 have hH := Hp.start w
 refine SR ?_
 refine V (aV (B false) rfl) ?_
 refine RL.nil ?_
 refine SR ?_
 refine V (mV (.int _ _) rfl) ?_
 refine V (run_geq rfl rfl) ?_
 refine V (mV (B _) rfl) ?_
 refine RL.splitP (dj := 5) rfl (fun h2 => ?_) (fun h2 => ?_)
 ·refine RL.gT rfl (bT h2) ?_
  refine V (mV (.int _ _) rfl) ?_
  refine RL.gT rfl (bT h2) ?_
  refine V (run_leq rfl rfl) ?_
  refine V (run_pickT (bT h2) (v := B _) rfl) ?_
  refine V (aV (B _) rfl) ?_
  refine RL.nil ?_
  refine CW.ret ?_
  refine outP1 Tryz.results119 (congrArg B ?_) hH.below
  (rw [letterB, Bool.eq_iff_iff]; simp only [decide_eq_true_eq, Bool.false_eq_true, false_iff]; omega)
 ·refine RL.gF rfl rfl (bF h2) rfl ?_
  refine RL.gF rfl rfl (bF h2) rfl ?_
  refine V (run_pickF (bF h2) (v := B false) rfl) ?_
  refine V (aV (B _) rfl) ?_
  refine RL.nil ?_
  refine CW.ret ?_
  refine outP1 Tryz.results119 (congrArg B ?_) hH.below
  (rw [letterB, Bool.eq_iff_iff]; simp only [decide_eq_true_eq, Bool.false_eq_true, false_iff]; omega)

theorem c_clearanceref02_letter (c : Int) (w : World) : Calls Tryz.prog 76 #[.int .u8 c] w (Pure (B (letterB c)) w) := by
 refine enter Tryz.func76 rfl Tryz.ntmps76 rfl ?_
 have hH := Hp.start w
 refine SR ?_
 refine V (aV (B false) rfl) ?_
 refine RL.nil ?_
 refine SR ?_
 refine V (mV (.int _ _) rfl) ?_
 refine V (run_geq rfl rfl) ?_
 refine V (mV (B _) rfl) ?_
 refine RL.splitP (dj := 5) rfl (fun h2 => ?_) (fun h2 => ?_)
 ·refine RL.gT rfl (bT h2) ?_
  refine V (mV (.int _ _) rfl) ?_
  refine RL.gT rfl (bT h2) ?_
  refine V (run_leq rfl rfl) ?_
  refine V (run_pickT (bT h2) (v := B _) rfl) ?_
  refine V (aV (B _) rfl) ?_
  refine RL.nil ?_
  refine CW.ret ?_
  refine outP1 Tryz.results76 (congrArg B ?_) hH.below
  (rw [letterB, Bool.eq_iff_iff]; simp only [decide_eq_true_eq, Bool.false_eq_true, false_iff]; omega)
 ·refine RL.gF rfl rfl (bF h2) rfl ?_
  refine RL.gF rfl rfl (bF h2) rfl ?_
  refine V (run_pickF (bF h2) (v := B false) rfl) ?_
  refine V (aV (B _) rfl) ?_
  refine RL.nil ?_
  refine CW.ret ?_
  refine outP1 Tryz.results76 (congrArg B ?_) hH.below
  (rw [letterB, Bool.eq_iff_iff]; simp only [decide_eq_true_eq, Bool.false_eq_true, false_iff]; omega)

theorem c_name_goes (c : Int) (w : World) : Calls Tryz.prog 120 #[.int .u8 c] w (Pure (B (goesB c)) w) := by
 refine enter Tryz.func120 rfl Tryz.ntmps120 rfl ?_
 have hH := Hp.start w
 refine SR ?_
 refine V (aV (B false) rfl) ?_
 refine RL.nil ?_
 refine SR ?_
 refine V (mV (.int _ _) rfl) ?_
 refine RL.callP rfl hH (c_name_letter _  _) (run_call1 call119 rfl) ?_
 intro w1 hH2
 refine V (mV (B _) rfl) ?_
 refine RL.split (dj := 5) rfl (fun h4 => ?_) (fun h4 => ?_)
 ·refine RL.gF rfl rfl (bR (c := true) h4) rfl ?_
  refine RL.gF rfl rfl (bR (c := true) h4) rfl ?_
  refine RL.gF rfl rfl (bR (c := true) h4) rfl ?_
  refine RL.gU rfl rfl rfl ?_
  refine RL.gU rfl rfl rfl ?_
  refine RL.gF rfl rfl (bR (c := true) h4) rfl ?_
  refine V (run_pickT (bR (c := true) h4) (v := B true) rfl) ?_
  refine V (mV (B _) rfl) ?_
  refine RL.gF rfl rfl rfl rfl ?_
  refine RL.gF rfl rfl rfl rfl ?_
  refine V (run_pickT rfl (v := B true) rfl) ?_
  refine V (aV (B _) rfl) ?_
  refine RL.nil ?_
  refine CW.ret ?_
  refine outP1 Tryz.results120 (congrArg B ?_) hH2.below
  first | exact (goes_letter ‹_›).symm | (have hlc := ‹letterB c = false›; rw [letterB, decide_eq_false_iff_not] at hlc; rw [goesB, Bool.eq_iff_iff]; simp only [decide_eq_true_eq, Bool.false_eq_true, false_iff, true_iff]; omega)
 ·refine RL.gT rfl (bR (c := false) h4) ?_
  refine V (mV (.int _ _) rfl) ?_
  refine RL.gT rfl (bR (c := false) h4) ?_
  refine V (run_geq rfl rfl) ?_
  refine RL.gT rfl (bR (c := false) h4) ?_
  refine V (mV (B _) rfl) ?_
  refine RL.splitP (dj := 8) rfl (fun h6 => ?_) (fun h6 => ?_)
  ·refine RL.gT rfl (bT h6) ?_
   refine V (mV (.int _ _) rfl) ?_
   refine RL.gT rfl (bT h6) ?_
   refine V (run_leq rfl rfl) ?_
   refine RL.gT rfl (bR (c := false) h4) ?_
   refine V (run_pickT (bT h6) (v := B _) rfl) ?_
   refine V (run_pickF (bR (c := false) h4) (v := B _) rfl) ?_
   refine V (mV (B _) rfl) ?_
   refine RL.splitP (dj := 13) rfl (fun h8 => ?_) (fun h8 => ?_)
   ·refine RL.gF rfl rfl (bT h8) rfl ?_
    refine RL.gF rfl rfl (bT h8) rfl ?_
    refine V (run_pickT (bT h8) (v := B true) rfl) ?_
    refine V (aV (B _) rfl) ?_
    refine RL.nil ?_
    refine CW.ret ?_
    refine outP1 Tryz.results120 (congrArg B ?_) hH2.below
    first | exact (goes_letter ‹_›).symm | (have hlc := ‹letterB c = false›; rw [letterB, decide_eq_false_iff_not] at hlc; rw [goesB, Bool.eq_iff_iff]; simp only [decide_eq_true_eq, Bool.false_eq_true, false_iff, true_iff]; omega)
   ·refine RL.gT rfl (bF h8) ?_
    refine V (mV (.int _ _) rfl) ?_
    refine RL.gT rfl (bF h8) ?_
    refine V (run_eql rfl rfl) ?_
    refine V (run_pickF (bF h8) (v := B _) rfl) ?_
    refine V (aV (B _) rfl) ?_
    refine RL.nil ?_
    refine CW.ret ?_
    refine outP1 Tryz.results120 (congrArg B ?_) hH2.below
    first | exact (goes_letter ‹_›).symm | (have hlc := ‹letterB c = false›; rw [letterB, decide_eq_false_iff_not] at hlc; rw [goesB, Bool.eq_iff_iff]; simp only [decide_eq_true_eq, Bool.false_eq_true, false_iff, true_iff]; omega)
  ·refine RL.gF rfl rfl (bF h6) rfl ?_
   refine RL.gF rfl rfl (bF h6) rfl ?_
   refine RL.gT rfl (bR (c := false) h4) ?_
   refine V (run_pickF (bF h6) (v := B false) rfl) ?_
   refine V (run_pickF (bR (c := false) h4) (v := B _) rfl) ?_
   refine V (mV (B _) rfl) ?_
   refine RL.gT rfl rfl ?_
   refine V (mV (.int _ _) rfl) ?_
   refine RL.gT rfl rfl ?_
   refine V (run_eql rfl rfl) ?_
   refine V (run_pickF rfl (v := B _) rfl) ?_
   refine V (aV (B _) rfl) ?_
   refine RL.nil ?_
   refine CW.ret ?_
   refine outP1 Tryz.results120 (congrArg B ?_) hH2.below
   first | exact (goes_letter ‹_›).symm | (have hlc := ‹letterB c = false›; rw [letterB, decide_eq_false_iff_not] at hlc; rw [goesB, Bool.eq_iff_iff]; simp only [decide_eq_true_eq, Bool.false_eq_true, false_iff, true_iff]; omega)

theorem c_name_Right (s : Tx) (w : World) : Calls Tryz.prog 86 #[S s] w (Pure (B (nameR s)) w) := by
 have htx := @tx_nil s
 refine enter Tryz.func86 rfl Tryz.ntmps86 rfl ?_
 have hH := Hp.start w
 refine SR ?_
 refine V (aV (B false) rfl) ?_
 refine RL.nil ?_
 refine CW.seq ?_
 refine SR ?_
 refine V (mV (.string _) rfl) ?_
 refine V (run_eqlS rfl rfl) ?_
 refine V (mV (B _) rfl) ?_
 refine RL.splitP (dj := 6) rfl (fun h2 => ?_) (fun h2 => ?_)
 ·refine RL.gF rfl rfl (bT h2) rfl ?_
  refine RL.gF rfl rfl (bT h2) rfl ?_
  refine RL.gF rfl rfl (bT h2) rfl ?_
  refine V (run_pickT (bT h2) (v := B true) rfl) ?_
  refine V (mV (B _) rfl) ?_
  refine RL.gF rfl rfl rfl rfl ?_
  refine RL.gF rfl rfl rfl rfl ?_
  refine RL.gF rfl rfl rfl rfl ?_
  refine RL.gF rfl rfl rfl rfl ?_
  refine V (run_pickT rfl (v := B true) rfl) ?_
  refine RL.nil ?_
  refine CW.condT rfl ?_
  refine SR ?_
  refine V (aV (B false) rfl) ?_
  refine RL.nil ?_
  refine CW.ret ?_
  refine outP1 Tryz.results86 (congrArg B ?_) hH.below
  first | exact (nameR_no1 (by first | omega | (have := htx.1 ‹s = tx0›; omega))).symm | exact (nameR_no2 (nt ‹_›)).symm | exact (nameR_no3 h0 ‹_› (nt ‹_›)).symm | exact (nameR_yes hsz (nf ‹_›) ‹_› hf).symm
 ·refine RL.gT rfl (bF h2) ?_
  refine V (mV (.string _) rfl) ?_
  refine RL.gT rfl (bF h2) ?_
  refine V (run_lenStr rfl underlying9 rfl) ?_
  refine RL.gT rfl (bF h2) ?_
  refine V (run_gtr rfl rfl) ?_
  refine V (run_pickF (bF h2) (v := B _) rfl) ?_
  refine V (mV (B _) rfl) ?_
  refine RL.splitP (dj := 11) rfl (fun h4 => ?_) (fun h4 => ?_)
  ·refine RL.gF rfl rfl (bT h4) rfl ?_
   refine RL.gF rfl rfl (bT h4) rfl ?_
   refine RL.gF rfl rfl (bT h4) rfl ?_
   refine RL.gF rfl rfl (bT h4) rfl ?_
   refine V (run_pickT (bT h4) (v := B true) rfl) ?_
   refine RL.nil ?_
   refine CW.condT rfl ?_
   refine SR ?_
   refine V (aV (B false) rfl) ?_
   refine RL.nil ?_
   refine CW.ret ?_
   refine outP1 Tryz.results86 (congrArg B ?_) hH.below
   first | exact (nameR_no1 (by first | omega | (have := htx.1 ‹s = tx0›; omega))).symm | exact (nameR_no2 (nt ‹_›)).symm | exact (nameR_no3 h0 ‹_› (nt ‹_›)).symm | exact (nameR_yes hsz (nf ‹_›) ‹_› hf).symm
  ·refine RL.gT rfl (bF h4) ?_
   refine V (mV (.string _) rfl) ?_
   refine RL.gT rfl (bF h4) ?_
   refine V (run_idxS underlying9 rfl rfl (by first | omega | (have := mt htx.2 ‹¬ s = tx0›; omega))) ?_
   refine RL.gT rfl (bF h4) ?_
   refine RL.callP rfl hH (c_name_letter _  _) (run_call1 call119 rfl) ?_
   intro w5 hH6
   refine RL.gT rfl (bF h4) ?_
   refine V (run_not rfl) ?_
   refine V (run_pickF (bF h4) (v := B _) rfl) ?_
   refine RL.nil ?_
   refine CW.cond rfl (fun h9 => ?_) (fun h9 => ?_)
   ·refine SR ?_
    refine V (aV (B false) rfl) ?_
    refine RL.nil ?_
    refine CW.ret ?_
    refine outP1 Tryz.results86 (congrArg B ?_) hH6.below
    first | exact (nameR_no1 (by first | omega | (have := htx.1 ‹s = tx0›; omega))).symm | exact (nameR_no2 (nt ‹_›)).symm | exact (nameR_no3 h0 ‹_› (nt ‹_›)).symm | exact (nameR_yes hsz (nf ‹_›) ‹_› hf).symm
   ·refine CW.skip ?_
    refine CW.seq ?_
    refine SR ?_
    refine V (mV (.string _) rfl) ?_
    refine V (run_lenStr rfl underlying9 rfl) ?_
    refine V (mV (I 0) rfl) ?_
    refine RL.nil ?_
    refine CW.block ?_
    have hsz : 1 ≤ s.size ∧ s.size ≤ 16 := ⟨by have := mt htx.2 ‹¬ s = tx0›; omega, by omega⟩
    refine CW.loop (G := (Int)) (fun (k : Int) s' w' => (Fr [2, 3, 19, 20, 21, 22, 23, 24, 25, 26, 27] _ s') ∧ (Hp w w' _) ∧ (s' 19 = I k) ∧ (0 ≤ k) ∧ (k ≤ s.size) ∧ (∀ j : Int, 0 ≤ j → j < k → goesB (byteAt s j) = true)) (fun (k : Int) => (s.size - k).toNat) (0) ⟨Fr.refl _ _, hH6, rfl, (by omega), (by omega), fun j a b => absurd b (by omega)⟩ ?_
    rintro k sg10 w10 ⟨fr10, hH10, e19_10, h0, hk, hf⟩
    have e0_10 : sg10 0 = .string _ := (fr10 0 rfl).trans rfl
    have e18_10 : sg10 18 = I _ := (fr10 18 rfl).trans rfl
    refine SR ?_
    refine V (run_lss e19_10 e18_10) ?_
    refine RL.nil ?_
    refine CW.seq ?_
    refine CW.condP rfl (fun h12 => ?_) (fun h12 => ?_)
    ·refine CW.skip ?_
     refine CW.seq ?_
     refine CW.block ?_
     refine SR ?_
     refine V (run_move e19_10) ?_
     refine V (aV (I _) rfl) ?_
     refine RL.nil ?_
     refine SR ?_
     refine V (run_move e0_10) ?_
     refine V (mV (I _) rfl) ?_
     refine V (run_idxS underlying9 rfl rfl (by first | omega | (have := mt htx.2 ‹¬ s = tx0›; omega))) ?_
     refine RL.callP rfl hH10 (c_name_goes _  _) (run_call1 call120 rfl) ?_
     intro w13 hH14
     refine V (run_not rfl) ?_
     refine RL.nil ?_
     refine CW.cond rfl (fun h17 => ?_) (fun h17 => ?_)
     ·refine SR ?_
      refine V (aV (B false) rfl) ?_
      refine RL.nil ?_
      refine CW.ret ?_
      refine outP1 Tryz.results86 (congrArg B ?_) hH14.below
      first | exact (nameR_no1 (by first | omega | (have := htx.1 ‹s = tx0›; omega))).symm | exact (nameR_no2 (nt ‹_›)).symm | exact (nameR_no3 h0 ‹_› (nt ‹_›)).symm | exact (nameR_yes hsz (nf ‹_›) ‹_› hf).symm
     ·refine CW.skip ?_
      refine CW.region ?_
      refine V (run_add e19_10 rfl (by omega)) ?_
      refine V (mV (I _) rfl) ?_
      refine RL.nil ?_
      refine ⟨k + 1, ?_, fr10.u4.u4.u1.u1, hH14, (congrArg I (by first | rfl | omega)), ?_, ?_, ?_⟩
      ·((try dsimp only); omega)
      ·omega
      ·omega
      ·exact fun j a b => if e : j = k then e ▸ nf ‹_› else hf j a (by omega)
    ·refine CW.exit (id := 0) rfl ?_
     refine SR ?_
     refine V (aV (B true) rfl) ?_
     refine RL.nil ?_
     refine CW.ret ?_
     refine outP1 Tryz.results86 (congrArg B ?_) hH10.below
     first | exact (nameR_no1 (by first | omega | (have := htx.1 ‹s = tx0›; omega))).symm | exact (nameR_no2 (nt ‹_›)).symm | exact (nameR_no3 h0 ‹_› (nt ‹_›)).symm | exact (nameR_yes hsz (nf ‹_›) ‹_› hf).symm

theorem c_clearanceref02_Right (s : Tx) (w : World) : Calls Tryz.prog 32 #[S s] w (Pure (B (nameR s)) w) := by
 refine enter Tryz.func32 rfl Tryz.ntmps32 rfl ?_
 have hH := Hp.start w
 refine SR ?_
 refine V (aV (B false) rfl) ?_
 refine RL.nil ?_
 refine CW.seq ?_
 refine SR ?_
 refine V (mV (.string _) rfl) ?_
 refine V (run_lenStr rfl underlying9 rfl) ?_
 refine V (run_lss rfl rfl) ?_
 refine V (mV (B _) rfl) ?_
 refine RL.splitP (dj := 7) rfl (fun h2 => ?_) (fun h2 => ?_)
 ·refine RL.gF rfl rfl (bT h2) rfl ?_
  refine RL.gF rfl rfl (bT h2) rfl ?_
  refine RL.gF rfl rfl (bT h2) rfl ?_
  refine V (run_pickT (bT h2) (v := B true) rfl) ?_
  refine V (mV (B _) rfl) ?_
  refine RL.gF rfl rfl rfl rfl ?_
  refine RL.gF rfl rfl rfl rfl ?_
  refine RL.gF rfl rfl rfl rfl ?_
  refine RL.gF rfl rfl rfl rfl ?_
  refine V (run_pickT rfl (v := B true) rfl) ?_
  refine RL.nil ?_
  refine CW.condT rfl ?_
  refine SR ?_
  refine V (aV (B false) rfl) ?_
  refine RL.nil ?_
  refine CW.ret ?_
  refine outP1 Tryz.results32 (congrArg B ?_) hH.below
  first | exact (nameR_no1 (by omega)).symm | exact (nameR_no2 (nt ‹_›)).symm | exact (nameR_yes hsz hlt ‹_› hf).symm | exact (nameR_no3 (i := k) (by omega) ‹_› (by have hlc := nt ‹(!letterB (byteAt s k)) = true›; rw [letterB, decide_eq_false_iff_not] at hlc; rw [goesB, decide_eq_false_iff_not]; omega)).symm
 ·refine RL.gT rfl (bF h2) ?_
  refine V (mV (.string _) rfl) ?_
  refine RL.gT rfl (bF h2) ?_
  refine V (run_lenStr rfl underlying9 rfl) ?_
  refine RL.gT rfl (bF h2) ?_
  refine V (run_gtr rfl rfl) ?_
  refine V (run_pickF (bF h2) (v := B _) rfl) ?_
  refine V (mV (B _) rfl) ?_
  refine RL.splitP (dj := 12) rfl (fun h4 => ?_) (fun h4 => ?_)
  ·refine RL.gF rfl rfl (bT h4) rfl ?_
   refine RL.gF rfl rfl (bT h4) rfl ?_
   refine RL.gF rfl rfl (bT h4) rfl ?_
   refine RL.gF rfl rfl (bT h4) rfl ?_
   refine V (run_pickT (bT h4) (v := B true) rfl) ?_
   refine RL.nil ?_
   refine CW.condT rfl ?_
   refine SR ?_
   refine V (aV (B false) rfl) ?_
   refine RL.nil ?_
   refine CW.ret ?_
   refine outP1 Tryz.results32 (congrArg B ?_) hH.below
   first | exact (nameR_no1 (by omega)).symm | exact (nameR_no2 (nt ‹_›)).symm | exact (nameR_yes hsz hlt ‹_› hf).symm | exact (nameR_no3 (i := k) (by omega) ‹_› (by have hlc := nt ‹(!letterB (byteAt s k)) = true›; rw [letterB, decide_eq_false_iff_not] at hlc; rw [goesB, decide_eq_false_iff_not]; omega)).symm
  ·refine RL.gT rfl (bF h4) ?_
   refine V (mV (.string _) rfl) ?_
   refine RL.gT rfl (bF h4) ?_
   refine V (run_idxS underlying9 rfl rfl (by omega)) ?_
   refine RL.gT rfl (bF h4) ?_
   refine RL.callP rfl hH (c_clearanceref02_letter _  _) (run_call1 call76 rfl) ?_
   intro w5 hH6
   refine RL.gT rfl (bF h4) ?_
   refine V (run_not rfl) ?_
   refine V (run_pickF (bF h4) (v := B _) rfl) ?_
   refine RL.nil ?_
   refine CW.cond rfl (fun h9 => ?_) (fun h9 => ?_)
   ·refine SR ?_
    refine V (aV (B false) rfl) ?_
    refine RL.nil ?_
    refine CW.ret ?_
    refine outP1 Tryz.results32 (congrArg B ?_) hH6.below
    first | exact (nameR_no1 (by omega)).symm | exact (nameR_no2 (nt ‹_›)).symm | exact (nameR_yes hsz hlt ‹_› hf).symm | exact (nameR_no3 (i := k) (by omega) ‹_› (by have hlc := nt ‹(!letterB (byteAt s k)) = true›; rw [letterB, decide_eq_false_iff_not] at hlc; rw [goesB, decide_eq_false_iff_not]; omega)).symm
   ·refine CW.skip ?_
    refine CW.seq ?_
    refine SR ?_
    refine V (aV (I 1) rfl) ?_
    refine RL.nil ?_
    refine CW.block ?_
    have hsz : 1 ≤ s.size ∧ s.size ≤ 16 := by omega
    have hlt : letterB (byteAt s 0) = true := nf ‹_›
    refine CW.loop (G := (Int)) (fun (k : Int) s' w' => (Fr [2, 3, 18, 19, 20, 21, 22, 23, 24, 25, 26, 27, 28, 29, 30, 31, 32, 33, 34, 35, 36, 37, 38, 39, 40, 41, 42, 43, 44, 45, 46] _ s') ∧ (Hp w w' _) ∧ (s' 3 = I k) ∧ (1 ≤ k) ∧ (k ≤ s.size) ∧ (∀ j : Int, 0 ≤ j → j < k → goesB (byteAt s j) = true)) (fun (k : Int) => (s.size - k).toNat) (1) ⟨Fr.refl _ _, hH6, rfl, (by omega), (by omega), fun j a b => by rw [show j = 0 by omega]; exact goes_letter hlt⟩ ?_
    rintro k sg10 w10 ⟨fr10, hH10, e3_10, h0, hk, hf⟩
    have e0_10 : sg10 0 = .string _ := (fr10 0 rfl).trans rfl
    refine CW.seq ?_
    refine SR ?_
    refine V (run_move e3_10) ?_
    refine V (run_move e0_10) ?_
    refine V (run_lenStr rfl underlying9 rfl) ?_
    refine V (run_lss rfl rfl) ?_
    refine RL.nil ?_
    refine CW.condP rfl (fun h12 => ?_) (fun h12 => ?_)
    ·refine CW.skip ?_
     refine CW.seq ?_
     refine CW.block ?_
     refine SR ?_
     refine V (run_move e0_10) ?_
     refine V (run_move e3_10) ?_
     refine V (run_idxS underlying9 rfl rfl (by omega)) ?_
     refine RL.callP rfl hH10 (c_clearanceref02_letter _  _) (run_call1 call76 rfl) ?_
     intro w13 hH14
     refine V (run_not rfl) ?_
     refine V (mV (B _) rfl) ?_
     refine RL.split (dj := 29) rfl (fun h17 => ?_) (fun h17 => ?_)
     ·refine RL.gT rfl (bR (c := true) h17) ?_
      refine V (run_move e0_10) ?_
      refine RL.gT rfl (bR (c := true) h17) ?_
      refine V (run_move e3_10) ?_
      refine RL.gT rfl (bR (c := true) h17) ?_
      refine V (run_idxS underlying9 rfl rfl (by omega)) ?_
      refine RL.gT rfl (bR (c := true) h17) ?_
      refine V (run_lss rfl rfl) ?_
      refine RL.gT rfl (bR (c := true) h17) ?_
      refine V (mV (B _) rfl) ?_
      refine RL.splitP (dj := 34) rfl (fun h19 => ?_) (fun h19 => ?_)
      ·refine RL.gF rfl rfl (bT h19) rfl ?_
       refine RL.gF rfl rfl (bT h19) rfl ?_
       refine RL.gF rfl rfl (bT h19) rfl ?_
       refine RL.gF rfl rfl (bT h19) rfl ?_
       refine RL.gT rfl (bR (c := true) h17) ?_
       refine V (run_pickT (bT h19) (v := B true) rfl) ?_
       refine V (run_pickT (bR (c := true) h17) (v := B _) rfl) ?_
       refine V (mV (B _) rfl) ?_
       refine RL.gT rfl rfl ?_
       refine V (run_move e0_10) ?_
       refine RL.gT rfl rfl ?_
       refine V (run_move e3_10) ?_
       refine RL.gT rfl rfl ?_
       refine V (run_idxS underlying9 rfl rfl (by omega)) ?_
       refine RL.gT rfl rfl ?_
       refine V (run_neq rfl rfl) ?_
       refine V (run_pickT rfl (v := B _) rfl) ?_
       refine RL.nil ?_
       refine CW.condP rfl (fun h21 => ?_) (fun h21 => ?_)
       ·refine SR ?_
        refine V (aV (B false) rfl) ?_
        refine RL.nil ?_
        refine CW.ret ?_
        refine outP1 Tryz.results32 (congrArg B ?_) hH14.below
        first | exact (nameR_no1 (by omega)).symm | exact (nameR_no2 (nt ‹_›)).symm | exact (nameR_yes hsz hlt ‹_› hf).symm | exact (nameR_no3 (i := k) (by omega) ‹_› (by have hlc := nt ‹(!letterB (byteAt s k)) = true›; rw [letterB, decide_eq_false_iff_not] at hlc; rw [goesB, decide_eq_false_iff_not]; omega)).symm
       ·refine CW.skip ?_
        refine CW.region ?_
        refine V (run_move e3_10) ?_
        refine V (run_add rfl rfl (by omega)) ?_
        refine V (aV (I _) rfl) ?_
        refine RL.nil ?_
        refine ⟨k + 1, ?_, fr10.u4.u4.u4.u4.u4.u4.u4.u1.u1, hH14, (congrArg I (by first | rfl | omega)), ?_, ?_, ?_⟩
        ·((try dsimp only); omega)
        ·omega
        ·omega
        ·exact fun j a b => if e : j = k then e ▸ (by first | exact goes_letter (nf ‹_›) | exact goes_letter ‹_› | (rw [goesB, decide_eq_true_eq]; omega)) else hf j a (by omega)
      ·refine RL.gT rfl (bF h19) ?_
       refine V (run_move e0_10) ?_
       refine RL.gT rfl (bF h19) ?_
       refine V (run_move e3_10) ?_
       refine RL.gT rfl (bF h19) ?_
       refine V (run_idxS underlying9 rfl rfl (by omega)) ?_
       refine RL.gT rfl (bF h19) ?_
       refine V (run_gtr rfl rfl) ?_
       refine RL.gT rfl (bR (c := true) h17) ?_
       refine V (run_pickF (bF h19) (v := B _) rfl) ?_
       refine V (run_pickT (bR (c := true) h17) (v := B _) rfl) ?_
       refine V (mV (B _) rfl) ?_
       refine RL.splitP (dj := 41) rfl (fun h23 => ?_) (fun h23 => ?_)
       ·refine RL.gT rfl (bT h23) ?_
        refine V (run_move e0_10) ?_
        refine RL.gT rfl (bT h23) ?_
        refine V (run_move e3_10) ?_
        refine RL.gT rfl (bT h23) ?_
        refine V (run_idxS underlying9 rfl rfl (by omega)) ?_
        refine RL.gT rfl (bT h23) ?_
        refine V (run_neq rfl rfl) ?_
        refine V (run_pickT (bT h23) (v := B _) rfl) ?_
        refine RL.nil ?_
        refine CW.condP rfl (fun h25 => ?_) (fun h25 => ?_)
        ·refine SR ?_
         refine V (aV (B false) rfl) ?_
         refine RL.nil ?_
         refine CW.ret ?_
         refine outP1 Tryz.results32 (congrArg B ?_) hH14.below
         first | exact (nameR_no1 (by omega)).symm | exact (nameR_no2 (nt ‹_›)).symm | exact (nameR_yes hsz hlt ‹_› hf).symm | exact (nameR_no3 (i := k) (by omega) ‹_› (by have hlc := nt ‹(!letterB (byteAt s k)) = true›; rw [letterB, decide_eq_false_iff_not] at hlc; rw [goesB, decide_eq_false_iff_not]; omega)).symm
        ·refine CW.skip ?_
         refine CW.region ?_
         refine V (run_move e3_10) ?_
         refine V (run_add rfl rfl (by omega)) ?_
         refine V (aV (I _) rfl) ?_
         refine RL.nil ?_
         refine ⟨k + 1, ?_, fr10.u4.u4.u4.u4.u4.u4.u4.u1.u1, hH14, (congrArg I (by first | rfl | omega)), ?_, ?_, ?_⟩
         ·((try dsimp only); omega)
         ·omega
         ·omega
         ·exact fun j a b => if e : j = k then e ▸ (by first | exact goes_letter (nf ‹_›) | exact goes_letter ‹_› | (rw [goesB, decide_eq_true_eq]; omega)) else hf j a (by omega)
       ·refine RL.gF rfl rfl (bF h23) rfl ?_
        refine RL.gF rfl rfl (bF h23) rfl ?_
        refine RL.gF rfl rfl (bF h23) rfl ?_
        refine RL.gF rfl rfl (bF h23) rfl ?_
        refine V (run_pickF (bF h23) (v := B false) rfl) ?_
        refine RL.nil ?_
        refine CW.condF rfl ?_
        refine CW.skip ?_
        refine CW.region ?_
        refine V (run_move e3_10) ?_
        refine V (run_add rfl rfl (by omega)) ?_
        refine V (aV (I _) rfl) ?_
        refine RL.nil ?_
        refine ⟨k + 1, ?_, fr10.u4.u4.u4.u4.u4.u4.u4.u1.u1, hH14, (congrArg I (by first | rfl | omega)), ?_, ?_, ?_⟩
        ·((try dsimp only); omega)
        ·omega
        ·omega
        ·exact fun j a b => if e : j = k then e ▸ (by first | exact goes_letter (nf ‹_›) | exact goes_letter ‹_› | (rw [goesB, decide_eq_true_eq]; omega)) else hf j a (by omega)
     ·refine RL.gF rfl rfl (bR (c := false) h17) rfl ?_
      refine RL.gF rfl rfl (bR (c := false) h17) rfl ?_
      refine RL.gF rfl rfl (bR (c := false) h17) rfl ?_
      refine RL.gF rfl rfl (bR (c := false) h17) rfl ?_
      refine RL.gF rfl rfl (bR (c := false) h17) rfl ?_
      refine RL.gU rfl rfl rfl ?_
      refine RL.gU rfl rfl rfl ?_
      refine RL.gU rfl rfl rfl ?_
      refine RL.gU rfl rfl rfl ?_
      refine RL.gF rfl rfl (bR (c := false) h17) rfl ?_
      refine V (run_pickF (bR (c := false) h17) (v := B false) rfl) ?_
      refine V (mV (B _) rfl) ?_
      refine RL.gF rfl rfl rfl rfl ?_
      refine RL.gF rfl rfl rfl rfl ?_
      refine RL.gF rfl rfl rfl rfl ?_
      refine RL.gF rfl rfl rfl rfl ?_
      refine V (run_pickF rfl (v := B false) rfl) ?_
      refine RL.nil ?_
      refine CW.condF rfl ?_
      refine CW.skip ?_
      refine CW.region ?_
      refine V (run_move e3_10) ?_
      refine V (run_add rfl rfl (by omega)) ?_
      refine V (aV (I _) rfl) ?_
      refine RL.nil ?_
      refine ⟨k + 1, ?_, fr10.u4.u4.u4.u4.u4.u4.u4.u1.u1, hH14, (congrArg I (by first | rfl | omega)), ?_, ?_, ?_⟩
      ·((try dsimp only); omega)
      ·omega
      ·omega
      ·exact fun j a b => if e : j = k then e ▸ (by first | exact goes_letter (nf ‹_›) | exact goes_letter ‹_› | (rw [goesB, decide_eq_true_eq]; omega)) else hf j a (by omega)
    ·refine CW.exit (id := 0) rfl ?_
     refine SR ?_
     refine V (aV (B true) rfl) ?_
     refine RL.nil ?_
     refine CW.ret ?_
     refine outP1 Tryz.results32 (congrArg B ?_) hH10.below
     first | exact (nameR_no1 (by omega)).symm | exact (nameR_no2 (nt ‹_›)).symm | exact (nameR_yes hsz hlt ‹_› hf).symm | exact (nameR_no3 (i := k) (by omega) ‹_› (by have hlc := nt ‹(!letterB (byteAt s k)) = true›; rw [letterB, decide_eq_false_iff_not] at hlc; rw [goesB, decide_eq_false_iff_not]; omega)).symm

theorem c_name_place (n : Int) (f : FuncId) (cs : List Value) (P : Int → Bool) (hn : 0 ≤ n ∧ n ≤ 9223372036854775807) (w : World) (hf : ∀ args w, (callFunc f args).run Tryz.prog w = .ok (.enter f args) w) (go : ∀ i w', Below w.heap.size w w' → 0 ≤ i → i < n → Calls Tryz.prog f (I i :: cs).toArray w' (Pure (B (P i)) w')) : Calls Tryz.prog 121 #[I 0, I n, .func (.func f) #[] cs.toArray] w (Pure (I (findV P n)) w) := by
 refine enter Tryz.func121 rfl Tryz.ntmps121 rfl ?_
 have hH := Hp.start w
 refine SR ?_
 refine V (aV (I 0) rfl) ?_
 refine RL.nil ?_
 refine CW.seq ?_
 refine SR ?_
 refine V (mV (I _) rfl) ?_
 refine V (aV (I _) rfl) ?_
 refine RL.nil ?_
 refine CW.block ?_
 refine CW.loop (G := (Int)) (fun (k : Int) s' w' => (Fr [6, 7, 9, 10, 11, 12, 13, 14, 15, 16, 17] _ s') ∧ (Hp w w' _) ∧ (s' 7 = I k) ∧ (0 ≤ k) ∧ (k ≤ n) ∧ (∀ j : Int, 0 ≤ j → j < k → P j = false)) (fun (k : Int) => (n - k).toNat) (0) ⟨Fr.refl _ _, hH, rfl, (by omega), (by omega), fun j a b => absurd b (by omega)⟩ ?_
 rintro k sg1 w1 ⟨fr1, hH1, e7_1, h0, hk, hg⟩
 have e1_1 : sg1 1 = I _ := (fr1 1 rfl).trans rfl
 have e2_1 : sg1 2 = .func _ _ _ := (fr1 2 rfl).trans rfl
 refine CW.seq ?_
 refine SR ?_
 refine V (run_move e7_1) ?_
 refine V (run_move e1_1) ?_
 refine V (run_lss rfl rfl) ?_
 refine RL.nil ?_
 refine CW.condP rfl (fun h3 => ?_) (fun h3 => ?_)
 ·refine CW.skip ?_
  refine CW.seq ?_
  refine CW.block ?_
  refine SR ?_
  refine V (run_move e2_1) ?_
  refine V (run_move e7_1) ?_
  refine RL.callP rfl hH1 (go _ _ hH1.below (by omega) (by omega)) (run_callC1 hf (cs := cs) rfl rfl) ?_
  intro w4 hH5
  refine RL.nil ?_
  refine CW.cond rfl (fun h7 => ?_) (fun h7 => ?_)
  ·refine SR ?_
   refine V (run_move e7_1) ?_
   refine V (aV (I _) rfl) ?_
   refine RL.nil ?_
   refine CW.ret ?_
   refine outP1 Tryz.results121 (congrArg I ?_) hH5.below
   first | exact (find_yes h0 ‹_› ‹_› hg).symm | exact (find_no fun j a b => hg j a (by omega)).symm
  ·refine CW.skip ?_
   refine CW.region ?_
   refine V (run_move e7_1) ?_
   refine V (run_add rfl rfl (by omega)) ?_
   refine V (aV (I _) rfl) ?_
   refine RL.nil ?_
   refine ⟨k + 1, ?_, fr1.u4.u4.u1, hH5, (congrArg I (by first | rfl | omega)), ?_, ?_, ?_⟩
   ·((try dsimp only); omega)
   ·omega
   ·omega
   ·exact fun j a b => if e : j = k then e ▸ ‹P k = false› else hg j a (by omega)
 ·refine CW.exit (id := 0) rfl ?_
  refine SR ?_
  refine V (aV (I (-1)) rfl) ?_
  refine RL.nil ?_
  refine CW.ret ?_
  refine outP1 Tryz.results121 (congrArg I ?_) hH1.below
  first | exact (find_yes h0 ‹_› ‹_› hg).symm | exact (find_no fun j a b => hg j a (by omega)).symm

theorem c_name_Find_1 (b c : Nat) (v : Value) (l : List Tx) (s : Tx) (i : Int) (hi : 0 ≤ i ∧ i < l.length) (w : World) (hs : Sl w v 1 l.length (txL l)) (hb : w.heap[b]? = some (.cells #[v] 45 (0, 0))) (hc : w.heap[c]? = some (.cells #[S s] 9 (0, 0))) : Calls Tryz.prog 122 #[I i, .pointer (some ⟨b, 0, none⟩), .pointer (some ⟨c, 0, none⟩)] w (Pure (B (decide (l.getD i.toNat tx0 = s))) w) := by
 have hm := hs.small
 unfold maxLen at hm
 refine enter Tryz.func122 rfl Tryz.ntmps122 rfl ?_
 have hH := Hp.start w
 refine SR ?_
 refine V (aV (B false) rfl) ?_
 refine RL.nil ?_
 refine CW.seq ?_
 refine CW.regionD (by kernel_rfl) hH ?_
 intro w1 hH2
 refine AT 0 rfl (hH2.sub sR) (fun w hS => run_ld underlying45 rfl rfl (hS.extCell hb rfl)) ?_
 refine AT 1 rfl (hH2.sub sR) (fun w hS => mV (I _) rfl) ?_
 refine AT 2 rfl (hH2.sub sR) (fun w hS => run_indexAddrS (hs.hp hS) underlying45 sizeOf9 rfl rfl (by omega)) ?_
 refine AT 3 rfl (hH2.sub sR) (fun w hS => run_ld underlying9 rfl rfl ((hs.hp hS).cell _ _ (txL_at (by omega)))) ?_
 refine AT 4 rfl (hH2.sub sR) (fun w hS => run_ld underlying9 rfl rfl (hS.extCell hc (v := .string _) rfl)) ?_
 refine AT 5 rfl (hH2.sub sR) (fun w hS => run_eqlS rfl rfl) ?_
 refine AT 6 rfl (hH2.sub sR) (fun w hS => aV (B _) rfl) ?_
 refine AD ?_
 refine CW.ret ?_
 refine outP1 Tryz.results122 (congrArg B ?_) hH2.below
 rfl

theorem c_name_Find (v : Value) (l : List Tx) (s : Tx) (w : World) (hs : Sl w v 1 l.length (txL l)) : Calls Tryz.prog 87 #[v, S s] w (Pure (I (nfind l s)) w) := by
 have hm := hs.small
 unfold maxLen at hm
 refine enter Tryz.func87 rfl Tryz.ntmps87 rfl ?_
 have hH := Hp.start w
 refine SR ?_
 refine RL.new rfl hH (f := fun b => (.pointer (some ⟨b, 0, none⟩))) (run_box (by conv => lhs; whnf)) ?_
 intro b3 w1 hH2
 rw [(one_sl hs).2] at hH2
 refine RL.new rfl hH2 (f := fun b => (.pointer (some ⟨b, 0, none⟩))) (run_box (v := .string _) rfl) ?_
 intro b6 w4 hH5
 refine V (aV (I 0) rfl) ?_
 refine RL.nil ?_
 refine SR ?_
 refine V (run_ld underlying45 rfl rfl (hH5.cell (i := 1) rfl rfl)) ?_
 refine V (run_lenSl (hs.hp hH5) rfl underlying45 rfl) ?_
 refine V (run_mkF2 (by conv => lhs; whnf) (by conv => lhs; whnf)) ?_
 refine RL.callP rfl hH5 (c_name_place _ 122 [.pointer (some ⟨b3, 0, none⟩), .pointer (some ⟨b6, 0, none⟩)] (fun i => decide (l.getD i.toNat tx0 = s)) (by omega) _ call122 (fun i w h h0 h1 => c_name_Find_1 b3 b6 v l s i ⟨h0, h1⟩ w ((hs.hp hH5).below h) (keep h (hH5.blk (i := 1) rfl)) (keep h (hH5.blk (i := 0) rfl)))) (run_call3 call121 (show _ = I 0 from rfl) rfl rfl) ?_
 intro w7 hH8
 refine V (aV (I _) rfl) ?_
 refine RL.nil ?_
 refine CW.ret ?_
 refine outP1 Tryz.results87 (congrArg I ?_) hH8.below
 rfl

theorem c_name_Twice_1 (b : Nat) (v : Value) (l : List Tx) (i : Int) (hi : 0 ≤ i ∧ i < l.length) (w : World) (hs : Sl w v 1 l.length (txL l)) (hb : w.heap[b]? = some (.cells #[v] 45 (0, 0))) : Calls Tryz.prog 136 #[I i, .pointer (some ⟨b, 0, none⟩)] w (Pure (B (decide (nfind l (l.getD i.toNat tx0) < i))) w) := by
 have hm := hs.small
 unfold maxLen at hm
 refine enter Tryz.func136 rfl Tryz.ntmps136 rfl ?_
 have hH := Hp.start w
 refine SR ?_
 refine V (aV (B false) rfl) ?_
 refine RL.nil ?_
 refine CW.seq ?_
 refine CW.regionD (by kernel_rfl) hH ?_
 intro w1 hH2
 refine AT 0 rfl (hH2.sub sR) (fun w hS => run_ld underlying45 rfl rfl (hS.extCell hb rfl)) ?_
 refine AT 1 rfl (hH2.sub sR) (fun w hS => mV (I _) rfl) ?_
 refine AT 3 rfl (hH2.sub sR) (fun w hS => run_ld underlying45 rfl rfl (hS.extCell hb rfl)) ?_
 refine AT 4 rfl (hH2.sub sR) (fun w hS => mV (I _) rfl) ?_
 refine AT 5 rfl (hH2.sub sR) (fun w hS => run_indexAddrS (hs.hp hS) underlying45 sizeOf9 rfl rfl (by omega)) ?_
 refine AT 6 rfl (hH2.sub sR) (fun w hS => run_ld underlying9 rfl rfl ((hs.hp hS).cell _ _ (txL_at (by omega)))) ?_
 refine A1 2 ?_
 refine AO.read rfl gnone rfl hH2 sR (run_cut (hs.hp hH2) underlying45 sizeOf9 rfl rfl (by omega)) ?_
 refine A1 7 ?_
 refine AO.callP rfl gnone rfl hH2 sR (c_name_Find _ _ _  _ ((hs.hp hH2).cutT (by omega))) (run_call2 call87 rfl rfl) ?_
 intro w5 hH6
 refine AT 8 rfl (hH6.sub sR) (fun w hS => run_geq rfl rfl) ?_
 refine AT 9 rfl (hH6.sub sR) (fun w hS => aV (B _) rfl) ?_
 refine AD ?_
 refine CW.ret ?_
 refine outP1 Tryz.results136 (congrArg B ?_) hH6.below
 exact tx_ahead hi.1 hi.2

theorem c_name_Twice (v : Value) (l : List Tx) (w : World) (hs : Sl w v 1 l.length (txL l)) : Calls Tryz.prog 113 #[v] w (Pure (I (twice l)) w) := by
 have hm := hs.small
 unfold maxLen at hm
 refine enter Tryz.func113 rfl Tryz.ntmps113 rfl ?_
 have hH := Hp.start w
 refine SR ?_
 refine RL.new rfl hH (f := fun b => (.pointer (some ⟨b, 0, none⟩))) (run_box (by conv => lhs; whnf)) ?_
 intro b3 w1 hH2
 rw [(one_sl hs).2] at hH2
 refine V (aV (I 0) rfl) ?_
 refine RL.nil ?_
 refine SR ?_
 refine V (run_ld underlying45 rfl rfl (hH2.cell (i := 0) rfl rfl)) ?_
 refine V (run_lenSl (hs.hp hH2) rfl underlying45 rfl) ?_
 refine V (run_mkF1 (by conv => lhs; whnf)) ?_
 refine RL.callP rfl hH2 (c_name_place _ 136 [.pointer (some ⟨b3, 0, none⟩)] (fun i => decide (nfind l (l.getD i.toNat tx0) < i)) (by omega) _ call136 (fun i w h h0 h1 => c_name_Twice_1 b3 v l i ⟨h0, h1⟩ w ((hs.hp hH2).below h) (keep h (hH2.blk (i := 0) rfl)))) (run_call3 call121 (show _ = I 0 from rfl) rfl rfl) ?_
 intro w4 hH5
 refine V (aV (I _) rfl) ?_
 refine RL.nil ?_
 refine CW.ret ?_
 refine outP1 Tryz.results113 (congrArg I ?_) hH5.below
 rfl

theorem c_clearanceref02_Find (v : Value) (l : List Tx) (s : Tx) (w : World) (hs : Sl w v 1 l.length (txL l)) : Calls Tryz.prog 49 #[v, S s] w (Pure (I (nfind l s)) w) := by
 have hm := hs.small
 unfold maxLen at hm
 refine enter Tryz.func49 rfl Tryz.ntmps49 rfl ?_
 have hH := Hp.start w
 refine SR ?_
 refine V (aV (I 0) rfl) ?_
 refine RL.nil ?_
 refine CW.seq ?_
 refine SR ?_
 refine V (aV (I 0) rfl) ?_
 refine RL.nil ?_
 refine CW.block ?_
 refine CW.loop (G := (Int)) (fun (k : Int) s' w' => (Fr [4, 5, 6, 7, 8, 9, 10, 11, 12, 13, 14, 15, 16, 17, 18] _ s') ∧ (Hp w w' _) ∧ (s' 5 = I k) ∧ (0 ≤ k) ∧ (k ≤ l.length) ∧ (∀ j : Int, 0 ≤ j → j < k → decide (l.getD j.toNat tx0 = s) = false)) (fun (k : Int) => (l.length - k).toNat) (0) ⟨Fr.refl _ _, hH, rfl, (by omega), (by omega), fun j a b => absurd b (by omega)⟩ ?_
 rintro k sg1 w1 ⟨fr1, hH1, e5_1, h0, hk, hg⟩
 have e0_1 := (fr1 0 rfl).trans (by conv => lhs; whnf)
 have e1_1 : sg1 1 = .string _ := (fr1 1 rfl).trans rfl
 refine CW.seq ?_
 refine SR ?_
 refine V (run_move e5_1) ?_
 refine V (run_move e0_1) ?_
 refine V (run_lenSl (hs.hp hH1) rfl underlying45 rfl) ?_
 refine V (run_lss rfl rfl) ?_
 refine RL.nil ?_
 refine CW.condP rfl (fun h3 => ?_) (fun h3 => ?_)
 ·refine CW.skip ?_
  refine CW.seq ?_
  refine CW.block ?_
  refine SR ?_
  refine V (run_move e0_1) ?_
  refine V (run_move e5_1) ?_
  refine V (run_indexAddrS (hs.hp hH1) underlying45 sizeOf9 rfl rfl (by omega)) ?_
  refine V (run_ld underlying9 rfl rfl ((hs.hp hH1).cell _ _ (txL_at (by omega)))) ?_
  refine V (run_move e1_1) ?_
  refine V (run_eqlS rfl rfl) ?_
  refine RL.nil ?_
  refine CW.condP rfl (fun h5 => ?_) (fun h5 => ?_)
  ·refine SR ?_
   refine V (run_move e5_1) ?_
   refine V (aV (I _) rfl) ?_
   refine RL.nil ?_
   refine CW.ret ?_
   refine outP1 Tryz.results49 (congrArg I ?_) hH1.below
   first | exact (find_yes h0 ‹_› (decide_eq_true ‹_›) hg).symm | exact (find_no fun j a b => hg j a (by omega)).symm
  ·refine CW.skip ?_
   refine CW.region ?_
   refine V (run_move e5_1) ?_
   refine V (run_add rfl rfl (by omega)) ?_
   refine V (aV (I _) rfl) ?_
   refine RL.nil ?_
   refine ⟨k + 1, ?_, fr1.u4.u4.u4.u1, hH1, (congrArg I (by first | rfl | omega)), ?_, ?_, ?_⟩
   ·((try dsimp only); omega)
   ·omega
   ·omega
   ·exact fun j a b => if e : j = k then e ▸ decide_eq_false ‹_› else hg j a (by omega)
 ·refine CW.exit (id := 0) rfl ?_
  refine SR ?_
  refine V (aV (I (-1)) rfl) ?_
  refine RL.nil ?_
  refine CW.ret ?_
  refine outP1 Tryz.results49 (congrArg I ?_) hH1.below
  first | exact (find_yes h0 ‹_› (decide_eq_true ‹_›) hg).symm | exact (find_no fun j a b => hg j a (by omega)).symm

theorem c_clearanceref02_Twice (v : Value) (l : List Tx) (w : World) (hs : Sl w v 1 l.length (txL l)) : Calls Tryz.prog 72 #[v] w (Pure (I (twice l)) w) := by
 have hm := hs.small
 unfold maxLen at hm
 refine enter Tryz.func72 rfl Tryz.ntmps72 rfl ?_
 have hH := Hp.start w
 refine SR ?_
 refine V (aV (I 0) rfl) ?_
 refine RL.nil ?_
 refine CW.seq ?_
 refine SR ?_
 refine V (aV (I 0) rfl) ?_
 refine RL.nil ?_
 refine CW.block ?_
 refine CW.loop (G := (Int)) (fun (k : Int) s' w' => (Fr [2, 3, 4, 5, 6, 7, 8, 9, 10, 11, 12, 13, 14, 15, 16, 17, 18] _ s') ∧ (Hp w w' _) ∧ (s' 3 = I k) ∧ (0 ≤ k) ∧ (k ≤ l.length) ∧ (∀ j : Int, 0 ≤ j → j < k → decide (nfind l (l.getD j.toNat tx0) < j) = false)) (fun (k : Int) => (l.length - k).toNat) (0) ⟨Fr.refl _ _, hH, rfl, (by omega), (by omega), fun j a b => absurd b (by omega)⟩ ?_
 rintro k sg1 w1 ⟨fr1, hH1, e3_1, h0, hk, hg⟩
 have e0_1 := (fr1 0 rfl).trans (by conv => lhs; whnf)
 refine CW.seq ?_
 refine SR ?_
 refine V (run_move e3_1) ?_
 refine V (run_move e0_1) ?_
 refine V (run_lenSl (hs.hp hH1) rfl underlying45 rfl) ?_
 refine V (run_lss rfl rfl) ?_
 refine RL.nil ?_
 refine CW.condP rfl (fun h3 => ?_) (fun h3 => ?_)
 ·refine CW.skip ?_
  refine CW.seq ?_
  refine CW.block ?_
  refine SR ?_
  refine V (run_move e0_1) ?_
  refine V (run_move e0_1) ?_
  refine V (run_move e3_1) ?_
  refine V (run_indexAddrS (hs.hp hH1) underlying45 sizeOf9 rfl rfl (by omega)) ?_
  refine V (run_ld underlying9 rfl rfl ((hs.hp hH1).cell _ _ (txL_at (by omega)))) ?_
  refine RL.callP rfl hH1 (c_clearanceref02_Find _ _ _  _ (hs.hp hH1)) (run_call2 call49 rfl rfl) ?_
  intro w4 hH5
  refine V (run_move e3_1) ?_
  refine V (run_lss rfl rfl) ?_
  refine RL.nil ?_
  refine CW.condP rfl (fun h7 => ?_) (fun h7 => ?_)
  ·refine SR ?_
   refine V (run_move e3_1) ?_
   refine V (aV (I _) rfl) ?_
   refine RL.nil ?_
   refine CW.ret ?_
   refine outP1 Tryz.results72 (congrArg I ?_) hH5.below
   first | exact (find_yes h0 ‹_› (decide_eq_true ‹_›) hg).symm | exact (find_no fun j a b => hg j a (by omega)).symm
  ·refine CW.skip ?_
   refine CW.region ?_
   refine V (run_move e3_1) ?_
   refine V (run_add rfl rfl (by omega)) ?_
   refine V (aV (I _) rfl) ?_
   refine RL.nil ?_
   refine ⟨k + 1, ?_, fr1.u4.u4.u4.u1.u1.u1, hH5, (congrArg I (by first | rfl | omega)), ?_, ?_, ?_⟩
   ·((try dsimp only); omega)
   ·omega
   ·omega
   ·exact fun j a b => if e : j = k then e ▸ decide_eq_false ‹_› else hg j a (by omega)
 ·refine CW.exit (id := 0) rfl ?_
  refine SR ?_
  refine V (aV (I (-1)) rfl) ?_
  refine RL.nil ?_
  refine CW.ret ?_
  refine outP1 Tryz.results72 (congrArg I ?_) hH1.below
  first | exact (find_yes h0 ‹_› (decide_eq_true ‹_›) hg).symm | exact (find_no fun j a b => hg j a (by omega)).symm

theorem c_shape_named (v : Value) (l : List Tx) (w : World) (hs : Sl w v 1 l.length (txL l)) : Calls Tryz.prog 82 #[v] w (Pure (B (namedF l)) w) := by
 have hm := hs.small
 unfold maxLen at hm
 refine enter Tryz.func82 rfl Tryz.ntmps82 rfl ?_
 have hH := Hp.start w
 refine SR ?_
 refine V (aV (B false) rfl) ?_
 refine RL.nil ?_
 refine CW.seq ?_
 refine SR ?_
 refine V (run_move (by conv => lhs; whnf)) ?_
 refine V (run_lenSl (hs.hp hH) rfl underlying45 rfl) ?_
 refine V (run_lss rfl rfl) ?_
 refine V (mV (B _) rfl) ?_
 refine RL.splitP (dj := 8) rfl (fun h2 => ?_) (fun h2 => ?_)
 ·refine RL.gF rfl rfl (bT h2) rfl ?_
  refine RL.gF rfl rfl (bT h2) rfl ?_
  refine RL.gF rfl rfl (bT h2) rfl ?_
  refine V (run_pickT (bT h2) (v := B true) rfl) ?_
  refine V (mV (B _) rfl) ?_
  refine RL.gF rfl rfl rfl rfl ?_
  refine RL.gF rfl rfl rfl rfl ?_
  refine RL.gF rfl rfl rfl rfl ?_
  refine V (run_pickT rfl (v := B true) rfl) ?_
  refine RL.nil ?_
  refine CW.condT rfl ?_
  refine SR ?_
  refine V (aV (B false) rfl) ?_
  refine RL.nil ?_
  refine CW.ret ?_
  refine outP1 Tryz.results82 (congrArg B ?_) hH.below
  first | exact (named_no3 h0 ‹_› (nt ‹_›)).symm | exact (named_yes hn1 hn2 ‹_› hg).symm | exact (named_no1 (by omega)).symm | exact (named_no2 (by omega)).symm
 ·refine RL.gT rfl (bF h2) ?_
  refine V (run_move (by conv => lhs; whnf)) ?_
  refine RL.gT rfl (bF h2) ?_
  refine V (run_lenSl (hs.hp hH) rfl underlying45 rfl) ?_
  refine RL.gT rfl (bF h2) ?_
  refine V (run_gtr rfl rfl) ?_
  refine V (run_pickF (bF h2) (v := B _) rfl) ?_
  refine V (mV (B _) rfl) ?_
  refine RL.splitP (dj := 13) rfl (fun h4 => ?_) (fun h4 => ?_)
  ·refine RL.gF rfl rfl (bT h4) rfl ?_
   refine RL.gF rfl rfl (bT h4) rfl ?_
   refine RL.gF rfl rfl (bT h4) rfl ?_
   refine V (run_pickT (bT h4) (v := B true) rfl) ?_
   refine RL.nil ?_
   refine CW.condT rfl ?_
   refine SR ?_
   refine V (aV (B false) rfl) ?_
   refine RL.nil ?_
   refine CW.ret ?_
   refine outP1 Tryz.results82 (congrArg B ?_) hH.below
   first | exact (named_no3 h0 ‹_› (nt ‹_›)).symm | exact (named_yes hn1 hn2 ‹_› hg).symm | exact (named_no1 (by omega)).symm | exact (named_no2 (by omega)).symm
  ·refine RL.gT rfl (bF h4) ?_
   refine V (run_move (by conv => lhs; whnf)) ?_
   refine RL.gT rfl (bF h4) ?_
   refine RL.callP rfl hH (c_name_Twice _ _  _ (hs.hp hH)) (run_call1 call113 rfl) ?_
   intro w5 hH6
   refine RL.gT rfl (bF h4) ?_
   refine V (run_geq rfl rfl) ?_
   refine V (run_pickF (bF h4) (v := B _) rfl) ?_
   refine RL.nil ?_
   refine CW.condP rfl (fun h8 => ?_) (fun h8 => ?_)
   ·refine SR ?_
    refine V (aV (B false) rfl) ?_
    refine RL.nil ?_
    refine CW.ret ?_
    refine outP1 Tryz.results82 (congrArg B ?_) hH6.below
    first | exact (named_no3 h0 ‹_› (nt ‹_›)).symm | exact (named_yes hn1 hn2 ‹_› hg).symm | exact (named_no1 (by omega)).symm | exact (named_no2 (by omega)).symm
   ·refine CW.skip ?_
    refine CW.seq ?_
    refine SR ?_
    refine V (run_move (by conv => lhs; whnf)) ?_
    refine V (run_lenSl (hs.hp hH6) rfl underlying45 rfl) ?_
    refine V (mV (I 0) rfl) ?_
    refine RL.nil ?_
    refine CW.block ?_
    have hn1 : 1 ≤ l.length ∧ l.length ≤ 64 := by omega
    have hn2 : twice l < 0 := by omega
    refine CW.loop (G := (Int)) (fun (k : Int) s' w' => (Fr [2, 4, 20, 21, 22, 23, 24, 25, 26, 27] _ s') ∧ (Hp w w' _) ∧ (s' 20 = I k) ∧ (0 ≤ k) ∧ (k ≤ l.length) ∧ (∀ j : Int, 0 ≤ j → j < k → nameR (l.getD j.toNat tx0) = true)) (fun (k : Int) => (l.length - k).toNat) (0) ⟨Fr.refl _ _, hH6, rfl, (by omega), (by omega), fun j a b => absurd b (by omega)⟩ ?_
    rintro k sg9 w9 ⟨fr9, hH9, e20_9, h0, hk, hg⟩
    have e18_9 := (fr9 18 rfl).trans (by conv => lhs; whnf)
    have e19_9 : sg9 19 = I _ := (fr9 19 rfl).trans rfl
    refine SR ?_
    refine V (run_lss e20_9 e19_9) ?_
    refine RL.nil ?_
    refine CW.seq ?_
    refine CW.condP rfl (fun h11 => ?_) (fun h11 => ?_)
    ·refine CW.skip ?_
     refine CW.seq ?_
     refine CW.block ?_
     refine SR ?_
     refine V (run_indexAddrS (hs.hp hH9) underlying45 sizeOf9 e18_9 e20_9 (by omega)) ?_
     refine V (run_ld underlying9 rfl rfl ((hs.hp hH9).cell _ _ (txL_at (by omega)))) ?_
     refine V (aV (.string _) rfl) ?_
     refine RL.nil ?_
     refine SR ?_
     refine V (mV (.string _) rfl) ?_
     refine RL.callP rfl hH9 (c_name_Right _  _) (run_call1 call86 rfl) ?_
     intro w12 hH13
     refine V (run_not rfl) ?_
     refine RL.nil ?_
     refine CW.cond rfl (fun h16 => ?_) (fun h16 => ?_)
     ·refine SR ?_
      refine V (aV (B false) rfl) ?_
      refine RL.nil ?_
      refine CW.ret ?_
      refine outP1 Tryz.results82 (congrArg B ?_) hH13.below
      first | exact (named_no3 h0 ‹_› (nt ‹_›)).symm | exact (named_yes hn1 hn2 ‹_› hg).symm | exact (named_no1 (by omega)).symm | exact (named_no2 (by omega)).symm
     ·refine CW.skip ?_
      refine CW.region ?_
      refine V (run_add e20_9 rfl (by omega)) ?_
      refine V (mV (I _) rfl) ?_
      refine RL.nil ?_
      refine ⟨k + 1, ?_, fr9.u4.u4.u1, hH13, (congrArg I (by first | rfl | omega)), ?_, ?_, ?_⟩
      ·((try dsimp only); omega)
      ·omega
      ·omega
      ·exact fun j a b => if e : j = k then e ▸ nf ‹_› else hg j a (by omega)
    ·refine CW.exit (id := 0) rfl ?_
     refine SR ?_
     refine V (aV (B true) rfl) ?_
     refine RL.nil ?_
     refine CW.ret ?_
     refine outP1 Tryz.results82 (congrArg B ?_) hH9.below
     first | exact (named_no3 h0 ‹_› (nt ‹_›)).symm | exact (named_yes hn1 hn2 ‹_› hg).symm | exact (named_no1 (by omega)).symm | exact (named_no2 (by omega)).symm

theorem c_shape_factor (f : Fac) (w : World) (hf : FacV (Kw w) f) (hT : Tab w) : Calls Tryz.prog 36 #[.agg (facC f)] w (Pure (B (factorR f.fc)) w) := by
 have hm := hf.names.sl.small
 unfold maxLen at hm
 refine enter Tryz.func36 rfl Tryz.ntmps36 rfl ?_
 have hH := Hp.start w
 refine SR ?_
 refine RL.new rfl hH (f := fun b => (.pointer (some ⟨b, 0, none⟩))) (run_box (v := .agg _) rfl) ?_
 intro b3 w1 hH2
 refine V (aV (B false) rfl) ?_
 refine RL.nil ?_
 refine CW.seq ?_
 refine SR ?_
 refine V (fA underlying50 1 rfl sizeOf45 rfl) ?_
 refine V (run_ld underlying45 rfl rfl (hH2.cell (i := 0) rfl rfl)) ?_
 refine RL.callP rfl hH2 (c_shape_named _ _  _ (hf.names.sl.hp hH2)) (run_call1 call82 rfl) ?_
 intro w4 hH5
 refine V (run_not rfl) ?_
 refine RL.nil ?_
 refine CW.cond rfl (fun h8 => ?_) (fun h8 => ?_)
 ·refine SR ?_
  refine V (aV (B false) rfl) ?_
  refine RL.nil ?_
  refine CW.ret ?_
  refine outP1 Tryz.results36 (congrArg B ?_) hH5.below
  first | exact (fac_no (f := f.fc) (nt ‹_›)).symm | exact (fac_12s (f := f.fc) (nf ‹(!namedF f.names) = false›) (.inl ‹_›)).symm | exact (fac_12s (f := f.fc) (nf ‹(!namedF f.names) = false›) (.inr ‹_›)).symm | exact (fac_3y (f := f.fc) (nf ‹(!namedF f.names) = false›) ‹_› ‹_›).symm | exact (fac_3n (f := f.fc) ‹_› ‹_›).symm | exact (fac_4y (f := f.fc) (nf ‹(!namedF f.names) = false›) ‹_› ‹_›).symm | exact (fac_4n (f := f.fc) ‹_› ‹_›).symm | exact (fac_x (f := f.fc) ‹_› ‹_› ‹_› ‹_›).symm
 ·refine CW.skip ?_
  refine CW.seq ?_
  refine SR ?_
  refine V (fA underlying50 0 rfl sizeOf3 rfl) ?_
  refine V (run_ld underlying3 rfl rfl (hH5.cell (i := 0) rfl (v := I _) rfl)) ?_
  refine RL.nil ?_
  refine CW.block ?_
  refine CW.seq ?_
  refine SR ?_
  refine V (run_eql rfl rfl) ?_
  refine V (aV (B _) rfl) ?_
  refine RL.nil ?_
  refine CW.condP rfl (fun h10 => ?_) (fun h10 => ?_)
  ·refine CW.skip ?_
   refine CW.condT (bT h10) ?_
   refine SR ?_
   refine V (fA underlying50 2 rfl sizeOf48 rfl) ?_
   refine V (run_ldBR underlying48 rfl rfl rfl (hH5.blk (i := 0) rfl)) ?_
   refine V (run_bld (vs := []) rfl built_rel0) ?_
   refine RL.callP rfl hH5 (c_relate_Same _ _  _) (run_call2 call83 rfl rfl) ?_
   intro w11 hH12
   refine V (aV (B _) rfl) ?_
   refine RL.nil ?_
   refine CW.ret ?_
   refine outP1 Tryz.results36 (congrArg B ?_) hH12.below
   first | exact (fac_no (f := f.fc) (nt ‹_›)).symm | exact (fac_12s (f := f.fc) (nf ‹(!namedF f.names) = false›) (.inl ‹_›)).symm | exact (fac_12s (f := f.fc) (nf ‹(!namedF f.names) = false›) (.inr ‹_›)).symm | exact (fac_3y (f := f.fc) (nf ‹(!namedF f.names) = false›) ‹_› ‹_›).symm | exact (fac_3n (f := f.fc) ‹_› ‹_›).symm | exact (fac_4y (f := f.fc) (nf ‹(!namedF f.names) = false›) ‹_› ‹_›).symm | exact (fac_4n (f := f.fc) ‹_› ‹_›).symm | exact (fac_x (f := f.fc) ‹_› ‹_› ‹_› ‹_›).symm
  ·refine CW.region ?_
   refine V (run_eql rfl rfl) ?_
   refine V (aV (B _) rfl) ?_
   refine RL.nil ?_
   refine CW.condP rfl (fun h16 => ?_) (fun h16 => ?_)
   ·refine SR ?_
    refine V (fA underlying50 2 rfl sizeOf48 rfl) ?_
    refine V (run_ldBR underlying48 rfl rfl rfl (hH5.blk (i := 0) rfl)) ?_
    refine V (run_bld (vs := []) rfl built_rel0) ?_
    refine RL.callP rfl hH5 (c_relate_Same _ _  _) (run_call2 call83 rfl rfl) ?_
    intro w17 hH18
    refine V (aV (B _) rfl) ?_
    refine RL.nil ?_
    refine CW.ret ?_
    refine outP1 Tryz.results36 (congrArg B ?_) hH18.below
    first | exact (fac_no (f := f.fc) (nt ‹_›)).symm | exact (fac_12s (f := f.fc) (nf ‹(!namedF f.names) = false›) (.inl ‹_›)).symm | exact (fac_12s (f := f.fc) (nf ‹(!namedF f.names) = false›) (.inr ‹_›)).symm | exact (fac_3y (f := f.fc) (nf ‹(!namedF f.names) = false›) ‹_› ‹_›).symm | exact (fac_3n (f := f.fc) ‹_› ‹_›).symm | exact (fac_4y (f := f.fc) (nf ‹(!namedF f.names) = false›) ‹_› ‹_›).symm | exact (fac_4n (f := f.fc) ‹_› ‹_›).symm | exact (fac_x (f := f.fc) ‹_› ‹_› ‹_› ‹_›).symm
   ·refine SR ?_
    refine V (run_eql rfl rfl) ?_
    refine V (aV (B _) rfl) ?_
    refine RL.nil ?_
    refine CW.condP rfl (fun h22 => ?_) (fun h22 => ?_)
    ·refine SR ?_
     refine V (fA underlying50 2 rfl sizeOf48 rfl) ?_
     refine V (fA underlying48 0 rfl sizeOf3 rfl) ?_
     refine V (run_ld underlying3 rfl rfl (hH5.cell (i := 0) rfl (v := I _) rfl)) ?_
     refine V (fA underlying50 1 rfl sizeOf45 rfl) ?_
     refine V (run_ld underlying45 rfl rfl (hH5.cell (i := 0) rfl rfl)) ?_
     refine V (run_lenSl (hf.names.sl.hp hH5) rfl underlying45 rfl) ?_
     refine V (run_eql rfl rfl) ?_
     refine V (mV (B _) rfl) ?_
     refine RL.splitP (dj := 25) rfl (fun h24 => ?_) (fun h24 => ?_)
     ·refine RL.gT rfl (bT h24) ?_
      refine V (fA underlying50 2 rfl sizeOf48 rfl) ?_
      refine RL.gT rfl (bT h24) ?_
      refine V (run_ldBR underlying48 rfl rfl rfl (hH5.blk (i := 0) rfl)) ?_
      refine RL.gT rfl (bT h24) ?_
      refine RL.callP rfl hH5 (c_grid_Right _  _) (run_call1 call84 rfl) ?_
      intro w25 hH26
      refine V (run_pickT (bT h24) (v := B _) rfl) ?_
      refine V (aV (B _) rfl) ?_
      refine RL.nil ?_
      refine CW.ret ?_
      refine outP1 Tryz.results36 (congrArg B ?_) hH26.below
      first | exact (fac_no (f := f.fc) (nt ‹_›)).symm | exact (fac_12s (f := f.fc) (nf ‹(!namedF f.names) = false›) (.inl ‹_›)).symm | exact (fac_12s (f := f.fc) (nf ‹(!namedF f.names) = false›) (.inr ‹_›)).symm | exact (fac_3y (f := f.fc) (nf ‹(!namedF f.names) = false›) ‹_› ‹_›).symm | exact (fac_3n (f := f.fc) ‹_› ‹_›).symm | exact (fac_4y (f := f.fc) (nf ‹(!namedF f.names) = false›) ‹_› ‹_›).symm | exact (fac_4n (f := f.fc) ‹_› ‹_›).symm | exact (fac_x (f := f.fc) ‹_› ‹_› ‹_› ‹_›).symm
     ·refine RL.gF rfl rfl (bF h24) rfl ?_
      refine RL.gF rfl rfl (bF h24) rfl ?_
      refine RL.gF rfl rfl (bF h24) rfl ?_
      refine V (run_pickF (bF h24) (v := B false) rfl) ?_
      refine V (aV (B _) rfl) ?_
      refine RL.nil ?_
      refine CW.ret ?_
      refine outP1 Tryz.results36 (congrArg B ?_) hH5.below
      first | exact (fac_no (f := f.fc) (nt ‹_›)).symm | exact (fac_12s (f := f.fc) (nf ‹(!namedF f.names) = false›) (.inl ‹_›)).symm | exact (fac_12s (f := f.fc) (nf ‹(!namedF f.names) = false›) (.inr ‹_›)).symm | exact (fac_3y (f := f.fc) (nf ‹(!namedF f.names) = false›) ‹_› ‹_›).symm | exact (fac_3n (f := f.fc) ‹_› ‹_›).symm | exact (fac_4y (f := f.fc) (nf ‹(!namedF f.names) = false›) ‹_› ‹_›).symm | exact (fac_4n (f := f.fc) ‹_› ‹_›).symm | exact (fac_x (f := f.fc) ‹_› ‹_› ‹_› ‹_›).symm
    ·refine SR ?_
     refine V (run_eql rfl rfl) ?_
     refine V (aV (B _) rfl) ?_
     refine RL.nil ?_
     refine CW.condP rfl (fun h29 => ?_) (fun h29 => ?_)
     ·refine SR ?_
      refine V (fA underlying50 2 rfl sizeOf48 rfl) ?_
      refine V (fA underlying48 0 rfl sizeOf3 rfl) ?_
      refine V (run_ld underlying3 rfl rfl (hH5.cell (i := 0) rfl (v := I _) rfl)) ?_
      refine V (fA underlying50 1 rfl sizeOf45 rfl) ?_
      refine V (run_ld underlying45 rfl rfl (hH5.cell (i := 0) rfl rfl)) ?_
      refine V (run_lenSl (hf.names.sl.hp hH5) rfl underlying45 rfl) ?_
      refine V (run_eql rfl rfl) ?_
      refine V (mV (B _) rfl) ?_
      refine RL.splitP (dj := 39) rfl (fun h31 => ?_) (fun h31 => ?_)
      ·refine RL.gT rfl (bT h31) ?_
       refine V (fA underlying50 2 rfl sizeOf48 rfl) ?_
       refine RL.gT rfl (bT h31) ?_
       refine V (run_ldBR underlying48 rfl rfl rfl (hH5.blk (i := 0) rfl)) ?_
       refine RL.gT rfl (bT h31) ?_
       refine RL.callP rfl hH5 (c_hasse_Lattice _  _ (hT.hp hH5)) (run_call1 call85 rfl) ?_
       intro w32 hH33
       refine V (run_pickT (bT h31) (v := B _) rfl) ?_
       refine V (aV (B _) rfl) ?_
       refine RL.nil ?_
       refine CW.ret ?_
       refine outP1 Tryz.results36 (congrArg B ?_) hH33.below
       first | exact (fac_no (f := f.fc) (nt ‹_›)).symm | exact (fac_12s (f := f.fc) (nf ‹(!namedF f.names) = false›) (.inl ‹_›)).symm | exact (fac_12s (f := f.fc) (nf ‹(!namedF f.names) = false›) (.inr ‹_›)).symm | exact (fac_3y (f := f.fc) (nf ‹(!namedF f.names) = false›) ‹_› ‹_›).symm | exact (fac_3n (f := f.fc) ‹_› ‹_›).symm | exact (fac_4y (f := f.fc) (nf ‹(!namedF f.names) = false›) ‹_› ‹_›).symm | exact (fac_4n (f := f.fc) ‹_› ‹_›).symm | exact (fac_x (f := f.fc) ‹_› ‹_› ‹_› ‹_›).symm
      ·refine RL.gF rfl rfl (bF h31) rfl ?_
       refine RL.gF rfl rfl (bF h31) rfl ?_
       refine RL.gF rfl rfl (bF h31) rfl ?_
       refine V (run_pickF (bF h31) (v := B false) rfl) ?_
       refine V (aV (B _) rfl) ?_
       refine RL.nil ?_
       refine CW.ret ?_
       refine outP1 Tryz.results36 (congrArg B ?_) hH5.below
       first | exact (fac_no (f := f.fc) (nt ‹_›)).symm | exact (fac_12s (f := f.fc) (nf ‹(!namedF f.names) = false›) (.inl ‹_›)).symm | exact (fac_12s (f := f.fc) (nf ‹(!namedF f.names) = false›) (.inr ‹_›)).symm | exact (fac_3y (f := f.fc) (nf ‹(!namedF f.names) = false›) ‹_› ‹_›).symm | exact (fac_3n (f := f.fc) ‹_› ‹_›).symm | exact (fac_4y (f := f.fc) (nf ‹(!namedF f.names) = false›) ‹_› ‹_›).symm | exact (fac_4n (f := f.fc) ‹_› ‹_›).symm | exact (fac_x (f := f.fc) ‹_› ‹_› ‹_› ‹_›).symm
     ·refine CW.skip ?_
      refine SR ?_
      refine V (aV (B false) rfl) ?_
      refine RL.nil ?_
      refine CW.ret ?_
      refine outP1 Tryz.results36 (congrArg B ?_) hH5.below
      first | exact (fac_no (f := f.fc) (nt ‹_›)).symm | exact (fac_12s (f := f.fc) (nf ‹(!namedF f.names) = false›) (.inl ‹_›)).symm | exact (fac_12s (f := f.fc) (nf ‹(!namedF f.names) = false›) (.inr ‹_›)).symm | exact (fac_3y (f := f.fc) (nf ‹(!namedF f.names) = false›) ‹_› ‹_›).symm | exact (fac_3n (f := f.fc) ‹_› ‹_›).symm | exact (fac_4y (f := f.fc) (nf ‹(!namedF f.names) = false›) ‹_› ‹_›).symm | exact (fac_4n (f := f.fc) ‹_› ‹_›).symm | exact (fac_x (f := f.fc) ‹_› ‹_› ‹_› ‹_›).symm

theorem c_shape_Right (s : Shp) (w : World) (hs : ShpV (Kw w) s) (hT : Tab w) : Calls Tryz.prog 21 #[.agg (shpC s)] w (Pure (B (shR s.sh)) w) := by
 have hsl := sh_len s
 have hm := hs.facs.sl.small
 unfold maxLen at hm
 refine enter Tryz.func21 rfl Tryz.ntmps21 rfl ?_
 have hH := Hp.start w
 refine SR ?_
 refine RL.new rfl hH (f := fun b => (.pointer (some ⟨b, 0, none⟩))) (run_box (v := .agg _) rfl) ?_
 intro b3 w1 hH2
 refine V (aV (B false) rfl) ?_
 refine RL.nil ?_
 refine SR ?_
 refine V (fA underlying24 1 rfl sizeOf22 rfl) ?_
 refine V (run_ld underlying22 rfl rfl (hH2.cell (i := 0) rfl rfl)) ?_
 refine V (run_lenSl (hs.facs.sl.hp hH2) rfl underlying22 rfl) ?_
 refine V (aV (I _) rfl) ?_
 refine RL.nil ?_
 refine CW.seq ?_
 refine SR ?_
 refine V (mV (I _) rfl) ?_
 refine V (run_lss rfl rfl) ?_
 refine V (mV (B _) rfl) ?_
 refine RL.splitP (dj := 11) rfl (fun h5 => ?_) (fun h5 => ?_)
 ·refine RL.gF rfl rfl (bT h5) rfl ?_
  refine RL.gF rfl rfl (bT h5) rfl ?_
  refine V (run_pickT (bT h5) (v := B true) rfl) ?_
  refine V (mV (B _) rfl) ?_
  refine RL.gF rfl rfl rfl rfl ?_
  refine RL.gF rfl rfl rfl rfl ?_
  refine RL.gF rfl rfl rfl rfl ?_
  refine RL.gF rfl rfl rfl rfl ?_
  refine RL.gU rfl rfl rfl ?_
  refine RL.gU rfl rfl rfl ?_
  refine RL.gF rfl rfl rfl rfl ?_
  refine V (run_pickT rfl (v := B true) rfl) ?_
  refine RL.nil ?_
  refine CW.condT rfl ?_
  refine SR ?_
  refine V (aV (B false) rfl) ?_
  refine RL.nil ?_
  refine CW.ret ?_
  refine outP1 Tryz.results21 (congrArg B ?_) hH2.below
  first | exact (shR_no3 (k := k) h0 (by omega) (by rw [sh_get]; exact nt ‹_›)).symm | exact (shR_yes (k := k) (by omega) hc2 (by omega) fun j a b => by rw [sh_get]; exact hg j a b).symm | exact (shR_no1 (by omega)).symm | exact (shR_no2 (by first | exact nt ‹_› | assumption) (by omega)).symm
 ·refine RL.gT rfl (bF h5) ?_
  refine V (mV (I _) rfl) ?_
  refine RL.gT rfl (bF h5) ?_
  refine V (run_gtr rfl rfl) ?_
  refine V (run_pickF (bF h5) (v := B _) rfl) ?_
  refine V (mV (B _) rfl) ?_
  refine RL.splitP (dj := 15) rfl (fun h7 => ?_) (fun h7 => ?_)
  ·refine RL.gF rfl rfl (bT h7) rfl ?_
   refine RL.gF rfl rfl (bT h7) rfl ?_
   refine RL.gF rfl rfl (bT h7) rfl ?_
   refine RL.gF rfl rfl (bT h7) rfl ?_
   refine RL.gU rfl rfl rfl ?_
   refine RL.gU rfl rfl rfl ?_
   refine RL.gF rfl rfl (bT h7) rfl ?_
   refine V (run_pickT (bT h7) (v := B true) rfl) ?_
   refine RL.nil ?_
   refine CW.condT rfl ?_
   refine SR ?_
   refine V (aV (B false) rfl) ?_
   refine RL.nil ?_
   refine CW.ret ?_
   refine outP1 Tryz.results21 (congrArg B ?_) hH2.below
   first | exact (shR_no3 (k := k) h0 (by omega) (by rw [sh_get]; exact nt ‹_›)).symm | exact (shR_yes (k := k) (by omega) hc2 (by omega) fun j a b => by rw [sh_get]; exact hg j a b).symm | exact (shR_no1 (by omega)).symm | exact (shR_no2 (by first | exact nt ‹_› | assumption) (by omega)).symm
  ·refine RL.gT rfl (bF h7) ?_
   refine V (fA underlying24 0 rfl sizeOf4 rfl) ?_
   refine RL.gT rfl (bF h7) ?_
   refine V (run_ld underlying4 rfl rfl (hH2.cell (i := 0) rfl (v := B _) rfl)) ?_
   refine RL.gT rfl (bF h7) ?_
   refine V (run_not rfl) ?_
   refine RL.gT rfl (bF h7) ?_
   refine V (mV (B _) rfl) ?_
   refine RL.split (dj := 19) rfl (fun h10 => ?_) (fun h10 => ?_)
   ·refine RL.gT rfl (bR (c := true) h10) ?_
    refine V (mV (I _) rfl) ?_
    refine RL.gT rfl (bR (c := true) h10) ?_
    refine V (run_neq rfl rfl) ?_
    refine RL.gT rfl (bF h7) ?_
    refine V (run_pickT (bR (c := true) h10) (v := B _) rfl) ?_
    refine V (run_pickF (bF h7) (v := B _) rfl) ?_
    refine RL.nil ?_
    refine CW.condP rfl (fun h12 => ?_) (fun h12 => ?_)
    ·refine SR ?_
     refine V (aV (B false) rfl) ?_
     refine RL.nil ?_
     refine CW.ret ?_
     refine outP1 Tryz.results21 (congrArg B ?_) hH2.below
     first | exact (shR_no3 (k := k) h0 (by omega) (by rw [sh_get]; exact nt ‹_›)).symm | exact (shR_yes (k := k) (by omega) hc2 (by omega) fun j a b => by rw [sh_get]; exact hg j a b).symm | exact (shR_no1 (by omega)).symm | exact (shR_no2 (by first | exact nt ‹_› | assumption) (by omega)).symm
    ·refine CW.skip ?_
     refine CW.seq ?_
     refine SR ?_
     refine V (fA underlying24 1 rfl sizeOf22 rfl) ?_
     refine V (run_ld underlying22 rfl rfl (hH2.cell (i := 0) rfl rfl)) ?_
     refine V (run_lenSl (hs.facs.sl.hp hH2) rfl underlying22 rfl) ?_
     refine V (mV (I 0) rfl) ?_
     refine RL.nil ?_
     refine CW.block ?_
     have hc2 : s.sh.tuple = true ∨ s.sh.facs.length = 1 := by first | exact .inl (nf ‹(!s.tuple) = false›) | exact .inl ‹s.tuple = true› | exact .inr (by omega)
     have hc1 : 1 ≤ s.facs.length ∧ s.facs.length ≤ 8 := by omega
     refine CW.loop (G := (Int)) (fun (k : Int) s' w' => (Fr [2, 5, 27, 28, 29, 30, 31, 32, 33, 34] _ s') ∧ (Hp w w' _) ∧ (s' 27 = I k) ∧ (0 ≤ k) ∧ (k ≤ s.facs.length) ∧ (∀ j : Int, 0 ≤ j → j < k → factorR (s.facs.getD j.toNat fac0).fc = true)) (fun (k : Int) => (s.facs.length - k).toNat) (0) ⟨Fr.refl _ _, hH2, rfl, (by omega), (by omega), fun j a b => absurd b (by omega)⟩ ?_
     rintro k sg13 w13 ⟨fr13, hH13, e27_13, h0, hk, hg⟩
     have e25_13 := (fr13 25 rfl).trans (by conv => lhs; whnf)
     have e26_13 : sg13 26 = I _ := (fr13 26 rfl).trans rfl
     refine SR ?_
     refine V (run_lss e27_13 e26_13) ?_
     refine RL.nil ?_
     refine CW.seq ?_
     refine CW.condP rfl (fun h15 => ?_) (fun h15 => ?_)
     ·refine CW.skip ?_
      refine CW.seq ?_
      refine CW.block ?_
      refine SR ?_
      refine V (run_indexAddrS (hs.facs.sl.hp hH13) underlying22 sizeOf50 e25_13 e27_13 (by omega)) ?_
      refine V (run_ldE (dv := fac0) facL_len (hs.facs.sl.hp hH13) underlying50 rfl rfl rfl (by omega)) ?_
      refine RL.new rfl hH13 (f := fun b => (.pointer (some ⟨b, 0, none⟩))) (run_alloc zero_fac) ?_
      intro b18 w16 hH17
      refine RL.set hH17 (i := 0) rfl (run_stFac (hs.at (by omega) (by omega)) rfl rfl rfl (hH17.blk (i := 0) rfl)) ?_
      intro w19 hH20
      simp only [z0, z1] at hH20
      refine RL.nil ?_
      refine SR ?_
      refine V (run_ldFac underlying50 rfl rfl rfl (hH20.blk (i := 0) rfl)) ?_
      refine RL.callP rfl hH20 (c_shape_factor _  _ ((hs.at (by omega) (by omega)).mono hH20.kw) (hT.hp hH20)) (run_call1 call36 rfl) ?_
      intro w21 hH22
      refine V (run_not rfl) ?_
      refine RL.nil ?_
      refine CW.cond rfl (fun h25 => ?_) (fun h25 => ?_)
      ·refine SR ?_
       refine V (aV (B false) rfl) ?_
       refine RL.nil ?_
       refine CW.ret ?_
       refine outP1 Tryz.results21 (congrArg B ?_) hH22.below
       first | exact (shR_no3 (k := k) h0 (by omega) (by rw [sh_get]; exact nt ‹_›)).symm | exact (shR_yes (k := k) (by omega) hc2 (by omega) fun j a b => by rw [sh_get]; exact hg j a b).symm | exact (shR_no1 (by omega)).symm | exact (shR_no2 (by first | exact nt ‹_› | assumption) (by omega)).symm
      ·refine CW.skip ?_
       refine CW.region ?_
       refine V (run_add e27_13 rfl (by omega)) ?_
       refine V (mV (I _) rfl) ?_
       refine RL.nil ?_
       refine ⟨k + 1, ?_, fr13.u4.u4.u1, (hH22.sub (sQ sR)), (congrArg I (by first | rfl | omega)), ?_, ?_, ?_⟩
       ·((try dsimp only); omega)
       ·omega
       ·omega
       ·exact fun j a b => if e : j = k then e ▸ nf ‹_› else hg j a (by omega)
     ·refine CW.exit (id := 0) rfl ?_
      refine SR ?_
      refine V (aV (B true) rfl) ?_
      refine RL.nil ?_
      refine CW.ret ?_
      refine outP1 Tryz.results21 (congrArg B ?_) hH13.below
      first | exact (shR_no3 (k := k) h0 (by omega) (by rw [sh_get]; exact nt ‹_›)).symm | exact (shR_yes (k := k) (by omega) hc2 (by omega) fun j a b => by rw [sh_get]; exact hg j a b).symm | exact (shR_no1 (by omega)).symm | exact (shR_no2 (by first | exact nt ‹_› | assumption) (by omega)).symm
   ·refine RL.gF rfl rfl (bR (c := false) h10) rfl ?_
    refine RL.gF rfl rfl (bR (c := false) h10) rfl ?_
    refine RL.gT rfl (bF h7) ?_
    refine V (run_pickF (bR (c := false) h10) (v := B false) rfl) ?_
    refine V (run_pickF (bF h7) (v := B _) rfl) ?_
    refine RL.nil ?_
    refine CW.condF rfl ?_
    refine CW.skip ?_
    refine CW.seq ?_
    refine SR ?_
    refine V (fA underlying24 1 rfl sizeOf22 rfl) ?_
    refine V (run_ld underlying22 rfl rfl (hH2.cell (i := 0) rfl rfl)) ?_
    refine V (run_lenSl (hs.facs.sl.hp hH2) rfl underlying22 rfl) ?_
    refine V (mV (I 0) rfl) ?_
    refine RL.nil ?_
    refine CW.block ?_
    have hc2 : s.sh.tuple = true ∨ s.sh.facs.length = 1 := by first | exact .inl (nf ‹(!s.tuple) = false›) | exact .inl ‹s.tuple = true› | exact .inr (by omega)
    have hc1 : 1 ≤ s.facs.length ∧ s.facs.length ≤ 8 := by omega
    refine CW.loop (G := (Int)) (fun (k : Int) s' w' => (Fr [2, 5, 27, 28, 29, 30, 31, 32, 33, 34] _ s') ∧ (Hp w w' _) ∧ (s' 27 = I k) ∧ (0 ≤ k) ∧ (k ≤ s.facs.length) ∧ (∀ j : Int, 0 ≤ j → j < k → factorR (s.facs.getD j.toNat fac0).fc = true)) (fun (k : Int) => (s.facs.length - k).toNat) (0) ⟨Fr.refl _ _, hH2, rfl, (by omega), (by omega), fun j a b => absurd b (by omega)⟩ ?_
    rintro k sg26 w26 ⟨fr26, hH26, e27_26, h0, hk, hg⟩
    have e25_26 := (fr26 25 rfl).trans (by conv => lhs; whnf)
    have e26_26 : sg26 26 = I _ := (fr26 26 rfl).trans rfl
    refine SR ?_
    refine V (run_lss e27_26 e26_26) ?_
    refine RL.nil ?_
    refine CW.seq ?_
    refine CW.condP rfl (fun h28 => ?_) (fun h28 => ?_)
    ·refine CW.skip ?_
     refine CW.seq ?_
     refine CW.block ?_
     refine SR ?_
     refine V (run_indexAddrS (hs.facs.sl.hp hH26) underlying22 sizeOf50 e25_26 e27_26 (by omega)) ?_
     refine V (run_ldE (dv := fac0) facL_len (hs.facs.sl.hp hH26) underlying50 rfl rfl rfl (by omega)) ?_
     refine RL.new rfl hH26 (f := fun b => (.pointer (some ⟨b, 0, none⟩))) (run_alloc zero_fac) ?_
     intro b31 w29 hH30
     refine RL.set hH30 (i := 0) rfl (run_stFac (hs.at (by omega) (by omega)) rfl rfl rfl (hH30.blk (i := 0) rfl)) ?_
     intro w32 hH33
     simp only [z0, z1] at hH33
     refine RL.nil ?_
     refine SR ?_
     refine V (run_ldFac underlying50 rfl rfl rfl (hH33.blk (i := 0) rfl)) ?_
     refine RL.callP rfl hH33 (c_shape_factor _  _ ((hs.at (by omega) (by omega)).mono hH33.kw) (hT.hp hH33)) (run_call1 call36 rfl) ?_
     intro w34 hH35
     refine V (run_not rfl) ?_
     refine RL.nil ?_
     refine CW.cond rfl (fun h38 => ?_) (fun h38 => ?_)
     ·refine SR ?_
      refine V (aV (B false) rfl) ?_
      refine RL.nil ?_
      refine CW.ret ?_
      refine outP1 Tryz.results21 (congrArg B ?_) hH35.below
      first | exact (shR_no3 (k := k) h0 (by omega) (by rw [sh_get]; exact nt ‹_›)).symm | exact (shR_yes (k := k) (by omega) hc2 (by omega) fun j a b => by rw [sh_get]; exact hg j a b).symm | exact (shR_no1 (by omega)).symm | exact (shR_no2 (by first | exact nt ‹_› | assumption) (by omega)).symm
     ·refine CW.skip ?_
      refine CW.region ?_
      refine V (run_add e27_26 rfl (by omega)) ?_
      refine V (mV (I _) rfl) ?_
      refine RL.nil ?_
      refine ⟨k + 1, ?_, fr26.u4.u4.u1, (hH35.sub (sQ sR)), (congrArg I (by first | rfl | omega)), ?_, ?_, ?_⟩
      ·((try dsimp only); omega)
      ·omega
      ·omega
      ·exact fun j a b => if e : j = k then e ▸ nf ‹_› else hg j a (by omega)
    ·refine CW.exit (id := 0) rfl ?_
     refine SR ?_
     refine V (aV (B true) rfl) ?_
     refine RL.nil ?_
     refine CW.ret ?_
     refine outP1 Tryz.results21 (congrArg B ?_) hH26.below
     first | exact (shR_no3 (k := k) h0 (by omega) (by rw [sh_get]; exact nt ‹_›)).symm | exact (shR_yes (k := k) (by omega) hc2 (by omega) fun j a b => by rw [sh_get]; exact hg j a b).symm | exact (shR_no1 (by omega)).symm | exact (shR_no2 (by first | exact nt ‹_› | assumption) (by omega)).symm

theorem c_shape_word (f : Fac) (s : BitVec 64) (w : World) (hf : FacV (Kw w) f) (hT : Tab w) : Calls Tryz.prog 35 #[.agg (facC f), U s] w (Pure (B (wordF f.fc s)) w) := by
 have hm := hf.names.sl.small
 unfold maxLen at hm
 refine enter Tryz.func35 rfl Tryz.ntmps35 rfl ?_
 have hH := Hp.start w
 refine SR ?_
 refine RL.new rfl hH (f := fun b => (.pointer (some ⟨b, 0, none⟩))) (run_box (v := .agg _) rfl) ?_
 intro b3 w1 hH2
 refine V (aV (B false) rfl) ?_
 refine RL.nil ?_
 refine CW.seq ?_
 refine SR ?_
 refine V (fA underlying50 0 rfl sizeOf3 rfl) ?_
 refine V (run_ld underlying3 rfl rfl (hH2.cell (i := 0) rfl (v := I _) rfl)) ?_
 refine RL.nil ?_
 refine CW.block ?_
 refine SR ?_
 refine V (run_eql rfl rfl) ?_
 refine V (aV (B _) rfl) ?_
 refine RL.nil ?_
 refine CW.condP rfl (fun h5 => ?_) (fun h5 => ?_)
 ·refine SR ?_
  refine V (fA underlying50 1 rfl sizeOf45 rfl) ?_
  refine V (run_ld underlying45 rfl rfl (hH2.cell (i := 0) rfl rfl)) ?_
  refine V (run_lenSl (hf.names.sl.hp hH2) rfl underlying45 rfl) ?_
  refine V (mV (U _) rfl) ?_
  refine RL.callP rfl hH2 (c_rung_Right _ _  _) (run_call2 call78 rfl rfl) ?_
  intro w6 hH7
  refine V (aV (B _) rfl) ?_
  refine RL.nil ?_
  refine CW.ret ?_
  refine outP1 Tryz.results35 (congrArg B ?_) hH7.below
  first | exact (word1 (f := f.fc) ‹_› s).symm | exact (word2 (f := f.fc) ‹_› s).symm | exact (word3 (f := f.fc) ‹_› s).symm | exact (wordx (f := f.fc) ‹_› ‹_› ‹_› s).symm
 ·refine SR ?_
  refine V (run_eql rfl rfl) ?_
  refine V (aV (B _) rfl) ?_
  refine RL.nil ?_
  refine CW.condP rfl (fun h10 => ?_) (fun h10 => ?_)
  ·refine SR ?_
   refine V (mV (U _) rfl) ?_
   refine V (fA underlying50 1 rfl sizeOf45 rfl) ?_
   refine V (run_ld underlying45 rfl rfl (hH2.cell (i := 0) rfl rfl)) ?_
   refine V (run_lenSl (hf.names.sl.hp hH2) rfl underlying45 rfl) ?_
   refine RL.callP rfl hH2 (c_mask_Below _  _) (run_call1 call80 rfl) ?_
   intro w11 hH12
   refine RL.callP rfl hH12 (c_mask_Sub _ _  _) (run_call2 call79 rfl rfl) ?_
   intro w13 hH14
   refine V (aV (B _) rfl) ?_
   refine RL.nil ?_
   refine CW.ret ?_
   refine outP1 Tryz.results35 (congrArg B ?_) hH14.below
   first | exact (word1 (f := f.fc) ‹_› s).symm | exact (word2 (f := f.fc) ‹_› s).symm | exact (word3 (f := f.fc) ‹_› s).symm | exact (wordx (f := f.fc) ‹_› ‹_› ‹_› s).symm
  ·refine SR ?_
   refine V (run_eql rfl rfl) ?_
   refine V (aV (B _) rfl) ?_
   refine RL.nil ?_
   refine CW.condP rfl (fun h17 => ?_) (fun h17 => ?_)
   ·refine SR ?_
    refine V (fA underlying50 2 rfl sizeOf48 rfl) ?_
    refine V (run_ldBR underlying48 rfl rfl rfl (hH2.blk (i := 0) rfl)) ?_
    refine V (mV (U _) rfl) ?_
    refine RL.callP rfl hH2 (c_grid_Closed _ _  _ (hT.hp hH2)) (run_call2 call81 rfl rfl) ?_
    intro w18 hH19
    refine V (aV (B _) rfl) ?_
    refine RL.nil ?_
    refine CW.ret ?_
    refine outP1 Tryz.results35 (congrArg B ?_) hH19.below
    first | exact (word1 (f := f.fc) ‹_› s).symm | exact (word2 (f := f.fc) ‹_› s).symm | exact (word3 (f := f.fc) ‹_› s).symm | exact (wordx (f := f.fc) ‹_› ‹_› ‹_› s).symm
   ·refine CW.skip ?_
    refine SR ?_
    refine V (fA underlying50 2 rfl sizeOf48 rfl) ?_
    refine V (run_ldBR underlying48 rfl rfl rfl (hH2.blk (i := 0) rfl)) ?_
    refine V (mV (U _) rfl) ?_
    refine RL.callP rfl hH2 (c_hasse_Point _ _  _ (hT.hp hH2)) (run_call2 call58 rfl rfl) ?_
    intro w21 hH22
    refine V (run_move (by conv => lhs; whnf)) ?_
    refine V (run_extract rfl (v := I _) rfl) ?_
    refine V (run_extract rfl (v := B _) rfl) ?_
    refine V (aV (I _) rfl) ?_
    refine V (aV (B _) rfl) ?_
    refine RL.nil ?_
    refine SR ?_
    refine V (mV (B _) rfl) ?_
    refine V (aV (B _) rfl) ?_
    refine RL.nil ?_
    refine CW.ret ?_
    refine outP1 Tryz.results35 (congrArg B ?_) hH22.below
    first | exact (word1 (f := f.fc) ‹_› s).symm | exact (word2 (f := f.fc) ‹_› s).symm | exact (word3 (f := f.fc) ‹_› s).symm | exact (wordx (f := f.fc) ‹_› ‹_› ‹_› s).symm

theorem c_shape_Fits (s : Shp) (e : El) (w : World) (hs : ShpV (Kw w) s) (hT : Tab w) : Calls Tryz.prog 18 #[.agg (shpC s), .agg (elC e)] w (Pure (B (fitsS s.sh e)) w) := by
 have hsl := sh_len s
 have hm := hs.facs.sl.small
 unfold maxLen at hm
 refine enter Tryz.func18 rfl Tryz.ntmps18 rfl ?_
 have hH := Hp.start w
 refine SR ?_
 refine RL.new rfl hH (f := fun b => (.pointer (some ⟨b, 0, none⟩))) (run_box (v := .agg _) rfl) ?_
 intro b3 w1 hH2
 refine RL.new rfl hH2 (f := fun b => (.pointer (some ⟨b, 0, none⟩))) (run_box (v := .agg _) rfl) ?_
 intro b6 w4 hH5
 refine V (aV (B false) rfl) ?_
 refine RL.nil ?_
 refine CW.seq ?_
 refine SR ?_
 refine V (run_ldA (cs := [B _, _]) underlying24 rfl rfl rfl (rangeAt_cells (hH5.blk (i := 1) rfl))) ?_
 refine RL.callP rfl hH5 (c_shape_Right _  _ (hs.mono hH5.kw) (hT.hp hH5)) (run_call1 call21 rfl) ?_
 intro w7 hH8
 refine V (run_not rfl) ?_
 refine RL.nil ?_
 refine CW.cond rfl (fun h11 => ?_) (fun h11 => ?_)
 ·refine SR ?_
  refine V (aV (B false) rfl) ?_
  refine RL.nil ?_
  refine CW.ret ?_
  refine outP1 Tryz.results18 (congrArg B ?_) hH8.below
  first | exact (fits_no1 (nt ‹_›)).symm | exact (fits_no3 h0 ‹_› (by omega) ‹_›).symm | exact (fits_no2 h0 ‹_› (by omega) (by rw [sh_get]; exact nt ‹_›)).symm | exact (fits_yes hr ‹_› hf).symm
 ·refine CW.skip ?_
  refine CW.seq ?_
  refine SR ?_
  refine V (run_ldEl underlying34 rfl rfl rfl (hH8.blk (i := 0) rfl)) ?_
  refine V (mV (I 0) rfl) ?_
  refine RL.nil ?_
  refine CW.block ?_
  have hr : shR s.sh = true := nf ‹_›
  refine CW.loop (G := (Int)) (fun (k : Int) s' w' => (Fr [4, 5, 6, 11, 12, 13, 14, 15, 16, 17, 18, 19, 20, 21, 22, 23, 24, 25, 26, 27, 28, 29, 30] _ s') ∧ (Hp w w' _) ∧ (s' 11 = I k) ∧ (0 ≤ k) ∧ (k ≤ 8) ∧ (FitTo s.sh e k)) (fun (k : Int) => (8 - k).toNat) (0) ⟨Fr.refl _ _, hH8, rfl, (by omega), (by omega), FitTo.none _ _⟩ ?_
  rintro k sg12 w12 ⟨fr12, hH12, e11_12, h0, hk, hf⟩
  have e2_12 : sg12 2 = Pn _ _ := (fr12 2 rfl).trans rfl
  have e10_12 : sg12 10 = .agg _ := (fr12 10 rfl).trans rfl
  refine SR ?_
  refine V (run_lss e11_12 rfl) ?_
  refine RL.nil ?_
  refine CW.seq ?_
  refine CW.condP rfl (fun h14 => ?_) (fun h14 => ?_)
  ·refine CW.skip ?_
   refine CW.seq ?_
   refine CW.block ?_
   refine SR ?_
   refine V (run_move e11_12) ?_
   refine V (run_indexA underlying34 isAgg32 sizeOf32 e10_12 e11_12 (by omega) (elC_ix _ (by omega))) ?_
   refine V (aV (I _) rfl) ?_
   refine V (aV (U _) rfl) ?_
   refine RL.nil ?_
   refine CW.seq ?_
   refine SR ?_
   refine V (mV (I _) rfl) ?_
   refine V (fA underlying24 1 rfl sizeOf22 e2_12) ?_
   refine V (run_ld underlying22 rfl rfl (hH12.cell (i := 1) rfl rfl)) ?_
   refine V (run_lenSl (hs.facs.sl.hp hH12) rfl underlying22 rfl) ?_
   refine V (run_geq rfl rfl) ?_
   refine RL.nil ?_
   refine CW.condP rfl (fun h16 => ?_) (fun h16 => ?_)
   ·refine CW.seq ?_
    refine SR ?_
    refine V (mV (U _) rfl) ?_
    refine V (run_neqU rfl (b := 0#64) rfl) ?_
    refine RL.nil ?_
    refine CW.condP rfl (fun h18 => ?_) (fun h18 => ?_)
    ·refine SR ?_
     refine V (aV (B false) rfl) ?_
     refine RL.nil ?_
     refine CW.ret ?_
     refine outP1 Tryz.results18 (congrArg B ?_) hH12.below
     first | exact (fits_no1 (nt ‹_›)).symm | exact (fits_no3 h0 ‹_› (by omega) ‹_›).symm | exact (fits_no2 h0 ‹_› (by omega) (by rw [sh_get]; exact nt ‹_›)).symm | exact (fits_yes hr ‹_› hf).symm
    ·refine CW.skip ?_
     refine CW.exit (id := 1) rfl ?_
     refine CW.region ?_
     refine V (run_add e11_12 rfl (by omega)) ?_
     refine V (mV (I _) rfl) ?_
     refine RL.nil ?_
     refine ⟨k + 1, ?_, fr12.u4.u4.u4.u1.u1, hH12, (congrArg I (by first | rfl | omega)), ?_, ?_, ?_⟩
     ·((try dsimp only); omega)
     ·omega
     ·omega
     ·exact hf.next (fun h => by first | (exfalso; omega) | (rw [sh_get]; exact nf ‹_›)) (fun h => by first | exact Decidable.of_not_not ‹_› | (exfalso; omega))
   ·refine CW.skip ?_
    refine SR ?_
    refine V (fA underlying24 1 rfl sizeOf22 e2_12) ?_
    refine V (run_ld underlying22 rfl rfl (hH12.cell (i := 1) rfl rfl)) ?_
    refine V (mV (I _) rfl) ?_
    refine V (run_indexAddrS (hs.facs.sl.hp hH12) underlying22 sizeOf50 rfl rfl (by omega)) ?_
    refine V (run_ldE (dv := fac0) facL_len (hs.facs.sl.hp hH12) underlying50 rfl rfl rfl (by omega)) ?_
    refine V (mV (U _) rfl) ?_
    refine RL.callP rfl hH12 (c_shape_word _ _  _ ((hs.at (by omega) (by omega)).mono hH12.kw) (hT.hp hH12)) (run_call2 call35 rfl rfl) ?_
    intro w19 hH20
    refine V (run_not rfl) ?_
    refine RL.nil ?_
    refine CW.cond rfl (fun h23 => ?_) (fun h23 => ?_)
    ·refine SR ?_
     refine V (aV (B false) rfl) ?_
     refine RL.nil ?_
     refine CW.ret ?_
     refine outP1 Tryz.results18 (congrArg B ?_) hH20.below
     first | exact (fits_no1 (nt ‹_›)).symm | exact (fits_no3 h0 ‹_› (by omega) ‹_›).symm | exact (fits_no2 h0 ‹_› (by omega) (by rw [sh_get]; exact nt ‹_›)).symm | exact (fits_yes hr ‹_› hf).symm
    ·refine CW.skip ?_
     refine CW.region ?_
     refine V (run_add e11_12 rfl (by omega)) ?_
     refine V (mV (I _) rfl) ?_
     refine RL.nil ?_
     refine ⟨k + 1, ?_, fr12.u4.u4.u4.u4.u4, hH20, (congrArg I (by first | rfl | omega)), ?_, ?_, ?_⟩
     ·((try dsimp only); omega)
     ·omega
     ·omega
     ·exact hf.next (fun h => by first | (exfalso; omega) | (rw [sh_get]; exact nf ‹_›)) (fun h => by first | exact Decidable.of_not_not ‹_› | (exfalso; omega))
  ·refine CW.exit (id := 0) rfl ?_
   refine SR ?_
   refine V (aV (B true) rfl) ?_
   refine RL.nil ?_
   refine CW.ret ?_
   refine outP1 Tryz.results18 (congrArg B ?_) hH12.below
   first | exact (fits_no1 (nt ‹_›)).symm | exact (fits_no3 h0 ‹_› (by omega) ‹_›).symm | exact (fits_no2 h0 ‹_› (by omega) (by rw [sh_get]; exact nt ‹_›)).symm | exact (fits_yes hr ‹_› hf).symm

theorem c_clearanceref07_factor (f : Fac) (w : World) (hf : FacV (Kw w) f) : Calls Tryz.prog 31 #[.agg (facC f)] w (Pure (B (factorR f.fc)) w) := by
 have hm := hf.names.sl.small
 unfold maxLen at hm
 refine enter Tryz.func31 rfl Tryz.ntmps31 rfl ?_
 have hH := Hp.start w
 refine SR ?_
 refine RL.new rfl hH (f := fun b => (.pointer (some ⟨b, 0, none⟩))) (run_box (v := .agg _) rfl) ?_
 intro b3 w1 hH2
 refine V (aV (B false) rfl) ?_
 refine RL.nil ?_
 refine SR ?_
 refine V (fA underlying50 1 rfl sizeOf45 rfl) ?_
 refine V (run_ld underlying45 rfl rfl (hH2.cell (i := 0) rfl rfl)) ?_
 refine V (run_lenSl (hf.names.sl.hp hH2) rfl underlying45 rfl) ?_
 refine V (aV (I _) rfl) ?_
 refine RL.nil ?_
 refine CW.seq ?_
 refine SR ?_
 refine V (mV (I _) rfl) ?_
 refine V (run_lss rfl rfl) ?_
 refine V (mV (B _) rfl) ?_
 refine RL.splitP (dj := 10) rfl (fun h5 => ?_) (fun h5 => ?_)
 ·refine RL.gF rfl rfl (bT h5) rfl ?_
  refine RL.gF rfl rfl (bT h5) rfl ?_
  refine V (run_pickT (bT h5) (v := B true) rfl) ?_
  refine V (mV (B _) rfl) ?_
  refine RL.gF rfl rfl rfl rfl ?_
  refine RL.gF rfl rfl rfl rfl ?_
  refine RL.gF rfl rfl rfl rfl ?_
  refine RL.gF rfl rfl rfl rfl ?_
  refine V (run_pickT rfl (v := B true) rfl) ?_
  refine RL.nil ?_
  refine CW.condT rfl ?_
  refine SR ?_
  refine V (aV (B false) rfl) ?_
  refine RL.nil ?_
  refine CW.ret ?_
  refine outP1 Tryz.results31 (congrArg B ?_) hH2.below
  first | exact (fac_no (f := f.fc) (named_no1 (by show ¬ (1 ≤ f.names.length ∧ f.names.length ≤ 64); omega))).symm | exact (fac_no (f := f.fc) (named_no2 (by show ¬ twice f.names < 0; omega))).symm | exact (fac_no (f := f.fc) (named_no3 h0 ‹_› (nt ‹_›))).symm | (have hny : namedF f.names = true := named_yes hn1 hn2 ‹¬ k < _› hg; first | exact (fac_12 (f := f.fc) hny (.inl ‹_›)).symm | exact (fac_12 (f := f.fc) hny (.inr ‹_›)).symm | exact (fac_3y (f := f.fc) hny ‹_› ‹_›).symm | exact (fac_3n (f := f.fc) ‹_› ‹_›).symm | exact (fac_4y (f := f.fc) hny ‹_› ‹_›).symm | exact (fac_4n (f := f.fc) ‹_› ‹_›).symm | exact (fac_x (f := f.fc) ‹_› ‹_› ‹_› ‹_›).symm)
 ·refine RL.gT rfl (bF h5) ?_
  refine V (mV (I _) rfl) ?_
  refine RL.gT rfl (bF h5) ?_
  refine V (run_gtr rfl rfl) ?_
  refine V (run_pickF (bF h5) (v := B _) rfl) ?_
  refine V (mV (B _) rfl) ?_
  refine RL.splitP (dj := 14) rfl (fun h7 => ?_) (fun h7 => ?_)
  ·refine RL.gF rfl rfl (bT h7) rfl ?_
   refine RL.gF rfl rfl (bT h7) rfl ?_
   refine RL.gF rfl rfl (bT h7) rfl ?_
   refine RL.gF rfl rfl (bT h7) rfl ?_
   refine V (run_pickT (bT h7) (v := B true) rfl) ?_
   refine RL.nil ?_
   refine CW.condT rfl ?_
   refine SR ?_
   refine V (aV (B false) rfl) ?_
   refine RL.nil ?_
   refine CW.ret ?_
   refine outP1 Tryz.results31 (congrArg B ?_) hH2.below
   first | exact (fac_no (f := f.fc) (named_no1 (by show ¬ (1 ≤ f.names.length ∧ f.names.length ≤ 64); omega))).symm | exact (fac_no (f := f.fc) (named_no2 (by show ¬ twice f.names < 0; omega))).symm | exact (fac_no (f := f.fc) (named_no3 h0 ‹_› (nt ‹_›))).symm | (have hny : namedF f.names = true := named_yes hn1 hn2 ‹¬ k < _› hg; first | exact (fac_12 (f := f.fc) hny (.inl ‹_›)).symm | exact (fac_12 (f := f.fc) hny (.inr ‹_›)).symm | exact (fac_3y (f := f.fc) hny ‹_› ‹_›).symm | exact (fac_3n (f := f.fc) ‹_› ‹_›).symm | exact (fac_4y (f := f.fc) hny ‹_› ‹_›).symm | exact (fac_4n (f := f.fc) ‹_› ‹_›).symm | exact (fac_x (f := f.fc) ‹_› ‹_› ‹_› ‹_›).symm)
  ·refine RL.gT rfl (bF h7) ?_
   refine V (fA underlying50 1 rfl sizeOf45 rfl) ?_
   refine RL.gT rfl (bF h7) ?_
   refine V (run_ld underlying45 rfl rfl (hH2.cell (i := 0) rfl rfl)) ?_
   refine RL.gT rfl (bF h7) ?_
   refine RL.callP rfl hH2 (c_clearanceref02_Twice _ _  _ (hf.names.sl.hp hH2)) (run_call1 call72 rfl) ?_
   intro w8 hH9
   refine RL.gT rfl (bF h7) ?_
   refine V (run_geq rfl rfl) ?_
   refine V (run_pickF (bF h7) (v := B _) rfl) ?_
   refine RL.nil ?_
   refine CW.condP rfl (fun h11 => ?_) (fun h11 => ?_)
   ·refine SR ?_
    refine V (aV (B false) rfl) ?_
    refine RL.nil ?_
    refine CW.ret ?_
    refine outP1 Tryz.results31 (congrArg B ?_) hH9.below
    first | exact (fac_no (f := f.fc) (named_no1 (by show ¬ (1 ≤ f.names.length ∧ f.names.length ≤ 64); omega))).symm | exact (fac_no (f := f.fc) (named_no2 (by show ¬ twice f.names < 0; omega))).symm | exact (fac_no (f := f.fc) (named_no3 h0 ‹_› (nt ‹_›))).symm | (have hny : namedF f.names = true := named_yes hn1 hn2 ‹¬ k < _› hg; first | exact (fac_12 (f := f.fc) hny (.inl ‹_›)).symm | exact (fac_12 (f := f.fc) hny (.inr ‹_›)).symm | exact (fac_3y (f := f.fc) hny ‹_› ‹_›).symm | exact (fac_3n (f := f.fc) ‹_› ‹_›).symm | exact (fac_4y (f := f.fc) hny ‹_› ‹_›).symm | exact (fac_4n (f := f.fc) ‹_› ‹_›).symm | exact (fac_x (f := f.fc) ‹_› ‹_› ‹_› ‹_›).symm)
   ·refine CW.skip ?_
    refine CW.seq ?_
    refine SR ?_
    refine V (aV (I 0) rfl) ?_
    refine RL.nil ?_
    refine CW.block ?_
    have hn1 : 1 ≤ f.names.length ∧ f.names.length ≤ 64 := by omega
    have hn2 : twice f.names < 0 := by omega
    refine CW.loop (G := (Int)) (fun (k : Int) s' w' => (Fr [2, 4, 20, 21, 22, 23, 24, 25, 26, 27, 28, 29, 30, 31] _ s') ∧ (Hp w w' _) ∧ (s' 4 = I k) ∧ (0 ≤ k) ∧ (k ≤ f.names.length) ∧ (∀ j : Int, 0 ≤ j → j < k → nameR (f.names.getD j.toNat tx0) = true)) (fun (k : Int) => (f.names.length - k).toNat) (0) ⟨Fr.refl _ _, hH9, rfl, (by omega), (by omega), fun j a b => absurd b (by omega)⟩ ?_
    rintro k sg12 w12 ⟨fr12, hH12, e4_12, h0, hk, hg⟩
    have e1_12 : sg12 1 = Pn _ _ := (fr12 1 rfl).trans rfl
    have e3_12 : sg12 3 = I _ := (fr12 3 rfl).trans rfl
    refine CW.seq ?_
    refine SR ?_
    refine V (run_move e4_12) ?_
    refine V (run_move e3_12) ?_
    refine V (run_lss rfl rfl) ?_
    refine RL.nil ?_
    refine CW.condP rfl (fun h14 => ?_) (fun h14 => ?_)
    ·refine CW.skip ?_
     refine CW.seq ?_
     refine CW.block ?_
     refine SR ?_
     refine V (fA underlying50 1 rfl sizeOf45 e1_12) ?_
     refine V (run_ld underlying45 rfl rfl (hH12.cell (i := 0) rfl rfl)) ?_
     refine V (run_move e4_12) ?_
     refine V (run_indexAddrS (hf.names.sl.hp hH12) underlying45 sizeOf9 rfl rfl (by omega)) ?_
     refine V (run_ld underlying9 rfl rfl ((hf.names.sl.hp hH12).cell _ _ (txL_at (by omega)))) ?_
     refine RL.callP rfl hH12 (c_clearanceref02_Right _  _) (run_call1 call32 rfl) ?_
     intro w15 hH16
     refine V (run_not rfl) ?_
     refine RL.nil ?_
     refine CW.cond rfl (fun h19 => ?_) (fun h19 => ?_)
     ·refine SR ?_
      refine V (aV (B false) rfl) ?_
      refine RL.nil ?_
      refine CW.ret ?_
      refine outP1 Tryz.results31 (congrArg B ?_) hH16.below
      first | exact (fac_no (f := f.fc) (named_no1 (by show ¬ (1 ≤ f.names.length ∧ f.names.length ≤ 64); omega))).symm | exact (fac_no (f := f.fc) (named_no2 (by show ¬ twice f.names < 0; omega))).symm | exact (fac_no (f := f.fc) (named_no3 h0 ‹_› (nt ‹_›))).symm | (have hny : namedF f.names = true := named_yes hn1 hn2 ‹¬ k < _› hg; first | exact (fac_12 (f := f.fc) hny (.inl ‹_›)).symm | exact (fac_12 (f := f.fc) hny (.inr ‹_›)).symm | exact (fac_3y (f := f.fc) hny ‹_› ‹_›).symm | exact (fac_3n (f := f.fc) ‹_› ‹_›).symm | exact (fac_4y (f := f.fc) hny ‹_› ‹_›).symm | exact (fac_4n (f := f.fc) ‹_› ‹_›).symm | exact (fac_x (f := f.fc) ‹_› ‹_› ‹_› ‹_›).symm)
     ·refine CW.skip ?_
      refine CW.region ?_
      refine V (run_move e4_12) ?_
      refine V (run_add rfl rfl (by omega)) ?_
      refine V (aV (I _) rfl) ?_
      refine RL.nil ?_
      refine ⟨k + 1, ?_, fr12.u4.u4.u4.u1, hH16, (congrArg I (by first | rfl | omega)), ?_, ?_, ?_⟩
      ·((try dsimp only); omega)
      ·omega
      ·omega
      ·exact fun j a b => if e : j = k then e ▸ nf ‹_› else hg j a (by omega)
    ·refine CW.exit (id := 0) rfl ?_
     refine CW.seq ?_
     refine SR ?_
     refine V (fA underlying50 0 rfl sizeOf3 e1_12) ?_
     refine V (run_ld underlying3 rfl rfl (hH12.cell (i := 0) rfl (v := I _) rfl)) ?_
     refine V (run_eql rfl rfl) ?_
     refine V (mV (B _) rfl) ?_
     refine RL.splitP (dj := 35) rfl (fun h21 => ?_) (fun h21 => ?_)
     ·refine RL.gF rfl rfl (bT h21) rfl ?_
      refine RL.gF rfl rfl (bT h21) rfl ?_
      refine RL.gF rfl rfl (bT h21) rfl ?_
      refine V (run_pickT (bT h21) (v := B true) rfl) ?_
      refine RL.nil ?_
      refine CW.condT rfl ?_
      refine SR ?_
      refine V (fA underlying50 2 rfl sizeOf48 e1_12) ?_
      refine V (run_ldBR underlying48 rfl rfl rfl (hH12.blk (i := 0) rfl)) ?_
      refine RL.callP rfl hH12 (c_clearanceref03_Points _  _) (run_call1 call73 rfl) ?_
      intro w22 hH23
      refine V (run_eql rfl rfl) ?_
      refine V (aV (B _) rfl) ?_
      refine RL.nil ?_
      refine CW.ret ?_
      refine outP1 Tryz.results31 (congrArg B ?_) hH23.below
      first | exact (fac_no (f := f.fc) (named_no1 (by show ¬ (1 ≤ f.names.length ∧ f.names.length ≤ 64); omega))).symm | exact (fac_no (f := f.fc) (named_no2 (by show ¬ twice f.names < 0; omega))).symm | exact (fac_no (f := f.fc) (named_no3 h0 ‹_› (nt ‹_›))).symm | (have hny : namedF f.names = true := named_yes hn1 hn2 ‹¬ k < _› hg; first | exact (fac_12 (f := f.fc) hny (.inl ‹_›)).symm | exact (fac_12 (f := f.fc) hny (.inr ‹_›)).symm | exact (fac_3y (f := f.fc) hny ‹_› ‹_›).symm | exact (fac_3n (f := f.fc) ‹_› ‹_›).symm | exact (fac_4y (f := f.fc) hny ‹_› ‹_›).symm | exact (fac_4n (f := f.fc) ‹_› ‹_›).symm | exact (fac_x (f := f.fc) ‹_› ‹_› ‹_› ‹_›).symm)
     ·refine RL.gT rfl (bF h21) ?_
      refine V (fA underlying50 0 rfl sizeOf3 e1_12) ?_
      refine RL.gT rfl (bF h21) ?_
      refine V (run_ld underlying3 rfl rfl (hH12.cell (i := 0) rfl (v := I _) rfl)) ?_
      refine RL.gT rfl (bF h21) ?_
      refine V (run_eql rfl rfl) ?_
      refine V (run_pickF (bF h21) (v := B _) rfl) ?_
      refine RL.nil ?_
      refine CW.condP rfl (fun h26 => ?_) (fun h26 => ?_)
      ·refine SR ?_
       refine V (fA underlying50 2 rfl sizeOf48 e1_12) ?_
       refine V (run_ldBR underlying48 rfl rfl rfl (hH12.blk (i := 0) rfl)) ?_
       refine RL.callP rfl hH12 (c_clearanceref03_Points _  _) (run_call1 call73 rfl) ?_
       intro w27 hH28
       refine V (run_eql rfl rfl) ?_
       refine V (aV (B _) rfl) ?_
       refine RL.nil ?_
       refine CW.ret ?_
       refine outP1 Tryz.results31 (congrArg B ?_) hH28.below
       first | exact (fac_no (f := f.fc) (named_no1 (by show ¬ (1 ≤ f.names.length ∧ f.names.length ≤ 64); omega))).symm | exact (fac_no (f := f.fc) (named_no2 (by show ¬ twice f.names < 0; omega))).symm | exact (fac_no (f := f.fc) (named_no3 h0 ‹_› (nt ‹_›))).symm | (have hny : namedF f.names = true := named_yes hn1 hn2 ‹¬ k < _› hg; first | exact (fac_12 (f := f.fc) hny (.inl ‹_›)).symm | exact (fac_12 (f := f.fc) hny (.inr ‹_›)).symm | exact (fac_3y (f := f.fc) hny ‹_› ‹_›).symm | exact (fac_3n (f := f.fc) ‹_› ‹_›).symm | exact (fac_4y (f := f.fc) hny ‹_› ‹_›).symm | exact (fac_4n (f := f.fc) ‹_› ‹_›).symm | exact (fac_x (f := f.fc) ‹_› ‹_› ‹_› ‹_›).symm)
      ·refine CW.skip ?_
       refine CW.seq ?_
       refine SR ?_
       refine V (fA underlying50 0 rfl sizeOf3 e1_12) ?_
       refine V (run_ld underlying3 rfl rfl (hH12.cell (i := 0) rfl (v := I _) rfl)) ?_
       refine V (run_eql rfl rfl) ?_
       refine RL.nil ?_
       refine CW.condP rfl (fun h31 => ?_) (fun h31 => ?_)
       ·refine SR ?_
        refine V (fA underlying50 2 rfl sizeOf48 e1_12) ?_
        refine V (fA underlying48 0 rfl sizeOf3 rfl) ?_
        refine V (run_ld underlying3 rfl rfl (hH12.cell (i := 0) rfl (v := I _) rfl)) ?_
        refine V (run_move e3_12) ?_
        refine V (run_eql rfl rfl) ?_
        refine V (mV (B _) rfl) ?_
        refine RL.splitP (dj := 52) rfl (fun h33 => ?_) (fun h33 => ?_)
        ·refine RL.gT rfl (bT h33) ?_
         refine V (fA underlying50 2 rfl sizeOf48 e1_12) ?_
         refine RL.gT rfl (bT h33) ?_
         refine V (run_ldBR underlying48 rfl rfl rfl (hH12.blk (i := 0) rfl)) ?_
         refine RL.gT rfl (bT h33) ?_
         refine RL.callP rfl hH12 (c_clearanceref05_Right _  _) (run_call1 call74 rfl) ?_
         intro w34 hH35
         refine V (run_pickT (bT h33) (v := B _) rfl) ?_
         refine V (aV (B _) rfl) ?_
         refine RL.nil ?_
         refine CW.ret ?_
         refine outP1 Tryz.results31 (congrArg B ?_) hH35.below
         first | exact (fac_no (f := f.fc) (named_no1 (by show ¬ (1 ≤ f.names.length ∧ f.names.length ≤ 64); omega))).symm | exact (fac_no (f := f.fc) (named_no2 (by show ¬ twice f.names < 0; omega))).symm | exact (fac_no (f := f.fc) (named_no3 h0 ‹_› (nt ‹_›))).symm | (have hny : namedF f.names = true := named_yes hn1 hn2 ‹¬ k < _› hg; first | exact (fac_12 (f := f.fc) hny (.inl ‹_›)).symm | exact (fac_12 (f := f.fc) hny (.inr ‹_›)).symm | exact (fac_3y (f := f.fc) hny ‹_› ‹_›).symm | exact (fac_3n (f := f.fc) ‹_› ‹_›).symm | exact (fac_4y (f := f.fc) hny ‹_› ‹_›).symm | exact (fac_4n (f := f.fc) ‹_› ‹_›).symm | exact (fac_x (f := f.fc) ‹_› ‹_› ‹_› ‹_›).symm)
        ·refine RL.gF rfl rfl (bF h33) rfl ?_
         refine RL.gF rfl rfl (bF h33) rfl ?_
         refine RL.gF rfl rfl (bF h33) rfl ?_
         refine V (run_pickF (bF h33) (v := B false) rfl) ?_
         refine V (aV (B _) rfl) ?_
         refine RL.nil ?_
         refine CW.ret ?_
         refine outP1 Tryz.results31 (congrArg B ?_) hH12.below
         first | exact (fac_no (f := f.fc) (named_no1 (by show ¬ (1 ≤ f.names.length ∧ f.names.length ≤ 64); omega))).symm | exact (fac_no (f := f.fc) (named_no2 (by show ¬ twice f.names < 0; omega))).symm | exact (fac_no (f := f.fc) (named_no3 h0 ‹_› (nt ‹_›))).symm | (have hny : namedF f.names = true := named_yes hn1 hn2 ‹¬ k < _› hg; first | exact (fac_12 (f := f.fc) hny (.inl ‹_›)).symm | exact (fac_12 (f := f.fc) hny (.inr ‹_›)).symm | exact (fac_3y (f := f.fc) hny ‹_› ‹_›).symm | exact (fac_3n (f := f.fc) ‹_› ‹_›).symm | exact (fac_4y (f := f.fc) hny ‹_› ‹_›).symm | exact (fac_4n (f := f.fc) ‹_› ‹_›).symm | exact (fac_x (f := f.fc) ‹_› ‹_› ‹_› ‹_›).symm)
       ·refine CW.skip ?_
        refine SR ?_
        refine V (fA underlying50 0 rfl sizeOf3 e1_12) ?_
        refine V (run_ld underlying3 rfl rfl (hH12.cell (i := 0) rfl (v := I _) rfl)) ?_
        refine V (run_eql rfl rfl) ?_
        refine V (mV (B _) rfl) ?_
        refine RL.splitP (dj := 60) rfl (fun h38 => ?_) (fun h38 => ?_)
        ·refine RL.gT rfl (bT h38) ?_
         refine V (fA underlying50 2 rfl sizeOf48 e1_12) ?_
         refine RL.gT rfl (bT h38) ?_
         refine V (fA underlying48 0 rfl sizeOf3 rfl) ?_
         refine RL.gT rfl (bT h38) ?_
         refine V (run_ld underlying3 rfl rfl (hH12.cell (i := 0) rfl (v := I _) rfl)) ?_
         refine RL.gT rfl (bT h38) ?_
         refine V (run_move e3_12) ?_
         refine RL.gT rfl (bT h38) ?_
         refine V (run_eql rfl rfl) ?_
         refine V (run_pickT (bT h38) (v := B _) rfl) ?_
         refine V (mV (B _) rfl) ?_
         refine RL.splitP (dj := 67) rfl (fun h40 => ?_) (fun h40 => ?_)
         ·refine RL.gT rfl (bT h40) ?_
          refine V (fA underlying50 2 rfl sizeOf48 e1_12) ?_
          refine RL.gT rfl (bT h40) ?_
          refine V (run_ldBR underlying48 rfl rfl rfl (hH12.blk (i := 0) rfl)) ?_
          refine RL.gT rfl (bT h40) ?_
          refine RL.callP rfl hH12 (c_clearanceref06_Lattice _  _) (run_call1 call75 rfl) ?_
          intro w41 hH42
          refine V (run_pickT (bT h40) (v := B _) rfl) ?_
          refine V (aV (B _) rfl) ?_
          refine RL.nil ?_
          refine CW.ret ?_
          refine outP1 Tryz.results31 (congrArg B ?_) hH42.below
          first | exact (fac_no (f := f.fc) (named_no1 (by show ¬ (1 ≤ f.names.length ∧ f.names.length ≤ 64); omega))).symm | exact (fac_no (f := f.fc) (named_no2 (by show ¬ twice f.names < 0; omega))).symm | exact (fac_no (f := f.fc) (named_no3 h0 ‹_› (nt ‹_›))).symm | (have hny : namedF f.names = true := named_yes hn1 hn2 ‹¬ k < _› hg; first | exact (fac_12 (f := f.fc) hny (.inl ‹_›)).symm | exact (fac_12 (f := f.fc) hny (.inr ‹_›)).symm | exact (fac_3y (f := f.fc) hny ‹_› ‹_›).symm | exact (fac_3n (f := f.fc) ‹_› ‹_›).symm | exact (fac_4y (f := f.fc) hny ‹_› ‹_›).symm | exact (fac_4n (f := f.fc) ‹_› ‹_›).symm | exact (fac_x (f := f.fc) ‹_› ‹_› ‹_› ‹_›).symm)
         ·refine RL.gF rfl rfl (bF h40) rfl ?_
          refine RL.gF rfl rfl (bF h40) rfl ?_
          refine RL.gF rfl rfl (bF h40) rfl ?_
          refine V (run_pickF (bF h40) (v := B false) rfl) ?_
          refine V (aV (B _) rfl) ?_
          refine RL.nil ?_
          refine CW.ret ?_
          refine outP1 Tryz.results31 (congrArg B ?_) hH12.below
          first | exact (fac_no (f := f.fc) (named_no1 (by show ¬ (1 ≤ f.names.length ∧ f.names.length ≤ 64); omega))).symm | exact (fac_no (f := f.fc) (named_no2 (by show ¬ twice f.names < 0; omega))).symm | exact (fac_no (f := f.fc) (named_no3 h0 ‹_› (nt ‹_›))).symm | (have hny : namedF f.names = true := named_yes hn1 hn2 ‹¬ k < _› hg; first | exact (fac_12 (f := f.fc) hny (.inl ‹_›)).symm | exact (fac_12 (f := f.fc) hny (.inr ‹_›)).symm | exact (fac_3y (f := f.fc) hny ‹_› ‹_›).symm | exact (fac_3n (f := f.fc) ‹_› ‹_›).symm | exact (fac_4y (f := f.fc) hny ‹_› ‹_›).symm | exact (fac_4n (f := f.fc) ‹_› ‹_›).symm | exact (fac_x (f := f.fc) ‹_› ‹_› ‹_› ‹_›).symm)
        ·refine RL.gF rfl rfl (bF h38) rfl ?_
         refine RL.gF rfl rfl (bF h38) rfl ?_
         refine RL.gF rfl rfl (bF h38) rfl ?_
         refine RL.gF rfl rfl (bF h38) rfl ?_
         refine RL.gF rfl rfl (bF h38) rfl ?_
         refine V (run_pickF (bF h38) (v := B false) rfl) ?_
         refine V (mV (B _) rfl) ?_
         refine RL.gF rfl rfl rfl rfl ?_
         refine RL.gF rfl rfl rfl rfl ?_
         refine RL.gF rfl rfl rfl rfl ?_
         refine V (run_pickF rfl (v := B false) rfl) ?_
         refine V (aV (B _) rfl) ?_
         refine RL.nil ?_
         refine CW.ret ?_
         refine outP1 Tryz.results31 (congrArg B ?_) hH12.below
         first | exact (fac_no (f := f.fc) (named_no1 (by show ¬ (1 ≤ f.names.length ∧ f.names.length ≤ 64); omega))).symm | exact (fac_no (f := f.fc) (named_no2 (by show ¬ twice f.names < 0; omega))).symm | exact (fac_no (f := f.fc) (named_no3 h0 ‹_› (nt ‹_›))).symm | (have hny : namedF f.names = true := named_yes hn1 hn2 ‹¬ k < _› hg; first | exact (fac_12 (f := f.fc) hny (.inl ‹_›)).symm | exact (fac_12 (f := f.fc) hny (.inr ‹_›)).symm | exact (fac_3y (f := f.fc) hny ‹_› ‹_›).symm | exact (fac_3n (f := f.fc) ‹_› ‹_›).symm | exact (fac_4y (f := f.fc) hny ‹_› ‹_›).symm | exact (fac_4n (f := f.fc) ‹_› ‹_›).symm | exact (fac_x (f := f.fc) ‹_› ‹_› ‹_› ‹_›).symm)

theorem c_clearanceref07_Right (s : Shp) (w : World) (hs : ShpV (Kw w) s) : Calls Tryz.prog 16 #[.agg (shpC s)] w (Pure (B (shR s.sh)) w) := by
 have hsl := sh_len s
 have hm := hs.facs.sl.small
 unfold maxLen at hm
 refine enter Tryz.func16 rfl Tryz.ntmps16 rfl ?_
 have hH := Hp.start w
 refine SR ?_
 refine RL.new rfl hH (f := fun b => (.pointer (some ⟨b, 0, none⟩))) (run_box (v := .agg _) rfl) ?_
 intro b3 w1 hH2
 refine V (aV (B false) rfl) ?_
 refine RL.nil ?_
 refine CW.seq ?_
 refine SR ?_
 refine V (fA underlying24 1 rfl sizeOf22 rfl) ?_
 refine V (run_ld underlying22 rfl rfl (hH2.cell (i := 0) rfl rfl)) ?_
 refine V (run_lenSl (hs.facs.sl.hp hH2) rfl underlying22 rfl) ?_
 refine V (run_lss rfl rfl) ?_
 refine V (mV (B _) rfl) ?_
 refine RL.splitP (dj := 8) rfl (fun h5 => ?_) (fun h5 => ?_)
 ·refine RL.gF rfl rfl (bT h5) rfl ?_
  refine RL.gF rfl rfl (bT h5) rfl ?_
  refine RL.gF rfl rfl (bT h5) rfl ?_
  refine RL.gF rfl rfl (bT h5) rfl ?_
  refine V (run_pickT (bT h5) (v := B true) rfl) ?_
  refine V (mV (B _) rfl) ?_
  refine RL.gF rfl rfl rfl rfl ?_
  refine RL.gF rfl rfl rfl rfl ?_
  refine RL.gF rfl rfl rfl rfl ?_
  refine RL.gF rfl rfl rfl rfl ?_
  refine RL.gU rfl rfl rfl ?_
  refine RL.gU rfl rfl rfl ?_
  refine RL.gU rfl rfl rfl ?_
  refine RL.gU rfl rfl rfl ?_
  refine RL.gF rfl rfl rfl rfl ?_
  refine V (run_pickT rfl (v := B true) rfl) ?_
  refine RL.nil ?_
  refine CW.condT rfl ?_
  refine SR ?_
  refine V (aV (B false) rfl) ?_
  refine RL.nil ?_
  refine CW.ret ?_
  refine outP1 Tryz.results16 (congrArg B ?_) hH2.below
  first | exact (shR_no3 (k := k) h0 (by omega) (by rw [sh_get]; exact nt ‹_›)).symm | exact (shR_yes (k := k) (by omega) hc2 (by omega) fun j a b => by rw [sh_get]; exact hg j a b).symm | exact (shR_no1 (by omega)).symm | exact (shR_no2 (by first | exact nt ‹_› | assumption) (by omega)).symm
 ·refine RL.gT rfl (bF h5) ?_
  refine V (fA underlying24 1 rfl sizeOf22 rfl) ?_
  refine RL.gT rfl (bF h5) ?_
  refine V (run_ld underlying22 rfl rfl (hH2.cell (i := 0) rfl rfl)) ?_
  refine RL.gT rfl (bF h5) ?_
  refine V (run_lenSl (hs.facs.sl.hp hH2) rfl underlying22 rfl) ?_
  refine RL.gT rfl (bF h5) ?_
  refine V (run_gtr rfl rfl) ?_
  refine V (run_pickF (bF h5) (v := B _) rfl) ?_
  refine V (mV (B _) rfl) ?_
  refine RL.splitP (dj := 14) rfl (fun h7 => ?_) (fun h7 => ?_)
  ·refine RL.gF rfl rfl (bT h7) rfl ?_
   refine RL.gF rfl rfl (bT h7) rfl ?_
   refine RL.gF rfl rfl (bT h7) rfl ?_
   refine RL.gF rfl rfl (bT h7) rfl ?_
   refine RL.gU rfl rfl rfl ?_
   refine RL.gU rfl rfl rfl ?_
   refine RL.gU rfl rfl rfl ?_
   refine RL.gU rfl rfl rfl ?_
   refine RL.gF rfl rfl (bT h7) rfl ?_
   refine V (run_pickT (bT h7) (v := B true) rfl) ?_
   refine RL.nil ?_
   refine CW.condT rfl ?_
   refine SR ?_
   refine V (aV (B false) rfl) ?_
   refine RL.nil ?_
   refine CW.ret ?_
   refine outP1 Tryz.results16 (congrArg B ?_) hH2.below
   first | exact (shR_no3 (k := k) h0 (by omega) (by rw [sh_get]; exact nt ‹_›)).symm | exact (shR_yes (k := k) (by omega) hc2 (by omega) fun j a b => by rw [sh_get]; exact hg j a b).symm | exact (shR_no1 (by omega)).symm | exact (shR_no2 (by first | exact nt ‹_› | assumption) (by omega)).symm
  ·refine RL.gT rfl (bF h7) ?_
   refine V (fA underlying24 0 rfl sizeOf4 rfl) ?_
   refine RL.gT rfl (bF h7) ?_
   refine V (run_ld underlying4 rfl rfl (hH2.cell (i := 0) rfl (v := B _) rfl)) ?_
   refine RL.gT rfl (bF h7) ?_
   refine V (run_not rfl) ?_
   refine RL.gT rfl (bF h7) ?_
   refine V (mV (B _) rfl) ?_
   refine RL.split (dj := 18) rfl (fun h10 => ?_) (fun h10 => ?_)
   ·refine RL.gT rfl (bR (c := true) h10) ?_
    refine V (fA underlying24 1 rfl sizeOf22 rfl) ?_
    refine RL.gT rfl (bR (c := true) h10) ?_
    refine V (run_ld underlying22 rfl rfl (hH2.cell (i := 0) rfl rfl)) ?_
    refine RL.gT rfl (bR (c := true) h10) ?_
    refine V (run_lenSl (hs.facs.sl.hp hH2) rfl underlying22 rfl) ?_
    refine RL.gT rfl (bR (c := true) h10) ?_
    refine V (run_neq rfl rfl) ?_
    refine RL.gT rfl (bF h7) ?_
    refine V (run_pickT (bR (c := true) h10) (v := B _) rfl) ?_
    refine V (run_pickF (bF h7) (v := B _) rfl) ?_
    refine RL.nil ?_
    refine CW.condP rfl (fun h12 => ?_) (fun h12 => ?_)
    ·refine SR ?_
     refine V (aV (B false) rfl) ?_
     refine RL.nil ?_
     refine CW.ret ?_
     refine outP1 Tryz.results16 (congrArg B ?_) hH2.below
     first | exact (shR_no3 (k := k) h0 (by omega) (by rw [sh_get]; exact nt ‹_›)).symm | exact (shR_yes (k := k) (by omega) hc2 (by omega) fun j a b => by rw [sh_get]; exact hg j a b).symm | exact (shR_no1 (by omega)).symm | exact (shR_no2 (by first | exact nt ‹_› | assumption) (by omega)).symm
    ·refine CW.skip ?_
     refine CW.seq ?_
     refine SR ?_
     refine V (aV (I 0) rfl) ?_
     refine RL.nil ?_
     refine CW.block ?_
     have hc2 : s.sh.tuple = true ∨ s.sh.facs.length = 1 := by first | exact .inl (nf ‹(!s.tuple) = false›) | exact .inl ‹s.tuple = true› | exact .inr (by omega)
     have hc1 : 1 ≤ s.facs.length ∧ s.facs.length ≤ 8 := by omega
     refine CW.loop (G := (Int)) (fun (k : Int) s' w' => (Fr [2, 3, 25, 26, 27, 28, 29, 30, 31, 32, 33, 34, 35, 36, 37, 38] _ s') ∧ (Hp w w' _) ∧ (s' 3 = I k) ∧ (0 ≤ k) ∧ (k ≤ s.facs.length) ∧ (∀ j : Int, 0 ≤ j → j < k → factorR (s.facs.getD j.toNat fac0).fc = true)) (fun (k : Int) => (s.facs.length - k).toNat) (0) ⟨Fr.refl _ _, hH2, rfl, (by omega), (by omega), fun j a b => absurd b (by omega)⟩ ?_
     rintro k sg13 w13 ⟨fr13, hH13, e3_13, h0, hk, hg⟩
     have e1_13 : sg13 1 = Pn _ _ := (fr13 1 rfl).trans rfl
     refine CW.seq ?_
     refine SR ?_
     refine V (run_move e3_13) ?_
     refine V (fA underlying24 1 rfl sizeOf22 e1_13) ?_
     refine V (run_ld underlying22 rfl rfl (hH13.cell (i := 0) rfl rfl)) ?_
     refine V (run_lenSl (hs.facs.sl.hp hH13) rfl underlying22 rfl) ?_
     refine V (run_lss rfl rfl) ?_
     refine RL.nil ?_
     refine CW.condP rfl (fun h15 => ?_) (fun h15 => ?_)
     ·refine CW.skip ?_
      refine CW.seq ?_
      refine CW.block ?_
      refine SR ?_
      refine V (fA underlying24 1 rfl sizeOf22 e1_13) ?_
      refine V (run_ld underlying22 rfl rfl (hH13.cell (i := 0) rfl rfl)) ?_
      refine V (run_move e3_13) ?_
      refine V (run_indexAddrS (hs.facs.sl.hp hH13) underlying22 sizeOf50 rfl rfl (by omega)) ?_
      refine V (run_ldE (dv := fac0) facL_len (hs.facs.sl.hp hH13) underlying50 rfl rfl rfl (by omega)) ?_
      refine RL.callP rfl hH13 (c_clearanceref07_factor _  _ ((hs.at (by omega) (by omega)).mono hH13.kw)) (run_call1 call31 rfl) ?_
      intro w16 hH17
      refine V (run_not rfl) ?_
      refine RL.nil ?_
      refine CW.cond rfl (fun h20 => ?_) (fun h20 => ?_)
      ·refine SR ?_
       refine V (aV (B false) rfl) ?_
       refine RL.nil ?_
       refine CW.ret ?_
       refine outP1 Tryz.results16 (congrArg B ?_) hH17.below
       first | exact (shR_no3 (k := k) h0 (by omega) (by rw [sh_get]; exact nt ‹_›)).symm | exact (shR_yes (k := k) (by omega) hc2 (by omega) fun j a b => by rw [sh_get]; exact hg j a b).symm | exact (shR_no1 (by omega)).symm | exact (shR_no2 (by first | exact nt ‹_› | assumption) (by omega)).symm
      ·refine CW.skip ?_
       refine CW.region ?_
       refine V (run_move e3_13) ?_
       refine V (run_add rfl rfl (by omega)) ?_
       refine V (aV (I _) rfl) ?_
       refine RL.nil ?_
       refine ⟨k + 1, ?_, fr13.u4.u4.u4.u1.u1.u1, hH17, (congrArg I (by first | rfl | omega)), ?_, ?_, ?_⟩
       ·((try dsimp only); omega)
       ·omega
       ·omega
       ·exact fun j a b => if e : j = k then e ▸ nf ‹_› else hg j a (by omega)
     ·refine CW.exit (id := 0) rfl ?_
      refine SR ?_
      refine V (aV (B true) rfl) ?_
      refine RL.nil ?_
      refine CW.ret ?_
      refine outP1 Tryz.results16 (congrArg B ?_) hH13.below
      first | exact (shR_no3 (k := k) h0 (by omega) (by rw [sh_get]; exact nt ‹_›)).symm | exact (shR_yes (k := k) (by omega) hc2 (by omega) fun j a b => by rw [sh_get]; exact hg j a b).symm | exact (shR_no1 (by omega)).symm | exact (shR_no2 (by first | exact nt ‹_› | assumption) (by omega)).symm
   ·refine RL.gF rfl rfl (bR (c := false) h10) rfl ?_
    refine RL.gF rfl rfl (bR (c := false) h10) rfl ?_
    refine RL.gF rfl rfl (bR (c := false) h10) rfl ?_
    refine RL.gF rfl rfl (bR (c := false) h10) rfl ?_
    refine RL.gT rfl (bF h7) ?_
    refine V (run_pickF (bR (c := false) h10) (v := B false) rfl) ?_
    refine V (run_pickF (bF h7) (v := B _) rfl) ?_
    refine RL.nil ?_
    refine CW.condF rfl ?_
    refine CW.skip ?_
    refine CW.seq ?_
    refine SR ?_
    refine V (aV (I 0) rfl) ?_
    refine RL.nil ?_
    refine CW.block ?_
    have hc2 : s.sh.tuple = true ∨ s.sh.facs.length = 1 := by first | exact .inl (nf ‹(!s.tuple) = false›) | exact .inl ‹s.tuple = true› | exact .inr (by omega)
    have hc1 : 1 ≤ s.facs.length ∧ s.facs.length ≤ 8 := by omega
    refine CW.loop (G := (Int)) (fun (k : Int) s' w' => (Fr [2, 3, 25, 26, 27, 28, 29, 30, 31, 32, 33, 34, 35, 36, 37, 38] _ s') ∧ (Hp w w' _) ∧ (s' 3 = I k) ∧ (0 ≤ k) ∧ (k ≤ s.facs.length) ∧ (∀ j : Int, 0 ≤ j → j < k → factorR (s.facs.getD j.toNat fac0).fc = true)) (fun (k : Int) => (s.facs.length - k).toNat) (0) ⟨Fr.refl _ _, hH2, rfl, (by omega), (by omega), fun j a b => absurd b (by omega)⟩ ?_
    rintro k sg21 w21 ⟨fr21, hH21, e3_21, h0, hk, hg⟩
    have e1_21 : sg21 1 = Pn _ _ := (fr21 1 rfl).trans rfl
    refine CW.seq ?_
    refine SR ?_
    refine V (run_move e3_21) ?_
    refine V (fA underlying24 1 rfl sizeOf22 e1_21) ?_
    refine V (run_ld underlying22 rfl rfl (hH21.cell (i := 0) rfl rfl)) ?_
    refine V (run_lenSl (hs.facs.sl.hp hH21) rfl underlying22 rfl) ?_
    refine V (run_lss rfl rfl) ?_
    refine RL.nil ?_
    refine CW.condP rfl (fun h23 => ?_) (fun h23 => ?_)
    ·refine CW.skip ?_
     refine CW.seq ?_
     refine CW.block ?_
     refine SR ?_
     refine V (fA underlying24 1 rfl sizeOf22 e1_21) ?_
     refine V (run_ld underlying22 rfl rfl (hH21.cell (i := 0) rfl rfl)) ?_
     refine V (run_move e3_21) ?_
     refine V (run_indexAddrS (hs.facs.sl.hp hH21) underlying22 sizeOf50 rfl rfl (by omega)) ?_
     refine V (run_ldE (dv := fac0) facL_len (hs.facs.sl.hp hH21) underlying50 rfl rfl rfl (by omega)) ?_
     refine RL.callP rfl hH21 (c_clearanceref07_factor _  _ ((hs.at (by omega) (by omega)).mono hH21.kw)) (run_call1 call31 rfl) ?_
     intro w24 hH25
     refine V (run_not rfl) ?_
     refine RL.nil ?_
     refine CW.cond rfl (fun h28 => ?_) (fun h28 => ?_)
     ·refine SR ?_
      refine V (aV (B false) rfl) ?_
      refine RL.nil ?_
      refine CW.ret ?_
      refine outP1 Tryz.results16 (congrArg B ?_) hH25.below
      first | exact (shR_no3 (k := k) h0 (by omega) (by rw [sh_get]; exact nt ‹_›)).symm | exact (shR_yes (k := k) (by omega) hc2 (by omega) fun j a b => by rw [sh_get]; exact hg j a b).symm | exact (shR_no1 (by omega)).symm | exact (shR_no2 (by first | exact nt ‹_› | assumption) (by omega)).symm
     ·refine CW.skip ?_
      refine CW.region ?_
      refine V (run_move e3_21) ?_
      refine V (run_add rfl rfl (by omega)) ?_
      refine V (aV (I _) rfl) ?_
      refine RL.nil ?_
      refine ⟨k + 1, ?_, fr21.u4.u4.u4.u1.u1.u1, hH25, (congrArg I (by first | rfl | omega)), ?_, ?_, ?_⟩
      ·((try dsimp only); omega)
      ·omega
      ·omega
      ·exact fun j a b => if e : j = k then e ▸ nf ‹_› else hg j a (by omega)
    ·refine CW.exit (id := 0) rfl ?_
     refine SR ?_
     refine V (aV (B true) rfl) ?_
     refine RL.nil ?_
     refine CW.ret ?_
     refine outP1 Tryz.results16 (congrArg B ?_) hH21.below
     first | exact (shR_no3 (k := k) h0 (by omega) (by rw [sh_get]; exact nt ‹_›)).symm | exact (shR_yes (k := k) (by omega) hc2 (by omega) fun j a b => by rw [sh_get]; exact hg j a b).symm | exact (shR_no1 (by omega)).symm | exact (shR_no2 (by first | exact nt ‹_› | assumption) (by omega)).symm

theorem c_clearanceref07_word (f : Fac) (s : BitVec 64) (hfr : factorR f.fc = true) (w : World) (hf : FacV (Kw w) f) : Calls Tryz.prog 60 #[.agg (facC f), U s] w (Pure (B (wordF f.fc s)) w) := by
 have hm := hf.names.sl.small
 unfold maxLen at hm
 refine enter Tryz.func60 rfl Tryz.ntmps60 rfl ?_
 have hH := Hp.start w
 refine SR ?_
 refine RL.new rfl hH (f := fun b => (.pointer (some ⟨b, 0, none⟩))) (run_box (v := .agg _) rfl) ?_
 intro b3 w1 hH2
 refine V (aV (B false) rfl) ?_
 refine RL.nil ?_
 refine CW.seq ?_
 refine SR ?_
 refine V (fA underlying50 0 rfl sizeOf3 rfl) ?_
 refine V (run_ld underlying3 rfl rfl (hH2.cell (i := 0) rfl (v := I _) rfl)) ?_
 refine V (run_eql rfl rfl) ?_
 refine RL.nil ?_
 refine CW.condP rfl (fun h5 => ?_) (fun h5 => ?_)
 ·refine SR ?_
  refine V (fA underlying50 1 rfl sizeOf45 rfl) ?_
  refine V (run_ld underlying45 rfl rfl (hH2.cell (i := 0) rfl rfl)) ?_
  refine V (run_lenSl (hf.names.sl.hp hH2) rfl underlying45 rfl) ?_
  refine V (mV (U _) rfl) ?_
  refine RL.callP rfl hH2 (c_clearanceref04_Level _ _  _) (run_call2 call65 rfl rfl) ?_
  intro w6 hH7
  refine V (run_move (by conv => lhs; whnf)) ?_
  refine V (run_extract rfl (v := I _) rfl) ?_
  refine V (run_extract rfl (v := B _) rfl) ?_
  refine V (aV (I _) rfl) ?_
  refine V (aV (B _) rfl) ?_
  refine RL.nil ?_
  refine SR ?_
  refine V (mV (B _) rfl) ?_
  refine V (aV (B _) rfl) ?_
  refine RL.nil ?_
  refine CW.ret ?_
  refine outP1 Tryz.results60 (congrArg B ?_) hH7.below
  first | exact (word1 (f := f.fc) ‹_› s).symm | exact (word2 (f := f.fc) ‹_› s).symm | exact (word3r (f := f.fc) hfr ‹_› s).symm | exact (wordx (f := f.fc) ‹_› ‹_› ‹_› s).symm
 ·refine CW.skip ?_
  refine CW.seq ?_
  refine SR ?_
  refine V (fA underlying50 0 rfl sizeOf3 rfl) ?_
  refine V (run_ld underlying3 rfl rfl (hH2.cell (i := 0) rfl (v := I _) rfl)) ?_
  refine V (run_eql rfl rfl) ?_
  refine RL.nil ?_
  refine CW.condP rfl (fun h10 => ?_) (fun h10 => ?_)
  ·refine SR ?_
   refine V (mV (U _) rfl) ?_
   refine V (fA underlying50 1 rfl sizeOf45 rfl) ?_
   refine V (run_ld underlying45 rfl rfl (hH2.cell (i := 0) rfl rfl)) ?_
   refine V (run_lenSl (hf.names.sl.hp hH2) rfl underlying45 rfl) ?_
   refine RL.callP rfl hH2 (c_clearanceref01_Below _  _) (run_call1 call95 rfl) ?_
   intro w11 hH12
   refine RL.callP rfl hH12 (c_clearanceref01_Sub _ _  _) (run_call2 call102 rfl rfl) ?_
   intro w13 hH14
   refine V (aV (B _) rfl) ?_
   refine RL.nil ?_
   refine CW.ret ?_
   refine outP1 Tryz.results60 (congrArg B ?_) hH14.below
   first | exact (word1 (f := f.fc) ‹_› s).symm | exact (word2 (f := f.fc) ‹_› s).symm | exact (word3r (f := f.fc) hfr ‹_› s).symm | exact (wordx (f := f.fc) ‹_› ‹_› ‹_› s).symm
  ·refine CW.skip ?_
   refine CW.seq ?_
   refine SR ?_
   refine V (fA underlying50 0 rfl sizeOf3 rfl) ?_
   refine V (run_ld underlying3 rfl rfl (hH2.cell (i := 0) rfl (v := I _) rfl)) ?_
   refine V (run_eql rfl rfl) ?_
   refine RL.nil ?_
   refine CW.condP rfl (fun h17 => ?_) (fun h17 => ?_)
   ·refine SR ?_
    refine V (fA underlying50 2 rfl sizeOf48 rfl) ?_
    refine V (run_ldBR underlying48 rfl rfl rfl (hH2.blk (i := 0) rfl)) ?_
    refine V (mV (U _) rfl) ?_
    refine RL.callP rfl hH2 (c_clearanceref05_Close _ _  _) (run_call2 call103 rfl rfl) ?_
    intro w18 hH19
    refine V (mV (U _) rfl) ?_
    refine V (run_eqlU rfl rfl) ?_
    refine V (aV (B _) rfl) ?_
    refine RL.nil ?_
    refine CW.ret ?_
    refine outP1 Tryz.results60 (congrArg B ?_) hH19.below
    first | exact (word1 (f := f.fc) ‹_› s).symm | exact (word2 (f := f.fc) ‹_› s).symm | exact (word3r (f := f.fc) hfr ‹_› s).symm | exact (wordx (f := f.fc) ‹_› ‹_› ‹_› s).symm
   ·refine CW.skip ?_
    refine SR ?_
    refine V (fA underlying50 2 rfl sizeOf48 rfl) ?_
    refine V (run_ldBR underlying48 rfl rfl rfl (hH2.blk (i := 0) rfl)) ?_
    refine V (mV (U _) rfl) ?_
    refine RL.callP rfl hH2 (c_clearanceref06_Point _ _  _) (run_call2 call66 rfl rfl) ?_
    intro w21 hH22
    refine V (run_move (by conv => lhs; whnf)) ?_
    refine V (run_extract rfl (v := I _) rfl) ?_
    refine V (run_extract rfl (v := B _) rfl) ?_
    refine V (aV (I _) rfl) ?_
    refine V (aV (B _) rfl) ?_
    refine RL.nil ?_
    refine SR ?_
    refine V (mV (B _) rfl) ?_
    refine V (aV (B _) rfl) ?_
    refine RL.nil ?_
    refine CW.ret ?_
    refine outP1 Tryz.results60 (congrArg B ?_) hH22.below
    first | exact (word1 (f := f.fc) ‹_› s).symm | exact (word2 (f := f.fc) ‹_› s).symm | exact (word3r (f := f.fc) hfr ‹_› s).symm | exact (wordx (f := f.fc) ‹_› ‹_› ‹_› s).symm

theorem c_clearanceref07_Fits (s : Shp) (e : El) (w : World) (hs : ShpV (Kw w) s) : Calls Tryz.prog 27 #[.agg (shpC s), .agg (elC e)] w (Pure (B (fitsS s.sh e)) w) := by
 have hsl := sh_len s
 have hm := hs.facs.sl.small
 unfold maxLen at hm
 refine enter Tryz.func27 rfl Tryz.ntmps27 rfl ?_
 have hH := Hp.start w
 refine SR ?_
 refine RL.new rfl hH (f := fun b => (.pointer (some ⟨b, 0, none⟩))) (run_box (v := .agg _) rfl) ?_
 intro b3 w1 hH2
 refine RL.new rfl hH2 (f := fun b => (.pointer (some ⟨b, 0, none⟩))) (run_box (v := .agg _) rfl) ?_
 intro b6 w4 hH5
 refine V (aV (B false) rfl) ?_
 refine RL.nil ?_
 refine CW.seq ?_
 refine SR ?_
 refine V (run_ldA (cs := [B _, _]) underlying24 rfl rfl rfl (rangeAt_cells (hH5.blk (i := 1) rfl))) ?_
 refine RL.callP rfl hH5 (c_clearanceref07_Right _  _ (hs.mono hH5.kw)) (run_call1 call16 rfl) ?_
 intro w7 hH8
 refine V (run_not rfl) ?_
 refine RL.nil ?_
 refine CW.cond rfl (fun h11 => ?_) (fun h11 => ?_)
 ·refine SR ?_
  refine V (aV (B false) rfl) ?_
  refine RL.nil ?_
  refine CW.ret ?_
  refine outP1 Tryz.results27 (congrArg B ?_) hH8.below
  first | exact (fits_no1 (nt ‹_›)).symm | exact (fits_no3 h0 ‹_› (by omega) ‹_›).symm | exact (fits_no2 h0 ‹_› (by omega) (by rw [sh_get]; exact nt ‹_›)).symm | exact (fits_yes hr ‹_› hf).symm
 ·refine CW.skip ?_
  refine CW.seq ?_
  refine SR ?_
  refine V (aV (I 0) rfl) ?_
  refine RL.nil ?_
  refine CW.block ?_
  have hr : shR s.sh = true := nf ‹_›
  refine CW.loop (G := (Int)) (fun (k : Int) s' w' => (Fr [4, 5, 9, 10, 11, 12, 13, 14, 15, 16, 17, 18, 19, 20, 21, 22, 23, 24, 25, 26, 27, 28, 29, 30, 31, 32, 33, 34, 35, 36, 37, 38, 39, 40, 41, 42] _ s') ∧ (Hp w w' _) ∧ (s' 5 = I k) ∧ (0 ≤ k) ∧ (k ≤ 8) ∧ (FitTo s.sh e k)) (fun (k : Int) => (8 - k).toNat) (0) ⟨Fr.refl _ _, hH8, rfl, (by omega), (by omega), FitTo.none _ _⟩ ?_
  rintro k sg12 w12 ⟨fr12, hH12, e5_12, h0, hk, hf⟩
  have e2_12 : sg12 2 = Pn _ _ := (fr12 2 rfl).trans rfl
  have e3_12 : sg12 3 = Pn _ _ := (fr12 3 rfl).trans rfl
  refine CW.seq ?_
  refine SR ?_
  refine V (run_move e5_12) ?_
  refine V (run_lss rfl rfl) ?_
  refine RL.nil ?_
  refine CW.condP rfl (fun h14 => ?_) (fun h14 => ?_)
  ·refine CW.skip ?_
   refine CW.seq ?_
   refine CW.block ?_
   refine CW.seq ?_
   refine CW.regionD (by kernel_rfl) hH12 ?_
   intro w15 hH16
   refine AT 0 rfl (hH16.sub sR) (fun w hS => run_move e5_12) ?_
   refine AT 1 rfl (hH16.sub sR) (fun w hS => fA underlying24 1 rfl sizeOf22 e2_12) ?_
   refine AT 2 rfl (hH16.sub sR) (fun w hS => run_ld underlying22 rfl rfl (hS.cell (i := 1) rfl rfl)) ?_
   refine AT 3 rfl (hH16.sub sR) (fun w hS => run_lenSl (hs.facs.sl.hp hS) rfl underlying22 rfl) ?_
   refine AT 4 rfl (hH16.sub sR) (fun w hS => run_lss rfl rfl) ?_
   refine AT 5 rfl (hH16.sub sR) (fun w hS => mV (B _) rfl) ?_
   refine AN.splitP (dj := 18) rfl (fun h18 => ?_) (fun h18 => ?_)
   ·refine AG 6 rfl rfl (bT h18) (hH16.sub sR) (fun w hS => fA underlying24 1 rfl sizeOf22 e2_12) ?_
    refine AG 7 rfl rfl (bT h18) (hH16.sub sR) (fun w hS => run_ld underlying22 rfl rfl (hS.cell (i := 1) rfl rfl)) ?_
    refine AG 8 rfl rfl (bT h18) (hH16.sub sR) (fun w hS => run_move e5_12) ?_
    refine AG 9 rfl rfl (bT h18) (hH16.sub sR) (fun w hS => run_indexAddrS (hs.facs.sl.hp hS) underlying22 sizeOf50 rfl rfl (by omega)) ?_
    refine AG 10 rfl rfl (bT h18) (hH16.sub sR) (fun w hS => run_ldE (dv := fac0) facL_len (hs.facs.sl.hp hS) underlying50 rfl rfl rfl (by omega)) ?_
    refine AG 11 rfl rfl (bT h18) (hH16.sub sR) (fun w hS => run_move e5_12) ?_
    refine AG 12 rfl rfl (bT h18) (hH16.sub sR) (fun w hS => run_indexAddrA underlying34 sizeOf32 e3_12 rfl (by omega)) ?_
    refine AG 13 rfl rfl (bT h18) (hH16.sub sR) (fun w hS => run_ld underlying32 rfl rfl (hS.cell (i := 0) rfl (elC_at _ (by omega)))) ?_
    refine A1 14 ?_
    refine AO.callP rfl (gsome rfl (bT h18)) rfl hH16 sR (c_clearanceref07_word _ _ (by have hat := sh_at hr (k := k) h0 (by omega); rw [sh_get] at hat; exact hat) _ ((hs.at (by omega) (by omega)).mono hH16.kw)) (run_call2 call60 rfl rfl) ?_
    intro w19 hH20
    refine AG 15 rfl rfl (bT h18) (hH20.sub sR) (fun w hS => run_not rfl) ?_
    refine AT 16 rfl (hH20.sub sR) (fun w hS => run_pickT (bT h18) (v := B _) rfl) ?_
    refine AT 17 rfl (hH20.sub sR) (fun w hS => mV (B _) rfl) ?_
    refine AN.split (dj := 30) rfl (fun h23 => ?_) (fun h23 => ?_)
    ·refine AK 18 rfl rfl (bR (c := true) h23) (hH20.sub sR) ?_
     refine AK 19 rfl rfl (bR (c := true) h23) (hH20.sub sR) ?_
     refine AK 20 rfl rfl (bR (c := true) h23) (hH20.sub sR) ?_
     refine AK 21 rfl rfl (bR (c := true) h23) (hH20.sub sR) ?_
     refine AK 22 rfl rfl (bR (c := true) h23) (hH20.sub sR) ?_
     refine AK 23 rfl rfl (bR (c := true) h23) (hH20.sub sR) ?_
     refine AU 24 rfl rfl rfl (hH20.sub sR) ?_
     refine AU 25 rfl rfl rfl (hH20.sub sR) ?_
     refine AU 26 rfl rfl rfl (hH20.sub sR) ?_
     refine AU 27 rfl rfl rfl (hH20.sub sR) ?_
     refine AK 28 rfl rfl (bR (c := true) h23) (hH20.sub sR) ?_
     refine AT 29 rfl (hH20.sub sR) (fun w hS => run_pickT (bR (c := true) h23) (v := B true) rfl) ?_
     refine AD ?_
     refine CW.condT rfl ?_
     refine SR ?_
     refine V (aV (B false) rfl) ?_
     refine RL.nil ?_
     refine CW.ret ?_
     refine outP1 Tryz.results27 (congrArg B ?_) hH20.below
     first | exact (fits_no1 (nt ‹_›)).symm | exact (fits_no3 h0 ‹_› (by omega) ‹_›).symm | exact (fits_no2 h0 ‹_› (by omega) (by rw [sh_get]; exact nt ‹_›)).symm | exact (fits_yes hr ‹_› hf).symm
    ·refine AG 18 rfl rfl (bR (c := false) h23) (hH20.sub sR) (fun w hS => run_move e5_12) ?_
     refine AG 19 rfl rfl (bR (c := false) h23) (hH20.sub sR) (fun w hS => fA underlying24 1 rfl sizeOf22 e2_12) ?_
     refine AG 20 rfl rfl (bR (c := false) h23) (hH20.sub sR) (fun w hS => run_ld underlying22 rfl rfl (hS.cell (i := 1) rfl rfl)) ?_
     refine AG 21 rfl rfl (bR (c := false) h23) (hH20.sub sR) (fun w hS => run_lenSl (hs.facs.sl.hp hS) rfl underlying22 rfl) ?_
     refine AG 22 rfl rfl (bR (c := false) h23) (hH20.sub sR) (fun w hS => run_geq rfl rfl) ?_
     refine AG 23 rfl rfl (bR (c := false) h23) (hH20.sub sR) (fun w hS => mV (B _) rfl) ?_
     refine AN.splitP (dj := 36) rfl (fun h25 => ?_) (fun h25 => ?_)
     ·refine AG 24 rfl rfl (bT h25) (hH20.sub sR) (fun w hS => run_move e5_12) ?_
      refine AG 25 rfl rfl (bT h25) (hH20.sub sR) (fun w hS => run_indexAddrA underlying34 sizeOf32 e3_12 rfl (by omega)) ?_
      refine AG 26 rfl rfl (bT h25) (hH20.sub sR) (fun w hS => run_ld underlying32 rfl rfl (hS.cell (i := 0) rfl (elC_at _ (by omega)))) ?_
      refine AG 27 rfl rfl (bT h25) (hH20.sub sR) (fun w hS => run_neqU rfl (b := 0#64) rfl) ?_
      refine AG 28 rfl rfl (bR (c := false) h23) (hH20.sub sR) (fun w hS => run_pickT (bT h25) (v := B _) rfl) ?_
      refine AT 29 rfl (hH20.sub sR) (fun w hS => run_pickF (bR (c := false) h23) (v := B _) rfl) ?_
      refine AD ?_
      refine CW.condP rfl (fun h27 => ?_) (fun h27 => ?_)
      ·refine SR ?_
       refine V (aV (B false) rfl) ?_
       refine RL.nil ?_
       refine CW.ret ?_
       refine outP1 Tryz.results27 (congrArg B ?_) hH20.below
       first | exact (fits_no1 (nt ‹_›)).symm | exact (fits_no3 h0 ‹_› (by omega) ‹_›).symm | exact (fits_no2 h0 ‹_› (by omega) (by rw [sh_get]; exact nt ‹_›)).symm | exact (fits_yes hr ‹_› hf).symm
      ·refine CW.skip ?_
       refine CW.region ?_
       refine V (run_move e5_12) ?_
       refine V (run_add rfl rfl (by omega)) ?_
       refine V (aV (I _) rfl) ?_
       refine RL.nil ?_
       refine ⟨k + 1, ?_, fr12.u4.u4.u4.u4.u4.u4.u4.u4.u1.u1.u1, hH20, (congrArg I (by first | rfl | omega)), ?_, ?_, ?_⟩
       ·((try dsimp only); omega)
       ·omega
       ·omega
       ·exact hf.next (fun h => by first | (exfalso; omega) | (rw [sh_get]; exact nf ‹_›)) (fun h => by first | exact Decidable.of_not_not ‹_› | (exfalso; omega))
     ·refine AK 24 rfl rfl (bF h25) (hH20.sub sR) ?_
      refine AK 25 rfl rfl (bF h25) (hH20.sub sR) ?_
      refine AK 26 rfl rfl (bF h25) (hH20.sub sR) ?_
      refine AK 27 rfl rfl (bF h25) (hH20.sub sR) ?_
      refine AG 28 rfl rfl (bR (c := false) h23) (hH20.sub sR) (fun w hS => run_pickF (bF h25) (v := B false) rfl) ?_
      refine AT 29 rfl (hH20.sub sR) (fun w hS => run_pickF (bR (c := false) h23) (v := B _) rfl) ?_
      refine AD ?_
      refine CW.condF rfl ?_
      refine CW.skip ?_
      refine CW.region ?_
      refine V (run_move e5_12) ?_
      refine V (run_add rfl rfl (by omega)) ?_
      refine V (aV (I _) rfl) ?_
      refine RL.nil ?_
      refine ⟨k + 1, ?_, fr12.u4.u4.u4.u4.u4.u4.u4.u4.u1.u1.u1, hH20, (congrArg I (by first | rfl | omega)), ?_, ?_, ?_⟩
      ·((try dsimp only); omega)
      ·omega
      ·omega
      ·exact hf.next (fun h => by first | (exfalso; omega) | (rw [sh_get]; exact nf ‹_›)) (fun h => by first | exact Decidable.of_not_not ‹_› | (exfalso; omega))
   ·refine AK 6 rfl rfl (bF h18) (hH16.sub sR) ?_
    refine AK 7 rfl rfl (bF h18) (hH16.sub sR) ?_
    refine AK 8 rfl rfl (bF h18) (hH16.sub sR) ?_
    refine AK 9 rfl rfl (bF h18) (hH16.sub sR) ?_
    refine AK 10 rfl rfl (bF h18) (hH16.sub sR) ?_
    refine AK 11 rfl rfl (bF h18) (hH16.sub sR) ?_
    refine AK 12 rfl rfl (bF h18) (hH16.sub sR) ?_
    refine AK 13 rfl rfl (bF h18) (hH16.sub sR) ?_
    refine AK 14 rfl rfl (bF h18) (hH16.sub sR) ?_
    refine AK 15 rfl rfl (bF h18) (hH16.sub sR) ?_
    refine AT 16 rfl (hH16.sub sR) (fun w hS => run_pickF (bF h18) (v := B false) rfl) ?_
    refine AT 17 rfl (hH16.sub sR) (fun w hS => mV (B _) rfl) ?_
    refine AG 18 rfl rfl rfl (hH16.sub sR) (fun w hS => run_move e5_12) ?_
    refine AG 19 rfl rfl rfl (hH16.sub sR) (fun w hS => fA underlying24 1 rfl sizeOf22 e2_12) ?_
    refine AG 20 rfl rfl rfl (hH16.sub sR) (fun w hS => run_ld underlying22 rfl rfl (hS.cell (i := 1) rfl rfl)) ?_
    refine AG 21 rfl rfl rfl (hH16.sub sR) (fun w hS => run_lenSl (hs.facs.sl.hp hS) rfl underlying22 rfl) ?_
    refine AG 22 rfl rfl rfl (hH16.sub sR) (fun w hS => run_geq rfl rfl) ?_
    refine AG 23 rfl rfl rfl (hH16.sub sR) (fun w hS => mV (B _) rfl) ?_
    refine AN.splitP (dj := 36) rfl (fun h29 => ?_) (fun h29 => ?_)
    ·refine AG 24 rfl rfl (bT h29) (hH16.sub sR) (fun w hS => run_move e5_12) ?_
     refine AG 25 rfl rfl (bT h29) (hH16.sub sR) (fun w hS => run_indexAddrA underlying34 sizeOf32 e3_12 rfl (by omega)) ?_
     refine AG 26 rfl rfl (bT h29) (hH16.sub sR) (fun w hS => run_ld underlying32 rfl rfl (hS.cell (i := 0) rfl (elC_at _ (by omega)))) ?_
     refine AG 27 rfl rfl (bT h29) (hH16.sub sR) (fun w hS => run_neqU rfl (b := 0#64) rfl) ?_
     refine AG 28 rfl rfl rfl (hH16.sub sR) (fun w hS => run_pickT (bT h29) (v := B _) rfl) ?_
     refine AT 29 rfl (hH16.sub sR) (fun w hS => run_pickF rfl (v := B _) rfl) ?_
     refine AD ?_
     refine CW.condP rfl (fun h31 => ?_) (fun h31 => ?_)
     ·refine SR ?_
      refine V (aV (B false) rfl) ?_
      refine RL.nil ?_
      refine CW.ret ?_
      refine outP1 Tryz.results27 (congrArg B ?_) hH16.below
      first | exact (fits_no1 (nt ‹_›)).symm | exact (fits_no3 h0 ‹_› (by omega) ‹_›).symm | exact (fits_no2 h0 ‹_› (by omega) (by rw [sh_get]; exact nt ‹_›)).symm | exact (fits_yes hr ‹_› hf).symm
     ·refine CW.skip ?_
      refine CW.region ?_
      refine V (run_move e5_12) ?_
      refine V (run_add rfl rfl (by omega)) ?_
      refine V (aV (I _) rfl) ?_
      refine RL.nil ?_
      refine ⟨k + 1, ?_, fr12.u4.u4.u4.u4.u4.u4.u4.u4.u1.u1.u1, hH16, (congrArg I (by first | rfl | omega)), ?_, ?_, ?_⟩
      ·((try dsimp only); omega)
      ·omega
      ·omega
      ·exact hf.next (fun h => by first | (exfalso; omega) | (rw [sh_get]; exact nf ‹_›)) (fun h => by first | exact Decidable.of_not_not ‹_› | (exfalso; omega))
    ·refine AK 24 rfl rfl (bF h29) (hH16.sub sR) ?_
     refine AK 25 rfl rfl (bF h29) (hH16.sub sR) ?_
     refine AK 26 rfl rfl (bF h29) (hH16.sub sR) ?_
     refine AK 27 rfl rfl (bF h29) (hH16.sub sR) ?_
     refine AG 28 rfl rfl rfl (hH16.sub sR) (fun w hS => run_pickF (bF h29) (v := B false) rfl) ?_
     refine AT 29 rfl (hH16.sub sR) (fun w hS => run_pickF rfl (v := B _) rfl) ?_
     refine AD ?_
     refine CW.condF rfl ?_
     refine CW.skip ?_
     refine CW.region ?_
     refine V (run_move e5_12) ?_
     refine V (run_add rfl rfl (by omega)) ?_
     refine V (aV (I _) rfl) ?_
     refine RL.nil ?_
     refine ⟨k + 1, ?_, fr12.u4.u4.u4.u4.u4.u4.u4.u4.u1.u1.u1, hH16, (congrArg I (by first | rfl | omega)), ?_, ?_, ?_⟩
     ·((try dsimp only); omega)
     ·omega
     ·omega
     ·exact hf.next (fun h => by first | (exfalso; omega) | (rw [sh_get]; exact nf ‹_›)) (fun h => by first | exact Decidable.of_not_not ‹_› | (exfalso; omega))
  ·refine CW.exit (id := 0) rfl ?_
   refine SR ?_
   refine V (aV (B true) rfl) ?_
   refine RL.nil ?_
   refine CW.ret ?_
   refine outP1 Tryz.results27 (congrArg B ?_) hH12.below
   first | exact (fits_no1 (nt ‹_›)).symm | exact (fits_no3 h0 ‹_› (by omega) ‹_›).symm | exact (fits_no2 h0 ‹_› (by omega) (by rw [sh_get]; exact nt ‹_›)).symm | exact (fits_yes hr ‹_› hf).symm

theorem c_clearancelaw07_Big (s : Shp) (w : World) (hs : ShpV (Kw w) s) : Calls Tryz.prog 6 #[.agg (shpC s)] w (Pure (B (bigS s.sh)) w) := by
 have hsl := sh_len s
 have hm := hs.facs.sl.small
 unfold maxLen at hm
 refine enter Tryz.func6 rfl Tryz.ntmps6 rfl ?_
 have hH := Hp.start w
 refine SR ?_
 refine RL.new rfl hH (f := fun b => (.pointer (some ⟨b, 0, none⟩))) (run_box (v := .agg _) rfl) ?_
 intro b3 w1 hH2
 refine V (aV (B false) rfl) ?_
 refine RL.nil ?_
 refine CW.seq ?_
 refine SR ?_
 refine V (fA underlying24 1 rfl sizeOf22 rfl) ?_
 refine V (run_ld underlying22 rfl rfl (hH2.cell (i := 0) rfl rfl)) ?_
 refine V (run_lenSl (hs.facs.sl.hp hH2) rfl underlying22 rfl) ?_
 refine V (run_gtr rfl rfl) ?_
 refine RL.nil ?_
 refine CW.condP rfl (fun h5 => ?_) (fun h5 => ?_)
 ·refine SR ?_
  refine V (aV (B true) rfl) ?_
  refine RL.nil ?_
  refine CW.ret ?_
  refine outP1 Tryz.results6 (congrArg B ?_) hH2.below
  first | exact (big_1 (s := s.sh) (by omega)).symm | exact (big_2 (s := s.sh) (k := k) h0 (by omega) (by rw [sh_get]; first | exact bigN_1 (by show 70 < (s.facs.getD k.toNat fac0).names.length; omega) | exact bigN_2 i0 ‹_› (by show 40 < ((s.facs.getD k.toNat fac0).names.getD i.toNat tx0).size; omega))).symm | exact (big_no (s := s.sh) (k := k) (by omega) (by omega) fun j a b => by rw [sh_get]; exact hg j a b).symm
 ·refine CW.skip ?_
  refine CW.seq ?_
  refine SR ?_
  refine V (aV (I 0) rfl) ?_
  refine RL.nil ?_
  refine CW.block ?_
  refine CW.loop (G := (Int)) (fun (k : Int) s' w' => (Fr [2, 3, 4, 5, 10, 11, 12, 13, 14, 15, 16, 17, 18, 19, 20, 21, 22, 23, 24, 25, 26, 27, 28, 29, 30, 31, 32, 33, 34, 35, 36, 37, 38, 39] _ s') ∧ (Hp w w' _) ∧ (s' 3 = I k) ∧ (0 ≤ k) ∧ (k ≤ s.facs.length) ∧ (∀ j : Int, 0 ≤ j → j < k → bigN (s.facs.getD j.toNat fac0).names = false)) (fun (k : Int) => (s.facs.length - k).toNat) (0) ⟨Fr.refl _ _, hH2, rfl, (by omega), (by omega), fun j a b => absurd b (by omega)⟩ ?_
  rintro k sg6 w6 ⟨fr6, hH6, e3_6, h0, hk, hg⟩
  have e1_6 : sg6 1 = Pn _ _ := (fr6 1 rfl).trans rfl
  refine CW.seq ?_
  refine SR ?_
  refine V (run_move e3_6) ?_
  refine V (fA underlying24 1 rfl sizeOf22 e1_6) ?_
  refine V (run_ld underlying22 rfl rfl (hH6.cell (i := 0) rfl rfl)) ?_
  refine V (run_lenSl (hs.facs.sl.hp hH6) rfl underlying22 rfl) ?_
  refine V (run_lss rfl rfl) ?_
  refine RL.nil ?_
  refine CW.condP rfl (fun h8 => ?_) (fun h8 => ?_)
  ·refine CW.skip ?_
   refine CW.seq ?_
   refine CW.block ?_
   refine SR ?_
   refine V (fA underlying24 1 rfl sizeOf22 e1_6) ?_
   refine V (run_ld underlying22 rfl rfl (hH6.cell (i := 0) rfl rfl)) ?_
   refine V (run_move e3_6) ?_
   refine V (run_indexAddrS (hs.facs.sl.hp hH6) underlying22 sizeOf50 rfl rfl (by omega)) ?_
   refine V (run_ldE (dv := fac0) facL_len (hs.facs.sl.hp hH6) underlying50 rfl rfl rfl (by omega)) ?_
   refine RL.new rfl hH6 (f := fun b => (.pointer (some ⟨b, 0, none⟩))) (run_alloc zero_fac) ?_
   intro b11 w9 hH10
   refine RL.set hH10 (i := 0) rfl (run_stFac (hs.at (by omega) (by omega)) rfl rfl rfl (hH10.blk (i := 0) rfl)) ?_
   intro w12 hH13
   simp only [z0, z1] at hH13
   refine RL.nil ?_
   refine CW.seq ?_
   refine SR ?_
   refine V (fA underlying50 1 rfl sizeOf45 rfl) ?_
   refine V (run_ld underlying45 rfl rfl (hH13.cell (i := 0) rfl rfl)) ?_
   refine V (run_lenSl ((hs.at (by omega) (by omega)).names.sl.hp hH13) rfl underlying45 rfl) ?_
   refine V (run_gtr rfl rfl) ?_
   refine RL.nil ?_
   refine CW.condP rfl (fun h15 => ?_) (fun h15 => ?_)
   ·refine SR ?_
    refine V (aV (B true) rfl) ?_
    refine RL.nil ?_
    refine CW.ret ?_
    refine outP1 Tryz.results6 (congrArg B ?_) hH13.below
    first | exact (big_1 (s := s.sh) (by omega)).symm | exact (big_2 (s := s.sh) (k := k) h0 (by omega) (by rw [sh_get]; first | exact bigN_1 (by show 70 < (s.facs.getD k.toNat fac0).names.length; omega) | exact bigN_2 i0 ‹_› (by show 40 < ((s.facs.getD k.toNat fac0).names.getD i.toNat tx0).size; omega))).symm | exact (big_no (s := s.sh) (k := k) (by omega) (by omega) fun j a b => by rw [sh_get]; exact hg j a b).symm
   ·refine CW.skip ?_
    refine SR ?_
    refine V (aV (I 0) rfl) ?_
    refine RL.nil ?_
    refine CW.block ?_
    have hnb : (s.facs.getD k.toNat fac0).names.length ≤ 70 := by omega
    refine CW.loop (G := (Int)) (fun (i : Int) s' w' => (Fr [2, 5, 26, 27, 28, 29, 30, 31, 32, 33, 34, 35, 36, 37, 38, 39] _ s') ∧ (Hp w w' _) ∧ (s' 5 = I i) ∧ (0 ≤ i) ∧ (i ≤ (s.facs.getD k.toNat fac0).names.length) ∧ (∀ j : Int, 0 ≤ j → j < i → ¬ 40 < ((s.facs.getD k.toNat fac0).names.getD j.toNat tx0).size)) (fun (i : Int) => ((s.facs.getD k.toNat fac0).names.length - i).toNat) (0) ⟨Fr.refl _ _, hH13, rfl, (by omega), (by omega), fun j a b => absurd b (by omega)⟩ ?_
    rintro i sg16 w16 ⟨fr16, hH16, e5_16, i0, i1, hn⟩
    have e1_16 := (fr16 1 rfl).trans e1_6
    have e3_16 := (fr16 3 rfl).trans e3_6
    have e4_16 : sg16 4 = Pn _ _ := (fr16 4 rfl).trans rfl
    have e10_16 : sg16 10 = I _ := (fr16 10 rfl).trans rfl
    have e11_16 : sg16 11 = Pn _ _ := (fr16 11 rfl).trans rfl
    have e12_16 := (fr16 12 rfl).trans (by conv => lhs; whnf)
    have e13_16 : sg16 13 = I _ := (fr16 13 rfl).trans rfl
    have e14_16 : sg16 14 = B _ := (fr16 14 rfl).trans rfl
    have e17_16 : sg16 17 = Pn _ _ := (fr16 17 rfl).trans rfl
    have e18_16 := (fr16 18 rfl).trans (by conv => lhs; whnf)
    have e19_16 : sg16 19 = I _ := (fr16 19 rfl).trans rfl
    have e20_16 : sg16 20 = Pn _ _ := (fr16 20 rfl).trans rfl
    have e21_16 : sg16 21 = .agg _ := (fr16 21 rfl).trans rfl
    have e22_16 : sg16 22 = Pn _ _ := (fr16 22 rfl).trans rfl
    have e23_16 := (fr16 23 rfl).trans (by conv => lhs; whnf)
    have e24_16 : sg16 24 = I _ := (fr16 24 rfl).trans rfl
    have e25_16 : sg16 25 = B _ := (fr16 25 rfl).trans rfl
    refine CW.seq ?_
    refine SR ?_
    refine V (run_move e5_16) ?_
    refine V (fA underlying50 1 rfl sizeOf45 e4_16) ?_
    refine V (run_ld underlying45 rfl rfl (hH16.cell (i := 0) rfl rfl)) ?_
    refine V (run_lenSl ((hs.at (by omega) (by omega)).names.sl.hp hH16) rfl underlying45 rfl) ?_
    refine V (run_lss rfl rfl) ?_
    refine RL.nil ?_
    refine CW.condP rfl (fun h18 => ?_) (fun h18 => ?_)
    ·refine CW.skip ?_
     refine CW.seq ?_
     refine CW.block ?_
     refine SR ?_
     refine V (fA underlying50 1 rfl sizeOf45 e4_16) ?_
     refine V (run_ld underlying45 rfl rfl (hH16.cell (i := 0) rfl rfl)) ?_
     refine V (run_move e5_16) ?_
     refine V (run_indexAddrS ((hs.at (by omega) (by omega)).names.sl.hp hH16) underlying45 sizeOf9 rfl rfl (by omega)) ?_
     refine V (run_ld underlying9 rfl rfl (((hs.at (by omega) (by omega)).names.sl.hp hH16).cell _ _ (txL_at (by omega)))) ?_
     refine V (run_lenStr rfl underlying9 rfl) ?_
     refine V (run_gtr rfl rfl) ?_
     refine RL.nil ?_
     refine CW.condP rfl (fun h20 => ?_) (fun h20 => ?_)
     ·refine SR ?_
      refine V (aV (B true) rfl) ?_
      refine RL.nil ?_
      refine CW.ret ?_
      refine outP1 Tryz.results6 (congrArg B ?_) hH16.below
      first | exact (big_1 (s := s.sh) (by omega)).symm | exact (big_2 (s := s.sh) (k := k) h0 (by omega) (by rw [sh_get]; first | exact bigN_1 (by show 70 < (s.facs.getD k.toNat fac0).names.length; omega) | exact bigN_2 i0 ‹_› (by show 40 < ((s.facs.getD k.toNat fac0).names.getD i.toNat tx0).size; omega))).symm | exact (big_no (s := s.sh) (k := k) (by omega) (by omega) fun j a b => by rw [sh_get]; exact hg j a b).symm
     ·refine CW.skip ?_
      refine CW.region ?_
      refine V (run_move e5_16) ?_
      refine V (run_add rfl rfl (by omega)) ?_
      refine V (aV (I _) rfl) ?_
      refine RL.nil ?_
      refine ⟨i + 1, ?_, fr16.u4.u4.u4.u1.u1.u1, hH16, (congrArg I (by first | rfl | omega)), ?_, ?_, ?_⟩
      ·((try dsimp only); omega)
      ·omega
      ·omega
      ·exact fun j a b => if e : j = i then e ▸ (by omega) else hn j a (by omega)
    ·refine CW.exit (id := 2) rfl ?_
     refine CW.region ?_
     refine V (run_move e3_16) ?_
     refine V (run_add rfl rfl (by omega)) ?_
     refine V (aV (I _) rfl) ?_
     refine RL.nil ?_
     refine ⟨k + 1, ?_, (((fr6.u4.u4.u4.u4).t fr16 rfl)).u4.u4, (hH16.sub (sQ sR)), (congrArg I (by first | rfl | omega)), ?_, ?_, ?_⟩
     ·((try dsimp only); omega)
     ·omega
     ·omega
     ·exact fun j a b => if e : j = k then e ▸ bigN_no (by omega) ‹¬ i < _› hn else hg j a (by omega)
  ·refine CW.exit (id := 0) rfl ?_
   refine SR ?_
   refine V (aV (B false) rfl) ?_
   refine RL.nil ?_
   refine CW.ret ?_
   refine outP1 Tryz.results6 (congrArg B ?_) hH6.below
   first | exact (big_1 (s := s.sh) (by omega)).symm | exact (big_2 (s := s.sh) (k := k) h0 (by omega) (by rw [sh_get]; first | exact bigN_1 (by show 70 < (s.facs.getD k.toNat fac0).names.length; omega) | exact bigN_2 i0 ‹_› (by show 40 < ((s.facs.getD k.toNat fac0).names.getD i.toNat tx0).size; omega))).symm | exact (big_no (s := s.sh) (k := k) (by omega) (by omega) fun j a b => by rw [sh_get]; exact hg j a b).symm

theorem c_term_right (v : Value) (l : List Wd) (w : World) (hs : Sl w v 2 l.length (l.flatMap wdL)) : Calls Tryz.prog 38 #[v] w (Pure (B (wordsR l)) w) := by
 have hm := hs.small
 unfold maxLen at hm
 refine enter Tryz.func38 rfl Tryz.ntmps38 rfl ?_
 have hH := Hp.start w
 refine SR ?_
 refine V (aV (B false) rfl) ?_
 refine RL.nil ?_
 refine CW.seq ?_
 refine SR ?_
 refine V (run_move (by conv => lhs; whnf)) ?_
 refine V (run_lenSl (hs.hp hH) rfl underlying25 rfl) ?_
 refine V (mV (I 0) rfl) ?_
 refine RL.nil ?_
 refine CW.block ?_
 refine CW.loop (G := (Int)) (fun (k : Int) s' w' => (Fr [2, 4, 7, 8, 9, 10, 11, 12, 13, 14, 15] _ s') ∧ (Hp w w' _) ∧ (s' 7 = I k) ∧ (0 ≤ k) ∧ (k ≤ l.length) ∧ (∀ j : Int, 0 ≤ j → j < k → nameR (l.getD j.toNat wd0).text = true)) (fun (k : Int) => (l.length - k).toNat) (0) ⟨Fr.refl _ _, hH, rfl, (by omega), (by omega), fun j a b => absurd b (by omega)⟩ ?_
 rintro k sg1 w1 ⟨fr1, hH1, e7_1, h0, hk, hg⟩
 have e5_1 := (fr1 5 rfl).trans (by conv => lhs; whnf)
 have e6_1 : sg1 6 = I _ := (fr1 6 rfl).trans rfl
 refine SR ?_
 refine V (run_lss e7_1 e6_1) ?_
 refine RL.nil ?_
 refine CW.seq ?_
 refine CW.condP rfl (fun h3 => ?_) (fun h3 => ?_)
 ·refine CW.skip ?_
  refine CW.seq ?_
  refine CW.block ?_
  refine SR ?_
  refine V (run_indexAddrS (hs.hp hH1) underlying25 sizeOf53 e5_1 e7_1 (by omega)) ?_
  refine V (run_ldE (dv := wd0) wdL_len (hs.hp hH1) underlying53 rfl rfl rfl (by omega)) ?_
  refine RL.new rfl hH1 (f := fun b => (.pointer (some ⟨b, 0, none⟩))) (run_alloc Tryz.zeroValue53) ?_
  intro b6 w4 hH5
  refine RL.set hH5 (i := 0) rfl (run_stW (c' := (wdL _).toArray) rfl rfl rfl (by simp [wdL, Value.oneCell']) (hH5.blk (i := 0) rfl) rfl) ?_
  intro w7 hH8
  simp only [z0, z1] at hH8
  refine RL.nil ?_
  refine SR ?_
  refine V (fA underlying53 0 rfl sizeOf9 rfl) ?_
  refine V (run_ld underlying9 rfl rfl (hH8.cell (i := 0) rfl (v := .string _) rfl)) ?_
  refine RL.callP rfl hH8 (c_name_Right _  _) (run_call1 call86 rfl) ?_
  intro w9 hH10
  refine V (run_not rfl) ?_
  refine RL.nil ?_
  refine CW.cond rfl (fun h13 => ?_) (fun h13 => ?_)
  ·refine SR ?_
   refine V (aV (B false) rfl) ?_
   refine RL.nil ?_
   refine CW.ret ?_
   refine outP1 Tryz.results38 (congrArg B ?_) hH10.below
   first | exact (all_no (d := wd0) (P := fun x : Wd => nameR x.text) h0 ‹k < _› (nt ‹(!nameR _) = true›)).symm | exact (all_yes (d := wd0) (P := fun x : Wd => nameR x.text) ‹¬ k < _› hg).symm
  ·refine CW.skip ?_
   refine CW.region ?_
   refine V (run_add e7_1 rfl (by omega)) ?_
   refine V (mV (I _) rfl) ?_
   refine RL.nil ?_
   refine ⟨k + 1, ?_, fr1.u4.u4.u1.u1, (hH10.sub (sQ sR)), (congrArg I (by first | rfl | omega)), ?_, ?_, ?_⟩
   ·((try dsimp only); omega)
   ·omega
   ·omega
   ·exact fun j a b => if e : j = k then e ▸ nf ‹(!nameR _) = false› else hg j a (by omega)
 ·refine CW.exit (id := 0) rfl ?_
  refine SR ?_
  refine V (aV (B true) rfl) ?_
  refine RL.nil ?_
  refine CW.ret ?_
  refine outP1 Tryz.results38 (congrArg B ?_) hH1.below
  first | exact (all_no (d := wd0) (P := fun x : Wd => nameR x.text) h0 ‹k < _› (nt ‹(!nameR _) = true›)).symm | exact (all_yes (d := wd0) (P := fun x : Wd => nameR x.text) ‹¬ k < _› hg).symm

theorem c_term_bare (n : NodeR) (w : World) (hn : NodeV (Kw w) n) : Calls Tryz.prog 39 #[.agg (nodeL n).toArray] w (Pure (B (decide (n.text = tx0 ∧ n.names.length = 0))) w) := by
 refine enter Tryz.func39 rfl Tryz.ntmps39 rfl ?_
 have hH := Hp.start w
 refine SR ?_
 refine RL.new rfl hH (f := fun b => (.pointer (some ⟨b, 0, none⟩))) (run_box (v := .agg _) rfl) ?_
 intro b3 w1 hH2
 refine V (aV (B false) rfl) ?_
 refine RL.nil ?_
 refine SR ?_
 refine V (fA underlying28 2 rfl sizeOf9 rfl) ?_
 refine V (run_ld underlying9 rfl rfl (hH2.cell (i := 0) rfl (v := .string _) rfl)) ?_
 refine V (run_eqlS rfl rfl) ?_
 refine V (mV (B _) rfl) ?_
 refine RL.splitP (dj := 6) rfl (fun h5 => ?_) (fun h5 => ?_)
 ·refine RL.gT rfl (bT h5) ?_
  refine V (fA underlying28 3 rfl sizeOf25 rfl) ?_
  refine RL.gT rfl (bT h5) ?_
  refine V (run_ldV (hn.names_.sl.hp hH2) underlying25 rfl rfl (hH2.cell (i := 0) rfl rfl)) ?_
  refine RL.gT rfl (bT h5) ?_
  refine V (run_lenSl (hn.names_.sl.hp hH2) rfl underlying25 rfl) ?_
  refine RL.gT rfl (bT h5) ?_
  refine V (run_eql rfl rfl) ?_
  refine V (run_pickT (bT h5) (v := B _) rfl) ?_
  refine V (aV (B _) rfl) ?_
  refine RL.nil ?_
  refine CW.ret ?_
  refine outP1 Tryz.results39 (congrArg B ?_) hH2.below
  (simp [*])
 ·refine RL.gF rfl rfl (bF h5) rfl ?_
  refine RL.gF rfl rfl (bF h5) rfl ?_
  refine RL.gF rfl rfl (bF h5) rfl ?_
  refine RL.gF rfl rfl (bF h5) rfl ?_
  refine V (run_pickF (bF h5) (v := B false) rfl) ?_
  refine V (aV (B _) rfl) ?_
  refine RL.nil ?_
  refine CW.ret ?_
  refine outP1 Tryz.results39 (congrArg B ?_) hH2.below
  (simp [*])

theorem c_term_leaf (n : NodeR) (w : World) (hn : NodeV (Kw w) n) : Calls Tryz.prog 37 #[.agg (nodeL n).toArray] w (Pure (B (nameR n.text && decide (n.names.length = 0 ∧ n.kids.length = 0))) w) := by
 have hm1 := hn.kids_.small
 have hm2 := hn.names_.small
 unfold maxLen at hm1 hm2
 refine enter Tryz.func37 rfl Tryz.ntmps37 rfl ?_
 have hH := Hp.start w
 refine SR ?_
 refine RL.new rfl hH (f := fun b => (.pointer (some ⟨b, 0, none⟩))) (run_box (v := .agg _) rfl) ?_
 intro b3 w1 hH2
 refine V (aV (B false) rfl) ?_
 refine RL.nil ?_
 refine SR ?_
 refine V (fA underlying28 2 rfl sizeOf9 rfl) ?_
 refine V (run_ld underlying9 rfl rfl (hH2.cell (i := 0) rfl (v := .string _) rfl)) ?_
 refine RL.callP rfl hH2 (c_name_Right _  _) (run_call1 call86 rfl) ?_
 intro w4 hH5
 refine V (mV (B _) rfl) ?_
 refine RL.split (dj := 6) rfl (fun h7 => ?_) (fun h7 => ?_)
 ·refine RL.gT rfl (bR (c := true) h7) ?_
  refine V (fA underlying28 3 rfl sizeOf25 rfl) ?_
  refine RL.gT rfl (bR (c := true) h7) ?_
  refine V (run_ldV (hn.names_.sl.hp hH5) underlying25 rfl rfl (hH5.cell (i := 0) rfl rfl)) ?_
  refine RL.gT rfl (bR (c := true) h7) ?_
  refine V (run_lenSl (hn.names_.sl.hp hH5) rfl underlying25 rfl) ?_
  refine RL.gT rfl (bR (c := true) h7) ?_
  refine V (fA underlying28 4 rfl sizeOf26 rfl) ?_
  refine RL.gT rfl (bR (c := true) h7) ?_
  refine V (run_ldV (hn.kids_.sl.hp hH5) underlying26 rfl rfl (hH5.cell (i := 0) rfl rfl)) ?_
  refine RL.gT rfl (bR (c := true) h7) ?_
  refine V (run_lenSl (hn.kids_.sl.hp hH5) rfl underlying26 rfl) ?_
  refine RL.gT rfl (bR (c := true) h7) ?_
  refine V (run_addW rfl rfl) ?_
  refine RL.gT rfl (bR (c := true) h7) ?_
  refine V (run_eql rfl rfl) ?_
  refine V (run_pickT (bR (c := true) h7) (v := B _) rfl) ?_
  refine V (aV (B _) rfl) ?_
  refine RL.nil ?_
  refine CW.ret ?_
  refine outP1 Tryz.results37 (congrArg B ?_) hH5.below
  first | (rw [wrap_len hm2 hm1]; simp [*]; done) | (simp [*]; done)
 ·refine RL.gF rfl rfl (bR (c := false) h7) rfl ?_
  refine RL.gF rfl rfl (bR (c := false) h7) rfl ?_
  refine RL.gF rfl rfl (bR (c := false) h7) rfl ?_
  refine RL.gF rfl rfl (bR (c := false) h7) rfl ?_
  refine RL.gF rfl rfl (bR (c := false) h7) rfl ?_
  refine RL.gF rfl rfl (bR (c := false) h7) rfl ?_
  refine RL.gF rfl rfl (bR (c := false) h7) rfl ?_
  refine RL.gF rfl rfl (bR (c := false) h7) rfl ?_
  refine V (run_pickF (bR (c := false) h7) (v := B false) rfl) ?_
  refine V (aV (B _) rfl) ?_
  refine RL.nil ?_
  refine CW.ret ?_
  refine outP1 Tryz.results37 (congrArg B ?_) hH5.below
  first | (rw [wrap_len hm2 hm1]; simp [*]; done) | (simp [*]; done)

theorem c_term_isRule (n : NodeR) (w : World) (hn : NodeV (Kw w) n) : Calls Tryz.prog 41 #[.agg (nodeL n).toArray] w (Pure (B (ruleB n.nd)) w) := by
 refine enter Tryz.func41 rfl Tryz.ntmps41 rfl ?_
 have hH := Hp.start w
 refine SR ?_
 refine RL.new rfl hH (f := fun b => (.pointer (some ⟨b, 0, none⟩))) (run_box (v := .agg _) rfl) ?_
 intro b3 w1 hH2
 refine V (aV (B false) rfl) ?_
 refine RL.nil ?_
 refine SR ?_
 refine V (fA underlying28 0 rfl sizeOf3 rfl) ?_
 refine V (run_ld underlying3 rfl rfl (hH2.cell (i := 0) rfl (v := I _) rfl)) ?_
 refine V (run_eql rfl rfl) ?_
 refine V (mV (B _) rfl) ?_
 refine RL.splitP (dj := 6) rfl (fun h5 => ?_) (fun h5 => ?_)
 ·refine RL.gT rfl (bT h5) ?_
  refine V (fA underlying28 2 rfl sizeOf9 rfl) ?_
  refine RL.gT rfl (bT h5) ?_
  refine V (run_ld underlying9 rfl rfl (hH2.cell (i := 0) rfl (v := .string _) rfl)) ?_
  refine RL.gT rfl (bT h5) ?_
  refine RL.callP rfl hH2 (c_name_Right _  _) (run_call1 call86 rfl) ?_
  intro w6 hH7
  refine V (run_pickT (bT h5) (v := B _) rfl) ?_
  refine V (mV (B _) rfl) ?_
  refine RL.split (dj := 11) rfl (fun h9 => ?_) (fun h9 => ?_)
  ·refine RL.gT rfl (bR (c := true) h9) ?_
   refine V (fA underlying28 3 rfl sizeOf25 rfl) ?_
   refine RL.gT rfl (bR (c := true) h9) ?_
   refine V (run_ldV (hn.names_.sl.hp hH7) underlying25 rfl rfl (hH7.cell (i := 0) rfl rfl)) ?_
   refine RL.gT rfl (bR (c := true) h9) ?_
   refine RL.callP rfl hH7 (c_term_right _ _  _ (hn.names_.sl.hp hH7)) (run_call1 call38 rfl) ?_
   intro w10 hH11
   refine V (run_pickT (bR (c := true) h9) (v := B _) rfl) ?_
   refine V (mV (B _) rfl) ?_
   refine RL.split (dj := 16) rfl (fun h13 => ?_) (fun h13 => ?_)
   ·refine RL.gT rfl (bR (c := true) h13) ?_
    refine V (fA underlying28 4 rfl sizeOf26 rfl) ?_
    refine RL.gT rfl (bR (c := true) h13) ?_
    refine V (run_ldV (hn.kids_.sl.hp hH11) underlying26 rfl rfl (hH11.cell (i := 0) rfl rfl)) ?_
    refine RL.gT rfl (bR (c := true) h13) ?_
    refine V (run_lenSl (hn.kids_.sl.hp hH11) rfl underlying26 rfl) ?_
    refine RL.gT rfl (bR (c := true) h13) ?_
    refine V (run_eql rfl rfl) ?_
    refine V (run_pickT (bR (c := true) h13) (v := B _) rfl) ?_
    refine V (aV (B _) rfl) ?_
    refine RL.nil ?_
    refine CW.ret ?_
    refine outP1 Tryz.results41 (congrArg B ?_) hH11.below
    (rw [rule_is]; simp [*])
   ·refine RL.gF rfl rfl (bR (c := false) h13) rfl ?_
    refine RL.gF rfl rfl (bR (c := false) h13) rfl ?_
    refine RL.gF rfl rfl (bR (c := false) h13) rfl ?_
    refine RL.gF rfl rfl (bR (c := false) h13) rfl ?_
    refine V (run_pickF (bR (c := false) h13) (v := B false) rfl) ?_
    refine V (aV (B _) rfl) ?_
    refine RL.nil ?_
    refine CW.ret ?_
    refine outP1 Tryz.results41 (congrArg B ?_) hH11.below
    (rw [rule_is]; simp [*])
  ·refine RL.gF rfl rfl (bR (c := false) h9) rfl ?_
   refine RL.gF rfl rfl (bR (c := false) h9) rfl ?_
   refine RL.gF rfl rfl (bR (c := false) h9) rfl ?_
   refine V (run_pickF (bR (c := false) h9) (v := B false) rfl) ?_
   refine V (mV (B _) rfl) ?_
   refine RL.gF rfl rfl rfl rfl ?_
   refine RL.gF rfl rfl rfl rfl ?_
   refine RL.gF rfl rfl rfl rfl ?_
   refine RL.gF rfl rfl rfl rfl ?_
   refine V (run_pickF rfl (v := B false) rfl) ?_
   refine V (aV (B _) rfl) ?_
   refine RL.nil ?_
   refine CW.ret ?_
   refine outP1 Tryz.results41 (congrArg B ?_) hH7.below
   (rw [rule_is]; simp [*])
 ·refine RL.gF rfl rfl (bF h5) rfl ?_
  refine RL.gF rfl rfl (bF h5) rfl ?_
  refine RL.gF rfl rfl (bF h5) rfl ?_
  refine V (run_pickF (bF h5) (v := B false) rfl) ?_
  refine V (mV (B _) rfl) ?_
  refine RL.gF rfl rfl rfl rfl ?_
  refine RL.gF rfl rfl rfl rfl ?_
  refine RL.gF rfl rfl rfl rfl ?_
  refine V (run_pickF rfl (v := B false) rfl) ?_
  refine V (mV (B _) rfl) ?_
  refine RL.gF rfl rfl rfl rfl ?_
  refine RL.gF rfl rfl rfl rfl ?_
  refine RL.gF rfl rfl rfl rfl ?_
  refine RL.gF rfl rfl rfl rfl ?_
  refine V (run_pickF rfl (v := B false) rfl) ?_
  refine V (aV (B _) rfl) ?_
  refine RL.nil ?_
  refine CW.ret ?_
  refine outP1 Tryz.results41 (congrArg B ?_) hH2.below
  (rw [rule_is]; simp [*])

theorem c_term_all (v : Value) (l : List NodeR) (f : FuncId) (cs : List Value) (Pd : NodeR → Bool) (w : World) (hs : Sl w v 5 l.length (l.flatMap nodeL)) (hv : NodesV (Kw w) l) (hf : ∀ args w, (callFunc f args).run Tryz.prog w = .ok (.enter f args) w) (go : ∀ x ∈ l, ∀ w', Below w.heap.size w w' → Calls Tryz.prog f (.agg (nodeL x).toArray :: cs).toArray w' (Pure (B (Pd x)) w')) : Calls Tryz.prog 40 #[v, .func (.func f) #[] cs.toArray] w (Pure (B (l.all Pd)) w) := by
 have hm := hs.small
 unfold maxLen at hm
 refine enter Tryz.func40 rfl Tryz.ntmps40 rfl ?_
 have hH := Hp.start w
 refine SR ?_
 refine V (aV (B false) rfl) ?_
 refine RL.nil ?_
 refine CW.seq ?_
 refine SR ?_
 refine V (run_move (by conv => lhs; whnf)) ?_
 refine V (run_lenSl (hs.hp hH) rfl underlying26 rfl) ?_
 refine V (mV (I 0) rfl) ?_
 refine RL.nil ?_
 refine CW.block ?_
 refine CW.loop (G := (Int)) (fun (k : Int) s' w' => (Fr [4, 6, 9, 10, 11, 12, 13, 14, 15, 16, 17] _ s') ∧ (Hp w w' _) ∧ (s' 9 = I k) ∧ (0 ≤ k) ∧ (k ≤ l.length) ∧ (∀ j : Int, 0 ≤ j → j < k → Pd (l.getD j.toNat node0) = true)) (fun (k : Int) => (l.length - k).toNat) (0) ⟨Fr.refl _ _, hH, rfl, (by omega), (by omega), fun j a b => absurd b (by omega)⟩ ?_
 rintro k sg1 w1 ⟨fr1, hH1, e9_1, h0, hk, hg⟩
 have e1_1 : sg1 1 = .func _ _ _ := (fr1 1 rfl).trans rfl
 have e7_1 := (fr1 7 rfl).trans (by conv => lhs; whnf)
 have e8_1 : sg1 8 = I _ := (fr1 8 rfl).trans rfl
 refine SR ?_
 refine V (run_lss e9_1 e8_1) ?_
 refine RL.nil ?_
 refine CW.seq ?_
 refine CW.condP rfl (fun h3 => ?_) (fun h3 => ?_)
 ·refine CW.skip ?_
  refine CW.seq ?_
  refine CW.block ?_
  refine SR ?_
  refine V (run_indexAddrS (hs.hp hH1) underlying26 sizeOf28 e7_1 e9_1 (by omega)) ?_
  refine V (run_ldE (dv := node0) nodeL_len (hs.hp hH1) underlying28 rfl rfl rfl (by omega)) ?_
  refine RL.new rfl hH1 (f := fun b => (.pointer (some ⟨b, 0, none⟩))) (run_alloc Tryz.zeroValue28) ?_
  intro b6 w4 hH5
  refine RL.set hH5 (i := 0) rfl (run_stW (c' := (nodeL _).toArray) rfl rfl rfl (nodeL_one (hv.at (by omega) (by omega))) (hH5.blk (i := 0) rfl) rfl) ?_
  intro w7 hH8
  simp only [z0, z1] at hH8
  refine RL.nil ?_
  refine SR ?_
  refine V (run_move e1_1) ?_
  refine V (run_ldA (cs := nodeL _) underlying28 rfl rfl rfl (rangeAt_cells (hH8.blk (i := 0) rfl))) ?_
  refine RL.callP rfl hH8 (go _ (List.mem_of_getElem? (getD_at (d := node0) h0 ‹k < _›)) _ hH8.below) (run_callC1 hf (cs := cs) rfl rfl) ?_
  intro w9 hH10
  refine V (run_not rfl) ?_
  refine RL.nil ?_
  refine CW.cond rfl (fun h13 => ?_) (fun h13 => ?_)
  ·refine SR ?_
   refine V (aV (B false) rfl) ?_
   refine RL.nil ?_
   refine CW.ret ?_
   refine outP1 Tryz.results40 (congrArg B ?_) hH10.below
   first | exact (all_no h0 ‹k < _› (nt ‹(!Pd _) = true›)).symm | exact (all_yes ‹¬ k < _› hg).symm
  ·refine CW.skip ?_
   refine CW.region ?_
   refine V (run_add e9_1 rfl (by omega)) ?_
   refine V (mV (I _) rfl) ?_
   refine RL.nil ?_
   refine ⟨k + 1, ?_, fr1.u4.u4.u1.u1, (hH10.sub (sQ sR)), (congrArg I (by first | rfl | omega)), ?_, ?_, ?_⟩
   ·((try dsimp only); omega)
   ·omega
   ·omega
   ·exact fun j a b => if e : j = k then e ▸ nf ‹(!Pd _) = false› else hg j a (by omega)
 ·refine CW.exit (id := 0) rfl ?_
  refine SR ?_
  refine V (aV (B true) rfl) ?_
  refine RL.nil ?_
  refine CW.ret ?_
  refine outP1 Tryz.results40 (congrArg B ?_) hH1.below
  first | exact (all_no h0 ‹k < _› (nt ‹(!Pd _) = true›)).symm | exact (all_yes ‹¬ k < _› hg).symm

theorem s_isconst (n : NodeR) (w : World) (hn : NodeV (Kw w) n) (ih : ∀ x ∈ n.kids, ∀ w, NodeV (Kw w) x → Calls Tryz.prog 22 #[.agg (nodeL x).toArray] w (Pure (B (constB x.nd)) w)) : Calls Tryz.prog 22 #[.agg (nodeL n).toArray] w (Pure (B (constB n.nd)) w) := by
 have hm1 := hn.kids_.small
 have hm2 := hn.names_.small
 unfold maxLen at hm1 hm2
 refine enter Tryz.func22 rfl Tryz.ntmps22 rfl ?_
 have hH := Hp.start w
 refine SR ?_
 refine RL.new rfl hH (f := fun b => (.pointer (some ⟨b, 0, none⟩))) (run_box (v := .agg _) rfl) ?_
 intro b3 w1 hH2
 refine V (aV (B false) rfl) ?_
 refine RL.nil ?_
 refine CW.seq ?_
 refine SR ?_
 refine V (fA underlying28 0 rfl sizeOf3 rfl) ?_
 refine V (run_ld underlying3 rfl rfl (hH2.cell (i := 0) rfl (v := I _) rfl)) ?_
 refine RL.nil ?_
 refine CW.block ?_
 refine SR ?_
 refine V (run_eql rfl rfl) ?_
 refine V (aV (B _) rfl) ?_
 refine RL.nil ?_
 refine CW.condP rfl (fun h5 => ?_) (fun h5 => ?_)
 ·refine SR ?_
  refine V (run_ldA (cs := nodeL _) underlying28 rfl rfl rfl (rangeAt_cells (hH2.blk (i := 0) rfl))) ?_
  refine RL.callP rfl hH2 (c_term_leaf _  _ (hn.mono hH2.kw)) (run_call1 call37 rfl) ?_
  intro w6 hH7
  refine V (aV (B _) rfl) ?_
  refine RL.nil ?_
  refine CW.ret ?_
  refine outP1 Tryz.results22 (congrArg B ?_) hH7.below
  first | (rw [const_2 ‹n.kind = 2›]; done) | (rw [const_3 ‹n.kind = 3›]; simp [*]; done) | exact const_4y ‹_› ‹_› ‹_› | exact const_4n ‹_› ‹_› | exact const_4k ‹_› ‹_› | exact const_5y ‹_› ‹_› | exact const_5n ‹_› ‹_› | exact (const_x ‹_› ‹_› ‹_› ‹_›).symm
 ·refine SR ?_
  refine V (run_eql rfl rfl) ?_
  refine V (aV (B _) rfl) ?_
  refine RL.nil ?_
  refine CW.condP rfl (fun h10 => ?_) (fun h10 => ?_)
  ·refine SR ?_
   refine V (fA underlying28 2 rfl sizeOf9 rfl) ?_
   refine V (run_ld underlying9 rfl rfl (hH2.cell (i := 0) rfl (v := .string _) rfl)) ?_
   refine V (run_eqlS rfl rfl) ?_
   refine V (mV (B _) rfl) ?_
   refine RL.splitP (dj := 14) rfl (fun h12 => ?_) (fun h12 => ?_)
   ·refine RL.gT rfl (bT h12) ?_
    refine V (fA underlying28 3 rfl sizeOf25 rfl) ?_
    refine RL.gT rfl (bT h12) ?_
    refine V (run_ldV (hn.names_.sl.hp hH2) underlying25 rfl rfl (hH2.cell (i := 0) rfl rfl)) ?_
    refine RL.gT rfl (bT h12) ?_
    refine RL.callP rfl hH2 (c_term_right _ _  _ (hn.names_.sl.hp hH2)) (run_call1 call38 rfl) ?_
    intro w13 hH14
    refine V (run_pickT (bT h12) (v := B _) rfl) ?_
    refine V (mV (B _) rfl) ?_
    refine RL.split (dj := 19) rfl (fun h16 => ?_) (fun h16 => ?_)
    ·refine RL.gT rfl (bR (c := true) h16) ?_
     refine V (fA underlying28 4 rfl sizeOf26 rfl) ?_
     refine RL.gT rfl (bR (c := true) h16) ?_
     refine V (run_ldV (hn.kids_.sl.hp hH14) underlying26 rfl rfl (hH14.cell (i := 0) rfl rfl)) ?_
     refine RL.gT rfl (bR (c := true) h16) ?_
     refine V (run_lenSl (hn.kids_.sl.hp hH14) rfl underlying26 rfl) ?_
     refine RL.gT rfl (bR (c := true) h16) ?_
     refine V (run_eql rfl rfl) ?_
     refine V (run_pickT (bR (c := true) h16) (v := B _) rfl) ?_
     refine V (aV (B _) rfl) ?_
     refine RL.nil ?_
     refine CW.ret ?_
     refine outP1 Tryz.results22 (congrArg B ?_) hH14.below
     first | (rw [const_2 ‹n.kind = 2›]; done) | (rw [const_3 ‹n.kind = 3›]; simp [*]; done) | exact const_4y ‹_› ‹_› ‹_› | exact const_4n ‹_› ‹_› | exact const_4k ‹_› ‹_› | exact const_5y ‹_› ‹_› | exact const_5n ‹_› ‹_› | exact (const_x ‹_› ‹_› ‹_› ‹_›).symm
    ·refine RL.gF rfl rfl (bR (c := false) h16) rfl ?_
     refine RL.gF rfl rfl (bR (c := false) h16) rfl ?_
     refine RL.gF rfl rfl (bR (c := false) h16) rfl ?_
     refine RL.gF rfl rfl (bR (c := false) h16) rfl ?_
     refine V (run_pickF (bR (c := false) h16) (v := B false) rfl) ?_
     refine V (aV (B _) rfl) ?_
     refine RL.nil ?_
     refine CW.ret ?_
     refine outP1 Tryz.results22 (congrArg B ?_) hH14.below
     first | (rw [const_2 ‹n.kind = 2›]; done) | (rw [const_3 ‹n.kind = 3›]; simp [*]; done) | exact const_4y ‹_› ‹_› ‹_› | exact const_4n ‹_› ‹_› | exact const_4k ‹_› ‹_› | exact const_5y ‹_› ‹_› | exact const_5n ‹_› ‹_› | exact (const_x ‹_› ‹_› ‹_› ‹_›).symm
   ·refine RL.gF rfl rfl (bF h12) rfl ?_
    refine RL.gF rfl rfl (bF h12) rfl ?_
    refine RL.gF rfl rfl (bF h12) rfl ?_
    refine V (run_pickF (bF h12) (v := B false) rfl) ?_
    refine V (mV (B _) rfl) ?_
    refine RL.gF rfl rfl rfl rfl ?_
    refine RL.gF rfl rfl rfl rfl ?_
    refine RL.gF rfl rfl rfl rfl ?_
    refine RL.gF rfl rfl rfl rfl ?_
    refine V (run_pickF rfl (v := B false) rfl) ?_
    refine V (aV (B _) rfl) ?_
    refine RL.nil ?_
    refine CW.ret ?_
    refine outP1 Tryz.results22 (congrArg B ?_) hH2.below
    first | (rw [const_2 ‹n.kind = 2›]; done) | (rw [const_3 ‹n.kind = 3›]; simp [*]; done) | exact const_4y ‹_› ‹_› ‹_› | exact const_4n ‹_› ‹_› | exact const_4k ‹_› ‹_› | exact const_5y ‹_› ‹_› | exact const_5n ‹_› ‹_› | exact (const_x ‹_› ‹_› ‹_› ‹_›).symm
  ·refine SR ?_
   refine V (run_eql rfl rfl) ?_
   refine V (aV (B _) rfl) ?_
   refine RL.nil ?_
   refine CW.condP rfl (fun h19 => ?_) (fun h19 => ?_)
   ·refine SR ?_
    refine V (run_ldA (cs := nodeL _) underlying28 rfl rfl rfl (rangeAt_cells (hH2.blk (i := 0) rfl))) ?_
    refine RL.callP rfl hH2 (c_term_bare _  _ (hn.mono hH2.kw)) (run_call1 call39 rfl) ?_
    intro w20 hH21
    refine V (mV (B _) rfl) ?_
    refine RL.splitP (dj := 29) rfl (fun h24 => ?_) (fun h24 => ?_)
    ·refine RL.gT rfl (bT h24) ?_
     refine V (fA underlying28 4 rfl sizeOf26 rfl) ?_
     refine RL.gT rfl (bT h24) ?_
     refine V (run_ldV (hn.kids_.sl.hp hH21) underlying26 rfl rfl (hH21.cell (i := 0) rfl rfl)) ?_
     refine RL.gT rfl (bT h24) ?_
     refine V (run_lenSl (hn.kids_.sl.hp hH21) rfl underlying26 rfl) ?_
     refine RL.gT rfl (bT h24) ?_
     refine V (run_gtr rfl rfl) ?_
     refine V (run_pickT (bT h24) (v := B _) rfl) ?_
     refine V (mV (B _) rfl) ?_
     refine RL.splitP (dj := 35) rfl (fun h26 => ?_) (fun h26 => ?_)
     ·refine RL.gT rfl (bT h26) ?_
      refine V (fA underlying28 4 rfl sizeOf26 rfl) ?_
      refine RL.gT rfl (bT h26) ?_
      refine V (run_ldV (hn.kids_.sl.hp hH21) underlying26 rfl rfl (hH21.cell (i := 0) rfl rfl)) ?_
      refine RL.gT rfl (bT h26) ?_
      refine RL.callP rfl hH21 (c_term_all _ n.kids 22 [] (fun x => constB x.nd) _ (hn.kids_.sl.hp hH21) ⟨(NodeV.mono hH21.kw hn).each⟩ call22 fun x hx w' hb => ih x hx w' (NodeV.mono (hH21.kw.trans (Kw.below hb)) (hn.each x hx))) (run_call2 call40 rfl rfl) ?_
      intro w27 hH28
      refine V (run_pickT (bT h26) (v := B _) rfl) ?_
      refine V (aV (B _) rfl) ?_
      refine RL.nil ?_
      refine CW.ret ?_
      refine outP1 Tryz.results22 (congrArg B ?_) hH28.below
      first | (rw [const_2 ‹n.kind = 2›]; done) | (rw [const_3 ‹n.kind = 3›]; simp [*]; done) | exact const_4y ‹_› ‹_› ‹_› | exact const_4n ‹_› ‹_› | exact const_4k ‹_› ‹_› | exact const_5y ‹_› ‹_› | exact const_5n ‹_› ‹_› | exact (const_x ‹_› ‹_› ‹_› ‹_›).symm
     ·refine RL.gF rfl rfl (bF h26) rfl ?_
      refine RL.gF rfl rfl (bF h26) rfl ?_
      refine RL.gF rfl rfl (bF h26) rfl ?_
      refine V (run_pickF (bF h26) (v := B false) rfl) ?_
      refine V (aV (B _) rfl) ?_
      refine RL.nil ?_
      refine CW.ret ?_
      refine outP1 Tryz.results22 (congrArg B ?_) hH21.below
      first | (rw [const_2 ‹n.kind = 2›]; done) | (rw [const_3 ‹n.kind = 3›]; simp [*]; done) | exact const_4y ‹_› ‹_› ‹_› | exact const_4n ‹_› ‹_› | exact const_4k ‹_› ‹_› | exact const_5y ‹_› ‹_› | exact const_5n ‹_› ‹_› | exact (const_x ‹_› ‹_› ‹_› ‹_›).symm
    ·refine RL.gF rfl rfl (bF h24) rfl ?_
     refine RL.gF rfl rfl (bF h24) rfl ?_
     refine RL.gF rfl rfl (bF h24) rfl ?_
     refine RL.gF rfl rfl (bF h24) rfl ?_
     refine V (run_pickF (bF h24) (v := B false) rfl) ?_
     refine V (mV (B _) rfl) ?_
     refine RL.gF rfl rfl rfl rfl ?_
     refine RL.gF rfl rfl rfl rfl ?_
     refine RL.gF rfl rfl rfl rfl ?_
     refine V (run_pickF rfl (v := B false) rfl) ?_
     refine V (aV (B _) rfl) ?_
     refine RL.nil ?_
     refine CW.ret ?_
     refine outP1 Tryz.results22 (congrArg B ?_) hH21.below
     first | (rw [const_2 ‹n.kind = 2›]; done) | (rw [const_3 ‹n.kind = 3›]; simp [*]; done) | exact const_4y ‹_› ‹_› ‹_› | exact const_4n ‹_› ‹_› | exact const_4k ‹_› ‹_› | exact const_5y ‹_› ‹_› | exact const_5n ‹_› ‹_› | exact (const_x ‹_› ‹_› ‹_› ‹_›).symm
   ·refine SR ?_
    refine V (run_eql rfl rfl) ?_
    refine V (aV (B _) rfl) ?_
    refine RL.nil ?_
    refine CW.condP rfl (fun h31 => ?_) (fun h31 => ?_)
    ·refine SR ?_
     refine V (run_ldA (cs := nodeL _) underlying28 rfl rfl rfl (rangeAt_cells (hH2.blk (i := 0) rfl))) ?_
     refine RL.callP rfl hH2 (c_term_bare _  _ (hn.mono hH2.kw)) (run_call1 call39 rfl) ?_
     intro w32 hH33
     refine V (mV (B _) rfl) ?_
     refine RL.splitP (dj := 44) rfl (fun h36 => ?_) (fun h36 => ?_)
     ·refine RL.gT rfl (bT h36) ?_
      refine V (fA underlying28 4 rfl sizeOf26 rfl) ?_
      refine RL.gT rfl (bT h36) ?_
      refine V (run_ldV (hn.kids_.sl.hp hH33) underlying26 rfl rfl (hH33.cell (i := 0) rfl rfl)) ?_
      refine RL.gT rfl (bT h36) ?_
      refine RL.callP rfl hH33 (c_term_all _ n.kids 41 [] (fun x => ruleB x.nd) _ (hn.kids_.sl.hp hH33) ⟨(NodeV.mono hH33.kw hn).each⟩ call41 fun x hx w' hb => c_term_isRule x w' (NodeV.mono (hH33.kw.trans (Kw.below hb)) (hn.each x hx))) (run_call2 call40 rfl rfl) ?_
      intro w37 hH38
      refine V (run_pickT (bT h36) (v := B _) rfl) ?_
      refine V (aV (B _) rfl) ?_
      refine RL.nil ?_
      refine CW.ret ?_
      refine outP1 Tryz.results22 (congrArg B ?_) hH38.below
      first | (rw [const_2 ‹n.kind = 2›]; done) | (rw [const_3 ‹n.kind = 3›]; simp [*]; done) | exact const_4y ‹_› ‹_› ‹_› | exact const_4n ‹_› ‹_› | exact const_4k ‹_› ‹_› | exact const_5y ‹_› ‹_› | exact const_5n ‹_› ‹_› | exact (const_x ‹_› ‹_› ‹_› ‹_›).symm
     ·refine RL.gF rfl rfl (bF h36) rfl ?_
      refine RL.gF rfl rfl (bF h36) rfl ?_
      refine RL.gF rfl rfl (bF h36) rfl ?_
      refine V (run_pickF (bF h36) (v := B false) rfl) ?_
      refine V (aV (B _) rfl) ?_
      refine RL.nil ?_
      refine CW.ret ?_
      refine outP1 Tryz.results22 (congrArg B ?_) hH33.below
      first | (rw [const_2 ‹n.kind = 2›]; done) | (rw [const_3 ‹n.kind = 3›]; simp [*]; done) | exact const_4y ‹_› ‹_› ‹_› | exact const_4n ‹_› ‹_› | exact const_4k ‹_› ‹_› | exact const_5y ‹_› ‹_› | exact const_5n ‹_› ‹_› | exact (const_x ‹_› ‹_› ‹_› ‹_›).symm
    ·refine CW.skip ?_
     refine SR ?_
     refine V (aV (B false) rfl) ?_
     refine RL.nil ?_
     refine CW.ret ?_
     refine outP1 Tryz.results22 (congrArg B ?_) hH2.below
     first | (rw [const_2 ‹n.kind = 2›]; done) | (rw [const_3 ‹n.kind = 3›]; simp [*]; done) | exact const_4y ‹_› ‹_› ‹_› | exact const_4n ‹_› ‹_› | exact const_4k ‹_› ‹_› | exact const_5y ‹_› ‹_› | exact const_5n ‹_› ‹_› | exact (const_x ‹_› ‹_› ‹_› ‹_›).symm
theorem c_term_IsConst (n : NodeR) : ∀ w, NodeV (Kw w) n → Calls Tryz.prog 22 #[.agg (nodeL n).toArray] w (Pure (B (constB n.nd)) w) := node_ind (C := fun n => ∀ w, NodeV (Kw w) n → Calls Tryz.prog 22 #[.agg (nodeL n).toArray] w (Pure (B (constB n.nd)) w)) (fun n ih w hn => s_isconst n w hn ih) n

theorem c_spell_reader_fail (W0 : World) (b : Nat) (s : RS) (L : List Ent) (a : Int) (w : World) (hH : Hp W0 w (.blk b (.cells #[B s.1, I s.2] 58 (0, 0)) :: L)) : Calls Tryz.prog 43 #[.pointer (some ⟨b, 0, none⟩), I a] w (Ret fun u w' => ∃ (y : BitVec 64) (s' : RS), u = U y ∧ (y = 0#64 ∧ s' = failF s a) ∧ Hp W0 w' (.blk b (.cells #[B s'.1, I s'.2] 58 (0, 0)) :: L)) := by
 refine enter Tryz.func43 rfl Tryz.ntmps43 rfl ?_
 refine SR ?_
 refine V (aV (U 0#64) rfl) ?_
 refine RL.nil ?_
 refine CW.seq ?_
 refine SR ?_
 refine V (mV (Pn _ _) rfl) ?_
 refine V (run_nilCheck rfl) ?_
 refine V (fA underlying58 0 rfl sizeOf4 rfl) ?_
 refine V (run_ld underlying4 rfl rfl (hH.cell (i := 0) rfl (v := B _) rfl)) ?_
 refine V (run_not rfl) ?_
 refine RL.nil ?_
 refine CW.cond rfl (fun h3 => ?_) (fun h3 => ?_)
 ·refine CW.region ?_
  refine V (mV (Pn _ _) rfl) ?_
  refine V (mV (Pn _ _) rfl) ?_
  refine V (mV (I _) rfl) ?_
  refine V (run_nilCheck rfl) ?_
  refine V (fA underlying58 0 rfl sizeOf4 rfl) ?_
  refine RL.set hH (i := 0) rfl (run_st rfl rfl (v := B true) rfl rfl rfl (hH.blk (i := 0) rfl) (by first | decide | simp)) ?_
  intro w4 hH5
  simp only [z0, z1] at hH5
  refine V (run_nilCheck rfl) ?_
  refine V (fA underlying58 1 rfl sizeOf3 rfl) ?_
  refine RL.set hH5 (i := 0) rfl (run_st rfl rfl (v := I _) rfl rfl rfl (hH5.blk (i := 0) rfl) (by first | decide | simp)) ?_
  intro w6 hH7
  simp only [z0, z1] at hH7
  refine RL.nil ?_
  refine SR ?_
  refine V (aV (U 0#64) rfl) ?_
  refine RL.nil ?_
  refine CW.ret ?_
  exact out1 Tryz.results43 rfl ⟨_, failF s a, rfl, by exact ⟨rfl, rfl⟩, Hp.conv (hH7.sub sR) (by first | (rw [fail_f (nt ‹_›)]; rfl) | (rw [fail_t (nf ‹_›)]))⟩
 ·refine CW.skip ?_
  refine SR ?_
  refine V (aV (U 0#64) rfl) ?_
  refine RL.nil ?_
  refine CW.ret ?_
  exact out1 Tryz.results43 rfl ⟨_, failF s a, rfl, by exact ⟨rfl, rfl⟩, Hp.conv (hH.sub sR) (by first | (rw [fail_f (nt ‹_›)]; rfl) | (rw [fail_t (nf ‹_›)]))⟩

theorem c_spell_reader_places (W0 : World) (b : Nat) (s : RS) (L : List Ent) (v : Value) (l : List Tx) (v2 : Value) (ws : List Wd) (w : World) (hs : Sl W0 v 1 l.length (txL l)) (hw : Sl W0 v2 2 ws.length (ws.flatMap wdL)) (hH : Hp W0 w (.blk b (.cells #[B s.1, I s.2] 58 (0, 0)) :: L)) : Calls Tryz.prog 44 #[.pointer (some ⟨b, 0, none⟩), v, v2] w (Ret fun u w' => ∃ (y : BitVec 64) (s' : RS), u = U y ∧ (okR (placesG l ws) s y s') ∧ Hp W0 w' (.blk b (.cells #[B s'.1, I s'.2] 58 (0, 0)) :: L)) := by
 have hm1 := hw.small
 unfold maxLen at hm1
 refine enter Tryz.func44 rfl Tryz.ntmps44 rfl ?_
 refine SR ?_
 refine V (aV (U 0#64) rfl) ?_
 refine RL.nil ?_
 refine SR ?_
 refine V (aV (U 0#64) rfl) ?_
 refine RL.nil ?_
 refine CW.seq ?_
 refine SR ?_
 refine V (run_move (by conv => lhs; whnf)) ?_
 refine V (run_lenSl (hw.hp hH) rfl underlying25 rfl) ?_
 refine V (mV (I 0) rfl) ?_
 refine RL.nil ?_
 refine CW.block ?_
 refine CW.loop (G := (Int) × (BitVec 64)) (fun (⟨k, m⟩ : (Int) × (BitVec 64)) s' w' => (Fr [6, 7, 9, 10, 13, 14, 15, 16, 17, 18, 19, 20, 21, 22, 23, 24, 25, 26, 27, 28, 29, 30] _ s') ∧ (Hp W0 w' _) ∧ (s' 7 = U m) ∧ (s' 13 = I k) ∧ (0 ≤ k) ∧ (k ≤ ws.length) ∧ (gotP l ws 0#64 = gotP l (ws.drop k.toNat) m)) (fun (⟨k, m⟩ : (Int) × (BitVec 64)) => (ws.length - k).toNat) ((0, 0#64)) ⟨Fr.refl _ _, hH, rfl, rfl, (by omega), (by omega), rfl⟩ ?_
 rintro ⟨k, m⟩ sg1 w1 ⟨fr1, hH1, e7_1, e13_1, h0, hk, hm⟩
 have e0_1 : sg1 0 = Pn _ _ := (fr1 0 rfl).trans rfl
 have e1_1 := (fr1 1 rfl).trans (by conv => lhs; whnf)
 have e11_1 := (fr1 11 rfl).trans (by conv => lhs; whnf)
 have e12_1 : sg1 12 = I _ := (fr1 12 rfl).trans rfl
 refine SR ?_
 refine V (run_lss e13_1 e12_1) ?_
 refine RL.nil ?_
 refine CW.seq ?_
 refine CW.condP rfl (fun h3 => ?_) (fun h3 => ?_)
 ·refine CW.skip ?_
  refine CW.seq ?_
  refine CW.block ?_
  refine SR ?_
  refine V (run_indexAddrS (hw.hp hH1) underlying25 sizeOf53 e11_1 e13_1 (by omega)) ?_
  refine V (run_ldE (dv := wd0) wdL_len (hw.hp hH1) underlying53 rfl rfl rfl (by omega)) ?_
  refine RL.new rfl hH1 (f := fun b => (.pointer (some ⟨b, 0, none⟩))) (run_alloc Tryz.zeroValue53) ?_
  intro b6 w4 hH5
  refine RL.set hH5 (i := 0) rfl (run_stW (c' := (wdL _).toArray) rfl rfl rfl (by simp [wdL, Value.oneCell']) (hH5.blk (i := 0) rfl) rfl) ?_
  intro w7 hH8
  simp only [z0, z1] at hH8
  refine RL.nil ?_
  refine SR ?_
  refine V (run_move e1_1) ?_
  refine V (fA underlying53 0 rfl sizeOf9 rfl) ?_
  refine V (run_ld underlying9 rfl rfl (hH8.cell (i := 0) rfl (v := .string _) rfl)) ?_
  refine RL.callP rfl hH8 (c_name_Find _ _ _  _ (hs.hp hH8)) (run_call2 call87 rfl rfl) ?_
  intro w9 hH10
  refine V (aV (I _) rfl) ?_
  refine RL.nil ?_
  refine CW.seq ?_
  refine SR ?_
  refine V (mV (I _) rfl) ?_
  refine V (run_lss rfl rfl) ?_
  refine RL.nil ?_
  refine CW.condP rfl (fun h12 => ?_) (fun h12 => ?_)
  ·refine SR ?_
   refine V (run_move e0_1) ?_
   refine V (fA underlying53 1 rfl sizeOf3 rfl) ?_
   refine V (run_ld underlying3 rfl rfl (hH10.cell (i := 0) rfl (v := I _) rfl)) ?_
   refine RL.callT rfl (c_spell_reader_fail _ _ _ _ _ _ (hH10.perm (((pC pR).trans pS).trans (pC pR)))) (run_call2 call43 rfl rfl) ?_
   rintro _ w18 ⟨_, _, rfl, ⟨rfl, rfl⟩, h19⟩
   have hH20 := h19.perm (((pC pR).trans pS).trans (pC pR))
   refine V (aV (U _) rfl) ?_
   refine RL.nil ?_
   refine CW.ret ?_
   exact out1 Tryz.results44 rfl ⟨_, (failF s (ws.getD k.toNat wd0).place), rfl, by first | exact ok_err (got_no h0 ‹k < _› hm ‹_›) | exact ok_ok (got_end ‹_› hm), Hp.conv ((hH20.perm (((pC pR).trans pS).trans (pC pR))).sub (sP (sQ sR))) (by rfl)⟩
  ·refine CW.skip ?_
   refine CW.region ?_
   refine V (run_move e7_1) ?_
   refine V (mV (I _) rfl) ?_
   refine RL.callP rfl hH10 (c_mask_With _ _  _) (run_call2 call88 rfl rfl) ?_
   intro w21 hH22
   refine V (aV (U _) rfl) ?_
   refine RL.nil ?_
   refine CW.region ?_
   refine V (run_add e13_1 rfl (by omega)) ?_
   refine V (mV (I _) rfl) ?_
   refine RL.nil ?_
   refine ⟨(k + 1, _), ?_, fr1.u4.u4.u4.u4.u1, (hH22.sub (sQ sR)), rfl, (congrArg I (by first | rfl | omega)), ?_, ?_, ?_⟩
   ·((try dsimp only); omega)
   ·omega
   ·omega
   ·exact got_next h0 ‹k < _› hm ‹_›
 ·refine CW.exit (id := 0) rfl ?_
  refine SR ?_
  refine V (run_move e7_1) ?_
  refine V (aV (U _) rfl) ?_
  refine RL.nil ?_
  refine CW.ret ?_
  exact out1 Tryz.results44 rfl ⟨_, s, rfl, by first | exact ok_err (got_no h0 ‹k < _› hm ‹_›) | exact ok_ok (got_end ‹_› hm), Hp.conv (hH1.sub sR) (by rfl)⟩

theorem c_spell_reader_point (W0 : World) (b : Nat) (s : RS) (L : List Ent) (f : Fac) (n : NodeR) (w : World) (hT : Tab W0) (hf : FacV (Kw W0) f) (hn : NodeV (Kw W0) n) (hH : Hp W0 w (.blk b (.cells #[B s.1, I s.2] 58 (0, 0)) :: L)) : Calls Tryz.prog 46 #[.pointer (some ⟨b, 0, none⟩), .agg (facC f), .agg (nodeL n).toArray] w (Ret fun u w' => ∃ (y : BitVec 64) (s' : RS), u = U y ∧ (okR (pointG f.fc n.nd) s y s') ∧ Hp W0 w' (.blk b (.cells #[B s'.1, I s'.2] 58 (0, 0)) :: L)) := by
 refine enter Tryz.func46 rfl Tryz.ntmps46 rfl ?_
 refine SR ?_
 refine RL.new rfl hH (f := fun b => (.pointer (some ⟨b, 0, none⟩))) (run_box (v := .agg _) rfl) ?_
 intro b3 w1 hH2
 refine RL.new rfl hH2 (f := fun b => (.pointer (some ⟨b, 0, none⟩))) (run_box (v := .agg _) rfl) ?_
 intro b6 w4 hH5
 refine V (aV (U 0#64) rfl) ?_
 refine RL.nil ?_
 refine SR ?_
 refine V (fA underlying50 1 rfl sizeOf45 rfl) ?_
 refine V (run_ld underlying45 rfl rfl (hH5.cell (i := 1) rfl rfl)) ?_
 refine V (fA underlying28 2 rfl sizeOf9 rfl) ?_
 refine V (run_ld underlying9 rfl rfl (hH5.cell (i := 0) rfl (v := .string _) rfl)) ?_
 refine RL.callP rfl hH5 (c_name_Find _ _ _  _ (hf.names.sl.hp hH5)) (run_call2 call87 rfl rfl) ?_
 intro w7 hH8
 refine V (aV (I _) rfl) ?_
 refine RL.nil ?_
 refine CW.seq ?_
 refine SR ?_
 refine V (mV (I _) rfl) ?_
 refine V (run_lss rfl rfl) ?_
 refine RL.nil ?_
 refine CW.condP rfl (fun h10 => ?_) (fun h10 => ?_)
 ·refine SR ?_
  refine V (mV (Pn _ _) rfl) ?_
  refine V (fA underlying28 1 rfl sizeOf3 rfl) ?_
  refine V (run_ld underlying3 rfl rfl (hH8.cell (i := 0) rfl (v := I _) rfl)) ?_
  refine RL.callT rfl (c_spell_reader_fail _ _ _ _ _ _ (hH8.perm (((pC ((pC pR).trans pS)).trans pS).trans (pC pR)))) (run_call2 call43 rfl rfl) ?_
  rintro _ w16 ⟨_, _, rfl, ⟨rfl, rfl⟩, h17⟩
  have hH18 := h17.perm (((pC pR).trans pS).trans (pC (((pC pR).trans pS).trans (pC pR))))
  refine V (aV (U _) rfl) ?_
  refine RL.nil ?_
  refine CW.ret ?_
  exact out1 Tryz.results46 rfl ⟨_, (failF s n.place), rfl, by first | exact pt_no ‹_› | exact pt_4 ‹_› ‹_› | exact pt_1 ‹_› ‹_›, Hp.conv ((hH18.perm (((pC ((pC pR).trans pS)).trans pS).trans (pC pR))).sub (sP (sQ (sQ sR)))) (by rfl)⟩
 ·refine CW.skip ?_
  refine CW.seq ?_
  refine SR ?_
  refine V (fA underlying50 0 rfl sizeOf3 rfl) ?_
  refine V (run_ld underlying3 rfl rfl (hH8.cell (i := 1) rfl (v := I _) rfl)) ?_
  refine V (run_eql rfl rfl) ?_
  refine RL.nil ?_
  refine CW.condP rfl (fun h20 => ?_) (fun h20 => ?_)
  ·refine SR ?_
   refine V (fA underlying50 2 rfl sizeOf48 rfl) ?_
   refine V (run_ldBR underlying48 rfl rfl rfl (hH8.blk (i := 1) rfl)) ?_
   refine V (mV (I _) rfl) ?_
   refine RL.callP rfl hH8 (c_hasse_Word _ _  _ (hT.hp hH8)) (run_call2 call90 rfl rfl) ?_
   intro w21 hH22
   refine V (aV (U _) rfl) ?_
   refine RL.nil ?_
   refine CW.ret ?_
   exact out1 Tryz.results46 rfl ⟨_, s, rfl, by first | exact pt_no ‹_› | exact pt_4 ‹_› ‹_› | exact pt_1 ‹_› ‹_›, Hp.conv ((hH22.perm (((pC ((pC pR).trans pS)).trans pS).trans (pC pR))).sub (sP (sQ (sQ sR)))) (by rfl)⟩
  ·refine CW.skip ?_
   refine SR ?_
   refine V (fA underlying50 1 rfl sizeOf45 rfl) ?_
   refine V (run_ld underlying45 rfl rfl (hH8.cell (i := 1) rfl rfl)) ?_
   refine V (run_lenSl (hf.names.sl.hp hH8) rfl underlying45 rfl) ?_
   refine V (mV (I _) rfl) ?_
   refine RL.callP rfl hH8 (c_rung_Word _ _  _) (run_call2 call91 rfl rfl) ?_
   intro w23 hH24
   refine V (run_move (by conv => lhs; whnf)) ?_
   refine V (run_extract rfl (v := U _) rfl) ?_
   refine V (run_extract rfl (v := B _) rfl) ?_
   refine V (aV (U _) rfl) ?_
   refine V (aV (B _) rfl) ?_
   refine RL.nil ?_
   refine SR ?_
   refine V (mV (U _) rfl) ?_
   refine V (aV (U _) rfl) ?_
   refine RL.nil ?_
   refine CW.ret ?_
   exact out1 Tryz.results46 rfl ⟨_, s, rfl, by first | exact pt_no ‹_› | exact pt_4 ‹_› ‹_› | exact pt_1 ‹_› ‹_›, Hp.conv ((hH24.perm (((pC ((pC pR).trans pS)).trans pS).trans (pC pR))).sub (sP (sQ (sQ sR)))) (by rfl)⟩

theorem c_spell_reader_rules (W0 : World) (b : Nat) (s : RS) (L : List Ent) (f : Fac) (n : NodeR) (w : World) (hT : Tab W0) (hf : FacV (Kw W0) f) (hn : NodeV (Kw W0) n) (hH : Hp W0 w (.blk b (.cells #[B s.1, I s.2] 58 (0, 0)) :: L)) : Calls Tryz.prog 45 #[.pointer (some ⟨b, 0, none⟩), .agg (facC f), .agg (nodeL n).toArray] w (Ret fun u w' => ∃ (y : BitVec 64) (s' : RS), u = U y ∧ (okR (rulesG f.fc n.nd.kids 0#64) s y s') ∧ Hp W0 w' (.blk b (.cells #[B s'.1, I s'.2] 58 (0, 0)) :: L)) := by
 have hm1 := hn.kids_.small
 unfold maxLen at hm1
 refine enter Tryz.func45 rfl Tryz.ntmps45 rfl ?_
 refine SR ?_
 refine RL.new rfl hH (f := fun b => (.pointer (some ⟨b, 0, none⟩))) (run_box (v := .agg _) rfl) ?_
 intro b3 w1 hH2
 refine RL.new rfl hH2 (f := fun b => (.pointer (some ⟨b, 0, none⟩))) (run_box (v := .agg _) rfl) ?_
 intro b6 w4 hH5
 refine V (aV (U 0#64) rfl) ?_
 refine RL.nil ?_
 refine SR ?_
 refine V (aV (U 0#64) rfl) ?_
 refine RL.nil ?_
 refine CW.seq ?_
 refine SR ?_
 refine V (fA underlying28 4 rfl sizeOf26 rfl) ?_
 refine V (run_ldV (hn.kids_.sl.hp hH5) underlying26 rfl rfl (hH5.cell (i := 0) rfl rfl)) ?_
 refine V (run_lenSl (hn.kids_.sl.hp hH5) rfl underlying26 rfl) ?_
 refine V (mV (I 0) rfl) ?_
 refine RL.nil ?_
 refine CW.block ?_
 refine CW.loop (G := (Int) × (BitVec 64) × (RS)) (fun (⟨k, m, s1⟩ : (Int) × (BitVec 64) × (RS)) s' w' => (Fr [6, 7, 9, 10, 14, 15, 16, 17, 18, 19, 20, 21, 22, 23, 24, 25, 26, 27, 28, 29, 30, 31, 32, 33, 34, 35, 36, 37, 38, 39, 40, 41] _ s') ∧ (Hp W0 w' (_ :: _ :: .blk b (.cells (#[B s1.1, I s1.2]) 58 (0, 0)) :: _)) ∧ (s' 7 = U m) ∧ (s' 14 = I k) ∧ (0 ≤ k) ∧ (k ≤ n.kids.length) ∧ (RInv f.fc n.nd.kids k m s s1)) (fun (⟨k, m, s1⟩ : (Int) × (BitVec 64) × (RS)) => (n.kids.length - k).toNat) ((0, 0#64, s)) ⟨Fr.refl _ _, hH5, rfl, rfl, (by omega), (by omega), ri_0⟩ ?_
 rintro ⟨k, m, s1⟩ sg7 w7 ⟨fr7, hH7, e7_7, e14_7, h0, hk, hm⟩
 have e0_7 : sg7 0 = Pn _ _ := (fr7 0 rfl).trans rfl
 have e4_7 : sg7 4 = Pn _ _ := (fr7 4 rfl).trans rfl
 have e12_7 := (fr7 12 rfl).trans (by conv => lhs; whnf)
 have e13_7 : sg7 13 = I _ := (fr7 13 rfl).trans rfl
 refine SR ?_
 refine V (run_lss e14_7 e13_7) ?_
 refine RL.nil ?_
 refine CW.seq ?_
 refine CW.condP rfl (fun h9 => ?_) (fun h9 => ?_)
 ·refine CW.skip ?_
  refine CW.seq ?_
  refine CW.block ?_
  refine SR ?_
  refine V (run_indexAddrS (hn.kids_.sl.hp hH7) underlying26 sizeOf28 e12_7 e14_7 (by omega)) ?_
  refine V (run_ldE (dv := node0) nodeL_len (hn.kids_.sl.hp hH7) underlying28 rfl rfl rfl (by omega)) ?_
  refine RL.new rfl hH7 (f := fun b => (.pointer (some ⟨b, 0, none⟩))) (run_alloc Tryz.zeroValue28) ?_
  intro b12 w10 hH11
  refine RL.set hH11 (i := 0) rfl (run_stW (c' := (nodeL _).toArray) rfl rfl rfl (nodeL_one (hn.at (by omega) (by omega))) (hH11.blk (i := 0) rfl) rfl) ?_
  intro w13 hH14
  simp only [z0, z1] at hH14
  refine RL.nil ?_
  refine SR ?_
  refine V (fA underlying50 1 rfl sizeOf45 e4_7) ?_
  refine V (run_ld underlying45 rfl rfl (hH14.cell (i := 2) rfl rfl)) ?_
  refine V (fA underlying28 2 rfl sizeOf9 rfl) ?_
  refine V (run_ld underlying9 rfl rfl (hH14.cell (i := 0) rfl (v := .string _) rfl)) ?_
  refine RL.callP rfl hH14 (c_name_Find _ _ _  _ (hf.names.sl.hp hH14)) (run_call2 call87 rfl rfl) ?_
  intro w15 hH16
  refine V (aV (I _) rfl) ?_
  refine RL.nil ?_
  refine CW.seq ?_
  refine SR ?_
  refine V (mV (I _) rfl) ?_
  refine V (run_lss rfl rfl) ?_
  refine RL.nil ?_
  refine CW.condP rfl (fun h18 => ?_) (fun h18 => ?_)
  ·refine SR ?_
   refine V (run_move e0_7) ?_
   refine V (fA underlying28 1 rfl sizeOf3 rfl) ?_
   refine V (run_ld underlying3 rfl rfl (hH16.cell (i := 0) rfl (v := I _) rfl)) ?_
   refine RL.callT rfl (c_spell_reader_fail _ _ _ _ _ _ (hH16.perm (((pC ((pC ((pC pR).trans pS)).trans pS)).trans pS).trans (pC pR)))) (run_call2 call43 rfl rfl) ?_
   rintro _ w24 ⟨_, _, rfl, ⟨rfl, rfl⟩, h25⟩
   have hH26 := h25.perm (((pC pR).trans pS).trans (pC (((pC pR).trans pS).trans (pC (((pC pR).trans pS).trans (pC pR))))))
   refine V (aV (U _) rfl) ?_
   refine RL.nil ?_
   refine CW.ret ?_
   exact out1 Tryz.results45 rfl ⟨_, (failF s1 (n.kids.getD k.toNat node0).place), rfl, by first | exact ri_no h0 ‹k < _› hm ‹_› | exact ri_end ‹_› hm, Hp.conv ((hH26.perm (((pC ((pC ((pC pR).trans pS)).trans pS)).trans pS).trans (pC pR))).sub (sP (sQ (sQ (sQ sR))))) (by rfl)⟩
  ·refine CW.skip ?_
   refine CW.regionS (by kernel_rfl) hH16 (sP (sP (sP (sQ sR)))) ?_
   intro w27 hH28
   refine AT 0 rfl (hH28.sub (sP (sP (sP (sQ sR))))) (fun w hS => run_move e7_7) ?_
   refine AT 1 rfl (hH28.sub (sP (sP (sP (sQ sR))))) (fun w hS => fA underlying50 2 rfl sizeOf48 e4_7) ?_
   refine AT 2 rfl (hH28.sub (sP (sP (sP (sQ sR))))) (fun w hS => run_ldBR underlying48 rfl rfl rfl (hS.blk (i := 2) rfl)) ?_
   refine AT 3 rfl (hH28.sub (sP (sP (sP (sQ sR))))) (fun w hS => mV (I _) rfl) ?_
   refine AT 4 rfl (hH28.sub (sP (sP (sP (sQ sR))))) (fun w hS => run_move e0_7) ?_
   refine AT 5 rfl (hH28.sub (sP (sP (sP (sQ sR))))) (fun w hS => fA underlying50 1 rfl sizeOf45 e4_7) ?_
   refine AT 6 rfl (hH28.sub (sP (sP (sP (sQ sR))))) (fun w hS => run_ld underlying45 rfl rfl (hS.cell (i := 2) rfl rfl)) ?_
   refine AT 7 rfl (hH28.sub (sP (sP (sP (sQ sR))))) (fun w hS => fA underlying28 3 rfl sizeOf25 rfl) ?_
   refine AT 8 rfl (hH28.sub (sP (sP (sP (sQ sR))))) (fun w hS => run_ldV ((hn.at (by omega) (by omega)).names_.sl.hp hS) underlying25 rfl rfl (hS.cell (i := 0) rfl rfl)) ?_
   refine A1 9 ?_
   refine AO.callT rfl gnone rfl (c_spell_reader_places _ _ _ _ _ _ _ _ _ hf.names.sl (hn.at h0 ‹k < _›).names_.sl (hH28.perm (((pC ((pC ((pC pR).trans pS)).trans pS)).trans pS).trans (pC pR)))) (run_call3 call44 rfl rfl rfl) (fun u w' ⟨_, _, _, _, h⟩ => (h.sub (sQ sR))) ?_
   rintro _ w34 ⟨y31, s32, rfl, e33, h35⟩
   have hH36 := h35.perm (((pC pR).trans pS).trans (pC (((pC pR).trans pS).trans (pC (((pC pR).trans pS).trans (pC pR))))))
   refine A1 10 ?_
   refine AO.callP rfl gnone rfl hH36 (sP (sP (sP (sQ sR)))) (c_grid_Rule _ _ _  _ (hT.hp hH36)) (run_call3 call89 rfl rfl rfl) ?_
   intro w37 hH38
   refine AT 11 rfl (hH38.sub (sP (sP (sP (sQ sR))))) (fun w hS => run_orU rfl rfl) ?_
   refine AT 12 rfl (hH38.sub (sP (sP (sP (sQ sR))))) (fun w hS => aV (U _) rfl) ?_
   refine AD ?_
   refine CW.region ?_
   refine V (run_add e14_7 rfl (by omega)) ?_
   refine V (mV (I _) rfl) ?_
   refine RL.nil ?_
   refine ⟨(k + 1, _, _), ?_, fr7.u4.u4.u4.u4.u4.u4.u1.u1.u1, (hH38.sub (sQ sR)), rfl, (congrArg I (by first | rfl | omega)), ?_, ?_, ?_⟩
   ·((try dsimp only); omega)
   ·omega
   ·omega
   ·exact ri_next h0 ‹k < _› hm ‹_› ‹_›
 ·refine CW.exit (id := 0) rfl ?_
  refine SR ?_
  refine V (run_move e7_7) ?_
  refine V (aV (U _) rfl) ?_
  refine RL.nil ?_
  refine CW.ret ?_
  exact out1 Tryz.results45 rfl ⟨_, s1, rfl, by first | exact ri_no h0 ‹k < _› hm ‹_› | exact ri_end ‹_› hm, Hp.conv ((hH7.perm (((pC ((pC pR).trans pS)).trans pS).trans (pC pR))).sub (sP (sQ (sQ sR)))) (by rfl)⟩

theorem c_spell_kind (f : Fac) (w : World) : Calls Tryz.prog 42 #[.agg (facC f)] w (Pure (I (kindN f.fc)) w) := by
 refine enter Tryz.func42 rfl Tryz.ntmps42 rfl ?_
 have hH := Hp.start w
 refine SR ?_
 refine RL.new rfl hH (f := fun b => (.pointer (some ⟨b, 0, none⟩))) (run_box (v := .agg _) rfl) ?_
 intro b3 w1 hH2
 refine V (aV (I 0) rfl) ?_
 refine RL.nil ?_
 refine CW.seq ?_
 refine SR ?_
 refine V (fA underlying50 0 rfl sizeOf3 rfl) ?_
 refine V (run_ld underlying3 rfl rfl (hH2.cell (i := 0) rfl (v := I _) rfl)) ?_
 refine RL.nil ?_
 refine CW.block ?_
 refine SR ?_
 refine V (run_eql rfl rfl) ?_
 refine V (aV (B _) rfl) ?_
 refine RL.nil ?_
 refine CW.condP rfl (fun h5 => ?_) (fun h5 => ?_)
 ·refine SR ?_
  refine V (aV (I 3) rfl) ?_
  refine RL.nil ?_
  refine CW.ret ?_
  refine outP1 Tryz.results42 (congrArg I ?_) hH2.below
  (simp [kindN, Fac.fc, *])
 ·refine SR ?_
  refine V (run_eql rfl rfl) ?_
  refine V (aV (B _) rfl) ?_
  refine RL.nil ?_
  refine CW.condP rfl (fun h7 => ?_) (fun h7 => ?_)
  ·refine SR ?_
   refine V (aV (I 5) rfl) ?_
   refine RL.nil ?_
   refine CW.ret ?_
   refine outP1 Tryz.results42 (congrArg I ?_) hH2.below
   (simp [kindN, Fac.fc, *])
  ·refine CW.skip ?_
   refine SR ?_
   refine V (aV (I 2) rfl) ?_
   refine RL.nil ?_
   refine CW.ret ?_
   refine outP1 Tryz.results42 (congrArg I ?_) hH2.below
   (simp [kindN, Fac.fc, *])

theorem c_spell_reader_word (W0 : World) (b : Nat) (s : RS) (L : List Ent) (f : Fac) (n : NodeR) (w : World) (hT : Tab W0) (hf : FacV (Kw W0) f) (hn : NodeV (Kw W0) n) (hH : Hp W0 w (.blk b (.cells #[B s.1, I s.2] 58 (0, 0)) :: L)) : Calls Tryz.prog 23 #[.pointer (some ⟨b, 0, none⟩), .agg (facC f), .agg (nodeL n).toArray] w (Ret fun u w' => ∃ (y : BitVec 64) (s' : RS), u = U y ∧ (okR (wordG f.fc n.nd) s y s') ∧ Hp W0 w' (.blk b (.cells #[B s'.1, I s'.2] 58 (0, 0)) :: L)) := by
 refine enter Tryz.func23 rfl Tryz.ntmps23 rfl ?_
 refine SR ?_
 refine RL.new rfl hH (f := fun b => (.pointer (some ⟨b, 0, none⟩))) (run_box (v := .agg _) rfl) ?_
 intro b3 w1 hH2
 refine RL.new rfl hH2 (f := fun b => (.pointer (some ⟨b, 0, none⟩))) (run_box (v := .agg _) rfl) ?_
 intro b6 w4 hH5
 refine V (aV (U 0#64) rfl) ?_
 refine RL.nil ?_
 refine CW.seq ?_
 refine CW.seq ?_
 refine CW.regionD (by kernel_rfl) hH5 ?_
 intro w7 hH8
 refine AT 0 rfl (hH8.sub sR) (fun w hS => fA underlying28 0 rfl sizeOf3 rfl) ?_
 refine AT 1 rfl (hH8.sub sR) (fun w hS => run_ld underlying3 rfl rfl (hS.cell (i := 0) rfl (v := I _) rfl)) ?_
 refine AT 2 rfl (hH8.sub sR) (fun w hS => run_ldFac underlying50 rfl rfl rfl (hS.blk (i := 1) rfl)) ?_
 refine A1 3 ?_
 refine AO.callP rfl gnone rfl hH8 sR (c_spell_kind _  _) (run_call1 call42 rfl) ?_
 intro w9 hH10
 refine AT 4 rfl (hH10.sub sR) (fun w hS => run_neq rfl rfl) ?_
 refine AD ?_
 refine CW.condP rfl (fun h12 => ?_) (fun h12 => ?_)
 ·refine SR ?_
  refine V (mV (Pn _ _) rfl) ?_
  refine V (fA underlying28 1 rfl sizeOf3 rfl) ?_
  refine V (run_ld underlying3 rfl rfl (hH10.cell (i := 0) rfl (v := I _) rfl)) ?_
  refine RL.callT rfl (c_spell_reader_fail _ _ _ _ _ _ (hH10.perm (((pC ((pC pR).trans pS)).trans pS).trans (pC pR)))) (run_call2 call43 rfl rfl) ?_
  rintro _ w18 ⟨_, _, rfl, ⟨rfl, rfl⟩, h19⟩
  have hH20 := h19.perm (((pC pR).trans pS).trans (pC (((pC pR).trans pS).trans (pC pR))))
  refine V (aV (U _) rfl) ?_
  refine RL.nil ?_
  refine CW.ret ?_
  exact out1 Tryz.results23 rfl ⟨_, (failF s n.place), rfl, by first | exact wd_no ‹_› | exact wd_2 ‹_› ‹_› ‹_› | exact wd_3 ‹_› ‹_› ‹_› ‹_› | exact wd_1 ‹_› ‹_› ‹_› ‹_›, Hp.conv ((hH20.perm (((pC ((pC pR).trans pS)).trans pS).trans (pC pR))).sub (sP (sQ (sQ sR)))) (by rfl)⟩
 ·refine CW.skip ?_
  refine CW.seq ?_
  refine SR ?_
  refine V (fA underlying50 0 rfl sizeOf3 rfl) ?_
  refine V (run_ld underlying3 rfl rfl (hH10.cell (i := 1) rfl (v := I _) rfl)) ?_
  refine RL.nil ?_
  refine CW.block ?_
  refine SR ?_
  refine V (run_eql rfl rfl) ?_
  refine V (aV (B _) rfl) ?_
  refine RL.nil ?_
  refine CW.condP rfl (fun h22 => ?_) (fun h22 => ?_)
  ·refine SR ?_
   refine V (mV (Pn _ _) rfl) ?_
   refine V (fA underlying50 1 rfl sizeOf45 rfl) ?_
   refine V (run_ld underlying45 rfl rfl (hH10.cell (i := 1) rfl rfl)) ?_
   refine V (fA underlying28 3 rfl sizeOf25 rfl) ?_
   refine V (run_ldV (hn.names_.sl.hp hH10) underlying25 rfl rfl (hH10.cell (i := 0) rfl rfl)) ?_
   refine RL.callT rfl (c_spell_reader_places _ _ _ _ _ _ _ _ _ hf.names.sl hn.names_.sl (hH10.perm (((pC ((pC pR).trans pS)).trans pS).trans (pC pR)))) (run_call3 call44 rfl rfl rfl) ?_
   rintro _ w28 ⟨y25, s26, rfl, e27, h29⟩
   have hH30 := h29.perm (((pC pR).trans pS).trans (pC (((pC pR).trans pS).trans (pC pR))))
   refine V (aV (U _) rfl) ?_
   refine RL.nil ?_
   refine CW.ret ?_
   exact out1 Tryz.results23 rfl ⟨_, s26, rfl, by first | exact wd_no ‹_› | exact wd_2 ‹_› ‹_› ‹_› | exact wd_3 ‹_› ‹_› ‹_› ‹_› | exact wd_1 ‹_› ‹_› ‹_› ‹_›, Hp.conv ((hH30.perm (((pC ((pC pR).trans pS)).trans pS).trans (pC pR))).sub (sP (sQ (sQ sR)))) (by rfl)⟩
  ·refine SR ?_
   refine V (run_eql rfl rfl) ?_
   refine V (aV (B _) rfl) ?_
   refine RL.nil ?_
   refine CW.condP rfl (fun h32 => ?_) (fun h32 => ?_)
   ·refine SR ?_
    refine V (mV (Pn _ _) rfl) ?_
    refine V (run_ldFac underlying50 rfl rfl rfl (hH10.blk (i := 1) rfl)) ?_
    refine V (run_ldA (cs := nodeL _) underlying28 rfl rfl rfl (rangeAt_cells (hH10.blk (i := 0) rfl))) ?_
    refine RL.callT rfl (c_spell_reader_rules _ _ _ _ _ _ _ hT hf hn (hH10.perm (((pC ((pC pR).trans pS)).trans pS).trans (pC pR)))) (run_call3 call45 rfl rfl rfl) ?_
    rintro _ w38 ⟨y35, s36, rfl, e37, h39⟩
    have hH40 := h39.perm (((pC pR).trans pS).trans (pC (((pC pR).trans pS).trans (pC pR))))
    refine V (aV (U _) rfl) ?_
    refine RL.nil ?_
    refine CW.ret ?_
    exact out1 Tryz.results23 rfl ⟨_, s36, rfl, by first | exact wd_no ‹_› | exact wd_2 ‹_› ‹_› ‹_› | exact wd_3 ‹_› ‹_› ‹_› ‹_› | exact wd_1 ‹_› ‹_› ‹_› ‹_›, Hp.conv ((hH40.perm (((pC ((pC pR).trans pS)).trans pS).trans (pC pR))).sub (sP (sQ (sQ sR)))) (by rfl)⟩
   ·refine CW.skip ?_
    refine SR ?_
    refine V (mV (Pn _ _) rfl) ?_
    refine V (run_ldFac underlying50 rfl rfl rfl (hH10.blk (i := 1) rfl)) ?_
    refine V (run_ldA (cs := nodeL _) underlying28 rfl rfl rfl (rangeAt_cells (hH10.blk (i := 0) rfl))) ?_
    refine RL.callT rfl (c_spell_reader_point _ _ _ _ _ _ _ hT hf hn (hH10.perm (((pC ((pC pR).trans pS)).trans pS).trans (pC pR)))) (run_call3 call46 rfl rfl rfl) ?_
    rintro _ w46 ⟨y43, s44, rfl, e45, h47⟩
    have hH48 := h47.perm (((pC pR).trans pS).trans (pC (((pC pR).trans pS).trans (pC pR))))
    refine V (aV (U _) rfl) ?_
    refine RL.nil ?_
    refine CW.ret ?_
    exact out1 Tryz.results23 rfl ⟨_, s44, rfl, by first | exact wd_no ‹_› | exact wd_2 ‹_› ‹_› ‹_› | exact wd_3 ‹_› ‹_› ‹_› ‹_› | exact wd_1 ‹_› ‹_› ‹_› ‹_›, Hp.conv ((hH48.perm (((pC ((pC pR).trans pS)).trans pS).trans (pC pR))).sub (sP (sQ (sQ sR)))) (by rfl)⟩

theorem c_spell_parts (K : Vu) (s : Shp) (n : NodeR) (w : World) (hK : Le K (Kw w)) (hs : ShpV K s) (hn : NodeV K n) : Calls Tryz.prog 20 #[.agg (shpC s), .agg (nodeL n).toArray] w (PureF K (fun K' u => ∃ v, u = .tuple #[v, B (partB s n)] ∧ SlV K' v 5 (partsR s n).length ((partsR s n).flatMap nodeL)) w) := by
 have hm1 := hn.kids_.small
 have hm2 := hs.facs.small
 unfold maxLen at hm1 hm2
 refine enter Tryz.func20 rfl Tryz.ntmps20 rfl ?_
 have hH := Hp.start w
 refine SR ?_
 refine RL.new rfl hH (f := fun b => (.pointer (some ⟨b, 0, none⟩))) (run_box (v := .agg _) rfl) ?_
 intro b3 w1 hH2
 refine RL.new rfl hH2 (f := fun b => (.pointer (some ⟨b, 0, none⟩))) (run_box (v := .agg _) rfl) ?_
 intro b6 w4 hH5
 refine V (aV (.slice none 0 0) rfl) ?_
 refine V (aV (B false) rfl) ?_
 refine RL.nil ?_
 refine CW.seq ?_
 refine SR ?_
 refine V (fA underlying24 0 rfl sizeOf4 rfl) ?_
 refine V (run_ld underlying4 rfl rfl (hH5.cell (i := 1) rfl (v := B _) rfl)) ?_
 refine V (run_not rfl) ?_
 refine RL.nil ?_
 refine CW.cond rfl (fun h9 => ?_) (fun h9 => ?_)
 ·refine SR ?_
  refine V (run_ldA (cs := nodeL _) underlying28 rfl rfl rfl (rangeAt_cells (hH5.blk (i := 0) rfl))) ?_
  refine RL.new rfl hH5 (f := fun b => (.slice (some ⟨b, 0, none⟩) 1 1)) (run_mkRecs nodeL_len underlying26 rfl rfl rfl (l := [n]) rfl (by decide) (by decide) rfl) ?_
  intro b12 w10 hH11
  refine V (run_assign (by conv => lhs; whnf)) ?_
  refine V (aV (B true) rfl) ?_
  refine RL.nil ?_
  refine CW.ret ?_
  have hH13 : Hp _ w10 (_ :: _ :: [Ent.blk b12 (.cells ([n].flatMap nodeL).toArray 28 (0, 0))]) := Hp.zin0 (Z := [Ent.blk b12 (.cells ([n].flatMap nodeL).toArray 28 (0, 0))]) (L := [_, _]) hH11
  refine out2 Tryz.results20 (x := .slice (some ⟨b12, 0, none⟩) 1 1) (y := B true) rfl rfl ⟨[Ent.blk b12 (.cells ([n].flatMap nodeL).toArray 28 (0, 0))], (hH13.sub (sQ (sQ sR))), .slice (some ⟨b12, 0, none⟩) 1 1, ?_, ?_⟩
  ·simp [partB, *]
  ·rw [← partsR_1 (nt ‹(!s.tuple) = true›)]; exact slv_blk (c := [n].flatMap nodeL) (List.mem_cons_self ..) (flat_length nodeL_len _) (by simp [maxLen])
 ·refine CW.skip ?_
  refine CW.seq ?_
  refine CW.regionD (by kernel_rfl) hH5 ?_
  intro w14 hH15
  refine AT 0 rfl (hH15.sub sR) (fun w hS => fA underlying28 4 rfl sizeOf26 rfl) ?_
  refine AT 1 rfl (hH15.sub sR) (fun w hS => run_ldV ((NodeV.mono hK hn).kids_.sl.hp hS) underlying26 rfl rfl (hS.cell (i := 0) rfl rfl)) ?_
  refine AT 2 rfl (hH15.sub sR) (fun w hS => fA underlying28 0 rfl sizeOf3 rfl) ?_
  refine AT 3 rfl (hH15.sub sR) (fun w hS => run_ld underlying3 rfl rfl (hS.cell (i := 0) rfl (v := I _) rfl)) ?_
  refine AT 4 rfl (hH15.sub sR) (fun w hS => run_eql rfl rfl) ?_
  refine AT 5 rfl (hH15.sub sR) (fun w hS => mV (B _) rfl) ?_
  refine AN.splitP (dj := 16) rfl (fun h17 => ?_) (fun h17 => ?_)
  ·refine AG 6 rfl rfl (bT h17) (hH15.sub sR) (fun w hS => fA underlying28 4 rfl sizeOf26 rfl) ?_
   refine AG 7 rfl rfl (bT h17) (hH15.sub sR) (fun w hS => run_ldV ((NodeV.mono hK hn).kids_.sl.hp hS) underlying26 rfl rfl (hS.cell (i := 0) rfl rfl)) ?_
   refine AG 8 rfl rfl (bT h17) (hH15.sub sR) (fun w hS => run_lenSl ((NodeV.mono hK hn).kids_.sl.hp hS) rfl underlying26 rfl) ?_
   refine AG 9 rfl rfl (bT h17) (hH15.sub sR) (fun w hS => fA underlying24 1 rfl sizeOf22 rfl) ?_
   refine AG 10 rfl rfl (bT h17) (hH15.sub sR) (fun w hS => run_ld underlying22 rfl rfl (hS.cell (i := 1) rfl rfl)) ?_
   refine AG 11 rfl rfl (bT h17) (hH15.sub sR) (fun w hS => run_lenSl ((hs.mono hK).facs.sl.hp hS) rfl underlying22 rfl) ?_
   refine AG 12 rfl rfl (bT h17) (hH15.sub sR) (fun w hS => run_eql rfl rfl) ?_
   refine AT 13 rfl (hH15.sub sR) (fun w hS => run_pickT (bT h17) (v := B _) rfl) ?_
   refine AT 14 rfl (hH15.sub sR) (fun w hS => run_assign (by conv => lhs; whnf)) ?_
   refine AT 15 rfl (hH15.sub sR) (fun w hS => aV (B _) rfl) ?_
   refine AD ?_
   refine CW.ret ?_
   refine out2 Tryz.results20 (x := n.kv) (y := B _) rfl rfl ⟨[], (hH15.sub (sQ (sQ sR))), n.kv, ?_, ?_⟩
   ·(simp [partB, *]; try omega)
   ·rw [← partsR_2 (nf ‹(!s.tuple) = false›)]; exact hn.kids_.mono (Le.z _ _)
  ·refine AK 6 rfl rfl (bF h17) (hH15.sub sR) ?_
   refine AK 7 rfl rfl (bF h17) (hH15.sub sR) ?_
   refine AK 8 rfl rfl (bF h17) (hH15.sub sR) ?_
   refine AK 9 rfl rfl (bF h17) (hH15.sub sR) ?_
   refine AK 10 rfl rfl (bF h17) (hH15.sub sR) ?_
   refine AK 11 rfl rfl (bF h17) (hH15.sub sR) ?_
   refine AK 12 rfl rfl (bF h17) (hH15.sub sR) ?_
   refine AT 13 rfl (hH15.sub sR) (fun w hS => run_pickF (bF h17) (v := B false) rfl) ?_
   refine AT 14 rfl (hH15.sub sR) (fun w hS => run_assign (by conv => lhs; whnf)) ?_
   refine AT 15 rfl (hH15.sub sR) (fun w hS => aV (B _) rfl) ?_
   refine AD ?_
   refine CW.ret ?_
   refine out2 Tryz.results20 (x := n.kv) (y := B _) rfl rfl ⟨[], (hH15.sub (sQ (sQ sR))), n.kv, ?_, ?_⟩
   ·(simp [partB, *]; try omega)
   ·rw [← partsR_2 (nf ‹(!s.tuple) = false›)]; exact hn.kids_.mono (Le.z _ _)

end Go.Proofs.YtningfhcklabmaaGreatDoor.W
