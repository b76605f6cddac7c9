/-
  The walks of the functions that the laws of this seat reach, part 4: each returns what its plain counterpart tells, and turns nothing that was there.
-/
import Derived.Test.YtiaifdnlkdcbiaaDoorProg
import Derived.Test.YtiaifdnlkdcbiaaDoorEnv
import Derived.Test.YtiaifdnlkdcbiaaDoorPlain
import Derived.Test.YtiaifdnlkdcbiaaDoorBase
import Derived.Test.YtiaifdnlkdcbiaaDoorOrd
import Derived.Test.YtiaifdnlkdcbiaaDoorRel
import Derived.Test.YtiaifdnlkdcbiaaDoorClo
import Derived.Test.YtiaifdnlkdcbiaaDoorCov
import Derived.Test.YtiaifdnlkdcbiaaDoorArr
import Derived.Test.YtiaifdnlkdcbiaaDoorHas
import Derived.Test.YtiaifdnlkdcbiaaDoorGrd
import Derived.Test.YtiaifdnlkdcbiaaDoorStr
import Derived.Test.YtiaifdnlkdcbiaaDoorVu
import Derived.Test.YtiaifdnlkdcbiaaDoorShp
import Derived.Test.YtiaifdnlkdcbiaaDoorShl
import Derived.Test.YtiaifdnlkdcbiaaDoorShq
import Derived.Test.YtiaifdnlkdcbiaaDoorShr
import Derived.Test.YtiaifdnlkdcbiaaDoorCut
import Derived.Test.YtiaifdnlkdcbiaaDoorRec
import Derived.Test.YtiaifdnlkdcbiaaDoorScp
import Derived.Test.YtiaifdnlkdcbiaaDoorScq
import Derived.Test.YtiaifdnlkdcbiaaDoorScj
import Derived.Test.YtiaifdnlkdcbiaaDoorJdg
import Derived.Test.YtiaifdnlkdcbiaaDoorFlt
import Derived.Test.YtiaifdnlkdcbiaaDoorAdd
import Derived.Test.YtiaifdnlkdcbiaaDoorRgt
import Derived.Test.YtiaifdnlkdcbiaaDoorAlv
import Derived.Test.YtiaifdnlkdcbiaaDoorKee
import Derived.Test.YtiaifdnlkdcbiaaDoorMin
import Derived.Test.YtiaifdnlkdcbiaaDoorScopeLivesPacesC
namespace Go.Proofs.YtiaifdnlkdcbiaaDoor.W
open Go Go.RowKit Go.Proofs.YtiaifdnlkdcbiaaDoor.E Go.Proofs.YtiaifdnlkdcbiaaDoor.M
set_option linter.unusedVariables false
set_option linter.unusedSimpArgs false
set_option maxRecDepth 100000
open Tryd

set_option maxHeartbeats 4000000 in
theorem c_clearanceref12_Right (c : CmdR) (w : World) (hc : CmdV (Kw w) c) : Calls Tryd.prog 18 #[.agg (cmdL c).toArray] w (Ret fun u w' => (∃ b : Bool, u = B b ∧ (b = true → CmdOk c)) ∧ Below w.heap.size w w') := by
 have hm1 := hc.names.sl.small
 have hm2 := hc.pairs.sl.small
 unfold maxLen at hm1 hm2
 refine enter Tryd.func18 rfl Tryd.ntmps18 rfl ?_
 have hH := Hp.start w
 refine SR ?_
 refine RL.new rfl hH (f := fun b => (.pointer (some ⟨b, 0, none⟩))) (run_box (v := .agg _) rfl) ?_
 intro b3 w1 hH2
 refine V (aV (B false) rfl) ?_
 refine RL.nil ?_
 refine CW.seq ?_
 refine SR ?_
 refine V (fA underlying45 0 rfl sizeOf3 rfl) ?_
 refine V (run_ld underlying3 rfl rfl (hH2.cell (i := 0) rfl (v := I _) rfl)) ?_
 refine V (run_lss rfl rfl) ?_
 refine V (mV (B _) rfl) ?_
 refine RL.splitP (dj := 9) rfl (fun h5 => ?_) (fun h5 => ?_)
 ·refine RL.gF rfl rfl (bT h5) rfl ?_
  refine RL.gF rfl rfl (bT h5) rfl ?_
  refine RL.gF rfl rfl (bT h5) rfl ?_
  refine V (run_pickT (bT h5) (v := B true) rfl) ?_
  refine V (mV (B _) rfl) ?_
  refine RL.gF rfl rfl rfl rfl ?_
  refine RL.gF rfl rfl rfl rfl ?_
  refine RL.gF rfl rfl rfl rfl ?_
  refine RL.gF rfl rfl rfl rfl ?_
  refine V (run_pickT rfl (v := B true) rfl) ?_
  refine RL.nil ?_
  refine CW.condT rfl ?_
  refine SR ?_
  refine V (aV (B false) rfl) ?_
  refine RL.nil ?_
  refine CW.ret ?_
  exact out1 Tryd.results18 rfl ⟨⟨_, rfl, fun h => by first | (cases h; done) | exact hok⟩, hH2.below⟩
 ·refine RL.gT rfl (bF h5) ?_
  refine V (fA underlying45 0 rfl sizeOf3 rfl) ?_
  refine RL.gT rfl (bF h5) ?_
  refine V (run_ld underlying3 rfl rfl (hH2.cell (i := 0) rfl (v := I _) rfl)) ?_
  refine RL.gT rfl (bF h5) ?_
  refine V (run_gtr rfl rfl) ?_
  refine V (run_pickF (bF h5) (v := B _) rfl) ?_
  refine V (mV (B _) rfl) ?_
  refine RL.splitP (dj := 14) rfl (fun h7 => ?_) (fun h7 => ?_)
  ·refine RL.gF rfl rfl (bT h7) rfl ?_
   refine RL.gF rfl rfl (bT h7) rfl ?_
   refine RL.gF rfl rfl (bT h7) rfl ?_
   refine RL.gF rfl rfl (bT h7) rfl ?_
   refine V (run_pickT (bT h7) (v := B true) rfl) ?_
   refine RL.nil ?_
   refine CW.condT rfl ?_
   refine SR ?_
   refine V (aV (B false) rfl) ?_
   refine RL.nil ?_
   refine CW.ret ?_
   exact out1 Tryd.results18 rfl ⟨⟨_, rfl, fun h => by first | (cases h; done) | exact hok⟩, hH2.below⟩
  ·refine RL.gT rfl (bF h7) ?_
   refine V (fA underlying45 4 rfl sizeOf39 rfl) ?_
   refine RL.gT rfl (bF h7) ?_
   refine V (run_ldV (hc.names.sl.hp hH2) underlying39 rfl rfl (hH2.cell (i := 0) rfl rfl)) ?_
   refine RL.gT rfl (bF h7) ?_
   refine RL.callP rfl hH2 (c_clearanceref12_texts _ c.names _ (hc.names.sl.hp hH2)) (run_call1 call40 rfl) ?_
   intro w8 hH9
   refine RL.gT rfl (bF h7) ?_
   refine V (run_not rfl) ?_
   refine V (run_pickF (bF h7) (v := B _) rfl) ?_
   refine RL.nil ?_
   refine CW.cond rfl (fun h12 => ?_) (fun h12 => ?_)
   ·refine SR ?_
    refine V (aV (B false) rfl) ?_
    refine RL.nil ?_
    refine CW.ret ?_
    exact out1 Tryd.results18 rfl ⟨⟨_, rfl, fun h => by first | (cases h; done) | exact hok⟩, hH9.below⟩
   ·refine CW.skip ?_
    refine CW.seq ?_
    refine SR ?_
    refine V (aV (I 0) rfl) ?_
    refine RL.nil ?_
    refine CW.block ?_
    refine CW.loop (G := (Int)) (fun (k : Int) s' w' => (Fr [2, 3, 20, 21, 22, 23, 24, 25, 26, 27, 28, 29, 30, 31, 32, 33, 34, 35, 36, 37, 38, 39, 40, 41] _ s') ∧ (Hp w w' _) ∧ (s' 3 = I k) ∧ (0 ≤ k) ∧ (k ≤ c.pairs.length)) (fun (k : Int) => (c.pairs.length - k).toNat) (0) ⟨Fr.refl _ _, hH9, rfl, (by omega), (by omega)⟩ ?_
    rintro k sg13 w13 ⟨fr13, hH13, e3_13, h0, hk⟩
    have e1_13 : sg13 1 = Pn _ _ := (fr13 1 rfl).trans rfl
    refine CW.seq ?_
    refine SR ?_
    refine V (run_move e3_13) ?_
    refine V (fA underlying45 5 rfl sizeOf40 e1_13) ?_
    refine V (run_ldV (hc.pairs.sl.hp hH13) underlying40 rfl rfl (hH13.cell (i := 0) rfl rfl)) ?_
    refine V (run_lenSl (hc.pairs.sl.hp hH13) rfl underlying40 rfl) ?_
    refine V (run_lss rfl rfl) ?_
    refine RL.nil ?_
    refine CW.condP rfl (fun h15 => ?_) (fun h15 => ?_)
    ·refine CW.skip ?_
     refine CW.seq ?_
     refine CW.block ?_
     refine CW.seq ?_
     refine CW.regionD (by kernel_rfl) hH13 ?_
     intro w16 hH17
     refine AT 0 rfl (hH17.sub sR) (fun w hS => fA underlying45 5 rfl sizeOf40 e1_13) ?_
     refine AT 1 rfl (hH17.sub sR) (fun w hS => run_ldV (hc.pairs.sl.hp hS) underlying40 rfl rfl (hS.cell (i := 0) rfl rfl)) ?_
     refine AT 2 rfl (hH17.sub sR) (fun w hS => run_move e3_13) ?_
     refine AT 3 rfl (hH17.sub sR) (fun w hS => run_indexAddrS (hc.pairs.sl.hp hS) underlying40 sizeOf79 rfl rfl (by omega)) ?_
     refine AT 4 rfl (hH17.sub sR) (fun w hS => run_indexAddrA underlying79 sizeOf38 rfl rfl (by omega)) ?_
     refine AT 5 rfl (hH17.sub sR) (fun w hS => run_ldEA (dv := pw0) (off := 0) (cs := wdL _) pwL_len (hc.pairs.sl.hp hS) underlying38 rfl rfl rfl (by omega) (subAt rfl)) ?_
     refine AT 6 rfl (hH17.sub sR) (fun w hS => fA underlying45 5 rfl sizeOf40 e1_13) ?_
     refine AT 7 rfl (hH17.sub sR) (fun w hS => run_ldV (hc.pairs.sl.hp hS) underlying40 rfl rfl (hS.cell (i := 0) rfl rfl)) ?_
     refine AT 8 rfl (hH17.sub sR) (fun w hS => run_move e3_13) ?_
     refine AT 9 rfl (hH17.sub sR) (fun w hS => run_indexAddrS (hc.pairs.sl.hp hS) underlying40 sizeOf79 rfl rfl (by omega)) ?_
     refine AT 10 rfl (hH17.sub sR) (fun w hS => run_indexAddrA underlying79 sizeOf38 rfl rfl (by omega)) ?_
     refine AT 11 rfl (hH17.sub sR) (fun w hS => run_ldEA (dv := pw0) (off := 2) (cs := wdL _) pwL_len (hc.pairs.sl.hp hS) underlying38 rfl rfl rfl (by omega) (subAt rfl)) ?_
     refine A1 12 ?_
     refine AO.new rfl gnone rfl hH17 sR (f := fun b => .slice (some ⟨b, 0, none⟩) 2 2) (run_mkRecs wdL_len underlying39 rfl rfl rfl (l := [(c.pairs.getD k.toNat pw0).1, (c.pairs.getD k.toNat pw0).2]) rfl (by decide) (by decide) rfl) ?_
     intro b20 w18 hH19
     refine A1 13 ?_
     refine AO.callP rfl gnone rfl hH19 (sQ sR) (c_clearanceref12_texts _ [(c.pairs.getD k.toNat pw0).1, (c.pairs.getD k.toNat pw0).2] _ (Hp.slFlat wdL_len hH19 (i := 0) (l := [(c.pairs.getD k.toNat pw0).1, (c.pairs.getD k.toNat pw0).2]) rfl (by simp [maxLen]))) (run_call1 call40 rfl) ?_
     intro w21 hH22
     refine AT 14 rfl (hH22.sub (sQ sR)) (fun w hS => run_not rfl) ?_
     refine AD ?_
     refine CW.cond rfl (fun h25 => ?_) (fun h25 => ?_)
     ·refine SR ?_
      refine V (aV (B false) rfl) ?_
      refine RL.nil ?_
      refine CW.ret ?_
      exact out1 Tryd.results18 rfl ⟨⟨_, rfl, fun h => by first | (cases h; done) | exact hok⟩, hH22.below⟩
     ·refine CW.skip ?_
      refine CW.region ?_
      refine V (run_move e3_13) ?_
      refine V (run_add rfl rfl (by omega)) ?_
      refine V (aV (I _) rfl) ?_
      refine RL.nil ?_
      refine ⟨k + 1, ?_, fr13.u4.u4.u4.u4.u4.u1.u1.u1, (hH22.sub (sQ sR)), (congrArg I (by first | rfl | omega)), ?_, ?_⟩
      ·((try dsimp only); omega)
      ·omega
      ·omega
    ·refine CW.exit (id := 0) rfl ?_
     refine CW.seq ?_
     refine CW.regionD (by kernel_rfl) hH13 ?_
     intro w26 hH27
     refine AT 0 rfl (hH27.sub sR) (fun w hS => fA underlying45 0 rfl sizeOf3 e1_13) ?_
     refine AT 1 rfl (hH27.sub sR) (fun w hS => run_ld underlying3 rfl rfl (hS.cell (i := 0) rfl (v := I _) rfl)) ?_
     refine AT 3 rfl (hH27.sub sR) (fun w hS => fA underlying45 0 rfl sizeOf3 e1_13) ?_
     refine AT 4 rfl (hH27.sub sR) (fun w hS => run_ld underlying3 rfl rfl (hS.cell (i := 0) rfl (v := I _) rfl)) ?_
     refine A1 2 ?_
     refine AO.callP rfl gnone rfl hH27 sR (c_clearanceref12_Has _ _  _) (run_call2 call41 rfl (show _ = Value.int .u8 102 from rfl)) ?_
     intro w28 hH29
     refine A1 5 ?_
     refine AO.callP rfl gnone rfl hH29 sR (c_clearanceref12_Has _ _  _) (run_call2 call41 rfl (show _ = Value.int .u8 119 from rfl)) ?_
     intro w31 hH32
     refine AT 6 rfl (hH32.sub sR) (fun w hS => aV (B _) rfl) ?_
     refine AT 7 rfl (hH32.sub sR) (fun w hS => aV (B _) rfl) ?_
     refine AD ?_
     refine CW.seq ?_
     refine CW.seq ?_
     refine CW.regionD (by kernel_rfl) hH32 ?_
     intro w34 hH35
     refine AT 0 rfl (hH35.sub sR) (fun w hS => fA underlying45 0 rfl sizeOf3 e1_13) ?_
     refine AT 1 rfl (hH35.sub sR) (fun w hS => run_ld underlying3 rfl rfl (hS.cell (i := 0) rfl (v := I _) rfl)) ?_
     refine AT 3 rfl (hH35.sub sR) (fun w hS => fA underlying45 2 rfl sizeOf38 e1_13) ?_
     refine AT 4 rfl (hH35.sub sR) (fun w hS => fA underlying38 0 rfl sizeOf9 rfl) ?_
     refine AT 5 rfl (hH35.sub sR) (fun w hS => run_ld underlying9 rfl rfl (hS.cell (i := 0) rfl (v := .string _) rfl)) ?_
     refine A1 2 ?_
     refine AO.callP rfl gnone rfl hH35 sR (c_clearanceref12_Has _ _  _) (run_call2 call41 rfl (show _ = Value.int .u8 110 from rfl)) ?_
     intro w36 hH37
     refine A1 6 ?_
     refine AO.callP rfl gnone rfl hH37 sR (c_clearanceref02_Right _  _) (run_call1 call42 rfl) ?_
     intro w39 hH40
     refine AT 7 rfl (hH40.sub sR) (fun w hS => run_neqB underlying4 rfl rfl) ?_
     refine AT 8 rfl (hH40.sub sR) (fun w hS => mV (B _) rfl) ?_
     refine AN.split (dj := 56) rfl (fun h43 => ?_) (fun h43 => ?_)
     ·refine AK 9 rfl rfl (bR (c := true) h43) (hH40.sub sR) ?_
      refine AK 10 rfl rfl (bR (c := true) h43) (hH40.sub sR) ?_
      refine AK 11 rfl rfl (bR (c := true) h43) (hH40.sub sR) ?_
      refine AK 12 rfl rfl (bR (c := true) h43) (hH40.sub sR) ?_
      refine AK 13 rfl rfl (bR (c := true) h43) (hH40.sub sR) ?_
      refine AU 14 rfl rfl rfl (hH40.sub sR) ?_
      refine AU 15 rfl rfl rfl (hH40.sub sR) ?_
      refine AU 16 rfl rfl rfl (hH40.sub sR) ?_
      refine AU 17 rfl rfl rfl (hH40.sub sR) ?_
      refine AK 18 rfl rfl (bR (c := true) h43) (hH40.sub sR) ?_
      refine AT 19 rfl (hH40.sub sR) (fun w hS => run_pickT (bR (c := true) h43) (v := B true) rfl) ?_
      refine AT 20 rfl (hH40.sub sR) (fun w hS => mV (B _) rfl) ?_
      refine AK 21 rfl rfl rfl (hH40.sub sR) ?_
      refine AK 22 rfl rfl rfl (hH40.sub sR) ?_
      refine AU 23 rfl rfl rfl (hH40.sub sR) ?_
      refine AU 24 rfl rfl rfl (hH40.sub sR) ?_
      refine AU 25 rfl rfl rfl (hH40.sub sR) ?_
      refine AU 26 rfl rfl rfl (hH40.sub sR) ?_
      refine AK 27 rfl rfl rfl (hH40.sub sR) ?_
      refine AT 28 rfl (hH40.sub sR) (fun w hS => run_pickT rfl (v := B true) rfl) ?_
      refine AT 29 rfl (hH40.sub sR) (fun w hS => mV (B _) rfl) ?_
      refine AK 30 rfl rfl rfl (hH40.sub sR) ?_
      refine AK 31 rfl rfl rfl (hH40.sub sR) ?_
      refine AU 32 rfl rfl rfl (hH40.sub sR) ?_
      refine AU 33 rfl rfl rfl (hH40.sub sR) ?_
      refine AU 34 rfl rfl rfl (hH40.sub sR) ?_
      refine AU 35 rfl rfl rfl (hH40.sub sR) ?_
      refine AK 36 rfl rfl rfl (hH40.sub sR) ?_
      refine AT 37 rfl (hH40.sub sR) (fun w hS => run_pickT rfl (v := B true) rfl) ?_
      refine AT 38 rfl (hH40.sub sR) (fun w hS => mV (B _) rfl) ?_
      refine AK 39 rfl rfl rfl (hH40.sub sR) ?_
      refine AK 40 rfl rfl rfl (hH40.sub sR) ?_
      refine AK 41 rfl rfl rfl (hH40.sub sR) ?_
      refine AU 42 rfl rfl rfl (hH40.sub sR) ?_
      refine AU 43 rfl rfl rfl (hH40.sub sR) ?_
      refine AK 44 rfl rfl rfl (hH40.sub sR) ?_
      refine AK 45 rfl rfl rfl (hH40.sub sR) ?_
      refine AU 46 rfl rfl rfl (hH40.sub sR) ?_
      refine AU 47 rfl rfl rfl (hH40.sub sR) ?_
      refine AU 48 rfl rfl rfl (hH40.sub sR) ?_
      refine AU 49 rfl rfl rfl (hH40.sub sR) ?_
      refine AK 50 rfl rfl rfl (hH40.sub sR) ?_
      refine AT 51 rfl (hH40.sub sR) (fun w hS => run_pickT rfl (v := B true) rfl) ?_
      refine AT 52 rfl (hH40.sub sR) (fun w hS => mV (B _) rfl) ?_
      refine AK 53 rfl rfl rfl (hH40.sub sR) ?_
      refine AK 54 rfl rfl rfl (hH40.sub sR) ?_
      refine AK 55 rfl rfl rfl (hH40.sub sR) ?_
      refine AK 56 rfl rfl rfl (hH40.sub sR) ?_
      refine AK 57 rfl rfl rfl (hH40.sub sR) ?_
      refine AU 58 rfl rfl rfl (hH40.sub sR) ?_
      refine AU 59 rfl rfl rfl (hH40.sub sR) ?_
      refine AU 60 rfl rfl rfl (hH40.sub sR) ?_
      refine AU 61 rfl rfl rfl (hH40.sub sR) ?_
      refine AK 62 rfl rfl rfl (hH40.sub sR) ?_
      refine AT 63 rfl (hH40.sub sR) (fun w hS => run_pickT rfl (v := B true) rfl) ?_
      refine AD ?_
      refine CW.condT rfl ?_
      refine SR ?_
      refine V (aV (B false) rfl) ?_
      refine RL.nil ?_
      refine CW.ret ?_
      exact out1 Tryd.results18 rfl ⟨⟨_, rfl, fun h => by first | (cases h; done) | exact hok⟩, hH40.below⟩
     ·refine AG 9 rfl rfl (bR (c := false) h43) (hH40.sub sR) (fun w hS => fA underlying45 0 rfl sizeOf3 e1_13) ?_
      refine AG 10 rfl rfl (bR (c := false) h43) (hH40.sub sR) (fun w hS => run_ld underlying3 rfl rfl (hS.cell (i := 0) rfl (v := I _) rfl)) ?_
      refine A1 11 ?_
      refine AO.callP rfl (gsome rfl (bR (c := false) h43)) rfl hH40 sR (c_clearanceref12_Has _ _  _) (run_call2 call41 rfl (show _ = Value.int .u8 110 from rfl)) ?_
      intro w44 hH45
      refine AG 12 rfl rfl (bR (c := false) h43) (hH45.sub sR) (fun w hS => run_not rfl) ?_
      refine AG 13 rfl rfl (bR (c := false) h43) (hH45.sub sR) (fun w hS => mV (B _) rfl) ?_
      refine AN.split (dj := 61) rfl (fun h48 => ?_) (fun h48 => ?_)
      ·refine AG 14 rfl rfl (bR (c := true) h48) (hH45.sub sR) (fun w hS => fA underlying45 2 rfl sizeOf38 e1_13) ?_
       refine AG 15 rfl rfl (bR (c := true) h48) (hH45.sub sR) (fun w hS => fA underlying38 0 rfl sizeOf9 rfl) ?_
       refine AG 16 rfl rfl (bR (c := true) h48) (hH45.sub sR) (fun w hS => run_ld underlying9 rfl rfl (hS.cell (i := 0) rfl (v := .string _) rfl)) ?_
       refine AG 17 rfl rfl (bR (c := true) h48) (hH45.sub sR) (fun w hS => run_neqS rfl rfl) ?_
       refine AG 18 rfl rfl (bR (c := false) h43) (hH45.sub sR) (fun w hS => run_pickT (bR (c := true) h48) (v := B _) rfl) ?_
       refine AT 19 rfl (hH45.sub sR) (fun w hS => run_pickF (bR (c := false) h43) (v := B _) rfl) ?_
       refine AT 20 rfl (hH45.sub sR) (fun w hS => mV (B _) rfl) ?_
       refine AN.splitP (dj := 68) rfl (fun h50 => ?_) (fun h50 => ?_)
       ·refine AK 21 rfl rfl (bT h50) (hH45.sub sR) ?_
        refine AK 22 rfl rfl (bT h50) (hH45.sub sR) ?_
        refine AU 23 rfl rfl rfl (hH45.sub sR) ?_
        refine AU 24 rfl rfl rfl (hH45.sub sR) ?_
        refine AU 25 rfl rfl rfl (hH45.sub sR) ?_
        refine AU 26 rfl rfl rfl (hH45.sub sR) ?_
        refine AK 27 rfl rfl (bT h50) (hH45.sub sR) ?_
        refine AT 28 rfl (hH45.sub sR) (fun w hS => run_pickT (bT h50) (v := B true) rfl) ?_
        refine AT 29 rfl (hH45.sub sR) (fun w hS => mV (B _) rfl) ?_
        refine AK 30 rfl rfl rfl (hH45.sub sR) ?_
        refine AK 31 rfl rfl rfl (hH45.sub sR) ?_
        refine AU 32 rfl rfl rfl (hH45.sub sR) ?_
        refine AU 33 rfl rfl rfl (hH45.sub sR) ?_
        refine AU 34 rfl rfl rfl (hH45.sub sR) ?_
        refine AU 35 rfl rfl rfl (hH45.sub sR) ?_
        refine AK 36 rfl rfl rfl (hH45.sub sR) ?_
        refine AT 37 rfl (hH45.sub sR) (fun w hS => run_pickT rfl (v := B true) rfl) ?_
        refine AT 38 rfl (hH45.sub sR) (fun w hS => mV (B _) rfl) ?_
        refine AK 39 rfl rfl rfl (hH45.sub sR) ?_
        refine AK 40 rfl rfl rfl (hH45.sub sR) ?_
        refine AK 41 rfl rfl rfl (hH45.sub sR) ?_
        refine AU 42 rfl rfl rfl (hH45.sub sR) ?_
        refine AU 43 rfl rfl rfl (hH45.sub sR) ?_
        refine AK 44 rfl rfl rfl (hH45.sub sR) ?_
        refine AK 45 rfl rfl rfl (hH45.sub sR) ?_
        refine AU 46 rfl rfl rfl (hH45.sub sR) ?_
        refine AU 47 rfl rfl rfl (hH45.sub sR) ?_
        refine AU 48 rfl rfl rfl (hH45.sub sR) ?_
        refine AU 49 rfl rfl rfl (hH45.sub sR) ?_
        refine AK 50 rfl rfl rfl (hH45.sub sR) ?_
        refine AT 51 rfl (hH45.sub sR) (fun w hS => run_pickT rfl (v := B true) rfl) ?_
        refine AT 52 rfl (hH45.sub sR) (fun w hS => mV (B _) rfl) ?_
        refine AK 53 rfl rfl rfl (hH45.sub sR) ?_
        refine AK 54 rfl rfl rfl (hH45.sub sR) ?_
        refine AK 55 rfl rfl rfl (hH45.sub sR) ?_
        refine AK 56 rfl rfl rfl (hH45.sub sR) ?_
        refine AK 57 rfl rfl rfl (hH45.sub sR) ?_
        refine AU 58 rfl rfl rfl (hH45.sub sR) ?_
        refine AU 59 rfl rfl rfl (hH45.sub sR) ?_
        refine AU 60 rfl rfl rfl (hH45.sub sR) ?_
        refine AU 61 rfl rfl rfl (hH45.sub sR) ?_
        refine AK 62 rfl rfl rfl (hH45.sub sR) ?_
        refine AT 63 rfl (hH45.sub sR) (fun w hS => run_pickT rfl (v := B true) rfl) ?_
        refine AD ?_
        refine CW.condT rfl ?_
        refine SR ?_
        refine V (aV (B false) rfl) ?_
        refine RL.nil ?_
        refine CW.ret ?_
        exact out1 Tryd.results18 rfl ⟨⟨_, rfl, fun h => by first | (cases h; done) | exact hok⟩, hH45.below⟩
       ·refine AG 21 rfl rfl (bF h50) (hH45.sub sR) (fun w hS => mV (B _) rfl) ?_
        refine AG 22 rfl rfl (bF h50) (hH45.sub sR) (fun w hS => mV (B _) rfl) ?_
        refine AN.split (dj := 70) rfl (fun h51 => ?_) (fun h51 => ?_)
        ·refine AG 23 rfl rfl (bR (c := true) h51) (hH45.sub sR) (fun w hS => fA underlying45 4 rfl sizeOf39 e1_13) ?_
         refine AG 24 rfl rfl (bR (c := true) h51) (hH45.sub sR) (fun w hS => run_ldV (hc.names.sl.hp hS) underlying39 rfl rfl (hS.cell (i := 0) rfl rfl)) ?_
         refine AG 25 rfl rfl (bR (c := true) h51) (hH45.sub sR) (fun w hS => run_lenSl (hc.names.sl.hp hS) rfl underlying39 rfl) ?_
         refine AG 26 rfl rfl (bR (c := true) h51) (hH45.sub sR) (fun w hS => run_neq rfl rfl) ?_
         refine AG 27 rfl rfl (bF h50) (hH45.sub sR) (fun w hS => run_pickT (bR (c := true) h51) (v := B _) rfl) ?_
         refine AT 28 rfl (hH45.sub sR) (fun w hS => run_pickF (bF h50) (v := B _) rfl) ?_
         refine AT 29 rfl (hH45.sub sR) (fun w hS => mV (B _) rfl) ?_
         refine AN.splitP (dj := 77) rfl (fun h53 => ?_) (fun h53 => ?_)
         ·refine AK 30 rfl rfl (bT h53) (hH45.sub sR) ?_
          refine AK 31 rfl rfl (bT h53) (hH45.sub sR) ?_
          refine AU 32 rfl rfl rfl (hH45.sub sR) ?_
          refine AU 33 rfl rfl rfl (hH45.sub sR) ?_
          refine AU 34 rfl rfl rfl (hH45.sub sR) ?_
          refine AU 35 rfl rfl rfl (hH45.sub sR) ?_
          refine AK 36 rfl rfl (bT h53) (hH45.sub sR) ?_
          refine AT 37 rfl (hH45.sub sR) (fun w hS => run_pickT (bT h53) (v := B true) rfl) ?_
          refine AT 38 rfl (hH45.sub sR) (fun w hS => mV (B _) rfl) ?_
          refine AK 39 rfl rfl rfl (hH45.sub sR) ?_
          refine AK 40 rfl rfl rfl (hH45.sub sR) ?_
          refine AK 41 rfl rfl rfl (hH45.sub sR) ?_
          refine AU 42 rfl rfl rfl (hH45.sub sR) ?_
          refine AU 43 rfl rfl rfl (hH45.sub sR) ?_
          refine AK 44 rfl rfl rfl (hH45.sub sR) ?_
          refine AK 45 rfl rfl rfl (hH45.sub sR) ?_
          refine AU 46 rfl rfl rfl (hH45.sub sR) ?_
          refine AU 47 rfl rfl rfl (hH45.sub sR) ?_
          refine AU 48 rfl rfl rfl (hH45.sub sR) ?_
          refine AU 49 rfl rfl rfl (hH45.sub sR) ?_
          refine AK 50 rfl rfl rfl (hH45.sub sR) ?_
          refine AT 51 rfl (hH45.sub sR) (fun w hS => run_pickT rfl (v := B true) rfl) ?_
          refine AT 52 rfl (hH45.sub sR) (fun w hS => mV (B _) rfl) ?_
          refine AK 53 rfl rfl rfl (hH45.sub sR) ?_
          refine AK 54 rfl rfl rfl (hH45.sub sR) ?_
          refine AK 55 rfl rfl rfl (hH45.sub sR) ?_
          refine AK 56 rfl rfl rfl (hH45.sub sR) ?_
          refine AK 57 rfl rfl rfl (hH45.sub sR) ?_
          refine AU 58 rfl rfl rfl (hH45.sub sR) ?_
          refine AU 59 rfl rfl rfl (hH45.sub sR) ?_
          refine AU 60 rfl rfl rfl (hH45.sub sR) ?_
          refine AU 61 rfl rfl rfl (hH45.sub sR) ?_
          refine AK 62 rfl rfl rfl (hH45.sub sR) ?_
          refine AT 63 rfl (hH45.sub sR) (fun w hS => run_pickT rfl (v := B true) rfl) ?_
          refine AD ?_
          refine CW.condT rfl ?_
          refine SR ?_
          refine V (aV (B false) rfl) ?_
          refine RL.nil ?_
          refine CW.ret ?_
          exact out1 Tryd.results18 rfl ⟨⟨_, rfl, fun h => by first | (cases h; done) | exact hok⟩, hH45.below⟩
         ·refine AG 30 rfl rfl (bF h53) (hH45.sub sR) (fun w hS => mV (B _) rfl) ?_
          refine AG 31 rfl rfl (bF h53) (hH45.sub sR) (fun w hS => mV (B _) rfl) ?_
          refine AN.split (dj := 79) rfl (fun h54 => ?_) (fun h54 => ?_)
          ·refine AG 32 rfl rfl (bR (c := true) h54) (hH45.sub sR) (fun w hS => fA underlying45 4 rfl sizeOf39 e1_13) ?_
           refine AG 33 rfl rfl (bR (c := true) h54) (hH45.sub sR) (fun w hS => run_ldV (hc.names.sl.hp hS) underlying39 rfl rfl (hS.cell (i := 0) rfl rfl)) ?_
           refine AG 34 rfl rfl (bR (c := true) h54) (hH45.sub sR) (fun w hS => run_lenSl (hc.names.sl.hp hS) rfl underlying39 rfl) ?_
           refine AG 35 rfl rfl (bR (c := true) h54) (hH45.sub sR) (fun w hS => run_eql rfl rfl) ?_
           refine AG 36 rfl rfl (bF h53) (hH45.sub sR) (fun w hS => run_pickT (bR (c := true) h54) (v := B _) rfl) ?_
           refine AT 37 rfl (hH45.sub sR) (fun w hS => run_pickF (bF h53) (v := B _) rfl) ?_
           refine AT 38 rfl (hH45.sub sR) (fun w hS => mV (B _) rfl) ?_
           refine AN.splitP (dj := 86) rfl (fun h56 => ?_) (fun h56 => ?_)
           ·refine AK 39 rfl rfl (bT h56) (hH45.sub sR) ?_
            refine AK 40 rfl rfl (bT h56) (hH45.sub sR) ?_
            refine AK 41 rfl rfl (bT h56) (hH45.sub sR) ?_
            refine AU 42 rfl rfl rfl (hH45.sub sR) ?_
            refine AU 43 rfl rfl rfl (hH45.sub sR) ?_
            refine AK 44 rfl rfl (bT h56) (hH45.sub sR) ?_
            refine AK 45 rfl rfl (bT h56) (hH45.sub sR) ?_
            refine AU 46 rfl rfl rfl (hH45.sub sR) ?_
            refine AU 47 rfl rfl rfl (hH45.sub sR) ?_
            refine AU 48 rfl rfl rfl (hH45.sub sR) ?_
            refine AU 49 rfl rfl rfl (hH45.sub sR) ?_
            refine AK 50 rfl rfl (bT h56) (hH45.sub sR) ?_
            refine AT 51 rfl (hH45.sub sR) (fun w hS => run_pickT (bT h56) (v := B true) rfl) ?_
            refine AT 52 rfl (hH45.sub sR) (fun w hS => mV (B _) rfl) ?_
            refine AK 53 rfl rfl rfl (hH45.sub sR) ?_
            refine AK 54 rfl rfl rfl (hH45.sub sR) ?_
            refine AK 55 rfl rfl rfl (hH45.sub sR) ?_
            refine AK 56 rfl rfl rfl (hH45.sub sR) ?_
            refine AK 57 rfl rfl rfl (hH45.sub sR) ?_
            refine AU 58 rfl rfl rfl (hH45.sub sR) ?_
            refine AU 59 rfl rfl rfl (hH45.sub sR) ?_
            refine AU 60 rfl rfl rfl (hH45.sub sR) ?_
            refine AU 61 rfl rfl rfl (hH45.sub sR) ?_
            refine AK 62 rfl rfl rfl (hH45.sub sR) ?_
            refine AT 63 rfl (hH45.sub sR) (fun w hS => run_pickT rfl (v := B true) rfl) ?_
            refine AD ?_
            refine CW.condT rfl ?_
            refine SR ?_
            refine V (aV (B false) rfl) ?_
            refine RL.nil ?_
            refine CW.ret ?_
            exact out1 Tryd.results18 rfl ⟨⟨_, rfl, fun h => by first | (cases h; done) | exact hok⟩, hH45.below⟩
           ·refine AG 39 rfl rfl (bF h56) (hH45.sub sR) (fun w hS => mV (B _) rfl) ?_
            refine AG 40 rfl rfl (bF h56) (hH45.sub sR) (fun w hS => run_not (bR (c := true) h51)) ?_
            refine AG 41 rfl rfl (bF h56) (hH45.sub sR) (fun w hS => mV (B _) rfl) ?_
            refine AK 42 rfl rfl rfl (hH45.sub sR) ?_
            refine AK 43 rfl rfl rfl (hH45.sub sR) ?_
            refine AG 44 rfl rfl (bF h56) (hH45.sub sR) (fun w hS => run_pickF rfl (v := B false) rfl) ?_
            refine AG 45 rfl rfl (bF h56) (hH45.sub sR) (fun w hS => mV (B _) rfl) ?_
            refine AK 46 rfl rfl rfl (hH45.sub sR) ?_
            refine AK 47 rfl rfl rfl (hH45.sub sR) ?_
            refine AK 48 rfl rfl rfl (hH45.sub sR) ?_
            refine AK 49 rfl rfl rfl (hH45.sub sR) ?_
            refine AG 50 rfl rfl (bF h56) (hH45.sub sR) (fun w hS => run_pickF rfl (v := B false) rfl) ?_
            refine AT 51 rfl (hH45.sub sR) (fun w hS => run_pickF (bF h56) (v := B _) rfl) ?_
            refine AT 52 rfl (hH45.sub sR) (fun w hS => mV (B _) rfl) ?_
            refine AG 53 rfl rfl rfl (hH45.sub sR) (fun w hS => fA underlying45 0 rfl sizeOf3 e1_13) ?_
            refine AG 54 rfl rfl rfl (hH45.sub sR) (fun w hS => run_ld underlying3 rfl rfl (hS.cell (i := 0) rfl (v := I _) rfl)) ?_
            refine A1 55 ?_
            refine AO.callP rfl (gsome rfl rfl) rfl hH45 sR (c_clearanceref12_Has _ _  _) (run_call2 call41 rfl (show _ = Value.int .u8 112 from rfl)) ?_
            intro w57 hH58
            refine AG 56 rfl rfl rfl (hH58.sub sR) (fun w hS => run_not rfl) ?_
            refine AG 57 rfl rfl rfl (hH58.sub sR) (fun w hS => mV (B _) rfl) ?_
            refine AN.split (dj := 105) rfl (fun h61 => ?_) (fun h61 => ?_)
            ·refine AG 58 rfl rfl (bR (c := true) h61) (hH58.sub sR) (fun w hS => fA underlying45 5 rfl sizeOf40 e1_13) ?_
             refine AG 59 rfl rfl (bR (c := true) h61) (hH58.sub sR) (fun w hS => run_ldV (hc.pairs.sl.hp hS) underlying40 rfl rfl (hS.cell (i := 0) rfl rfl)) ?_
             refine AG 60 rfl rfl (bR (c := true) h61) (hH58.sub sR) (fun w hS => run_lenSl (hc.pairs.sl.hp hS) rfl underlying40 rfl) ?_
             refine AG 61 rfl rfl (bR (c := true) h61) (hH58.sub sR) (fun w hS => run_gtr rfl rfl) ?_
             refine AG 62 rfl rfl rfl (hH58.sub sR) (fun w hS => run_pickT (bR (c := true) h61) (v := B _) rfl) ?_
             refine AT 63 rfl (hH58.sub sR) (fun w hS => run_pickF rfl (v := B _) rfl) ?_
             refine AD ?_
             refine CW.condP rfl (fun h63 => ?_) (fun h63 => ?_)
             ·refine SR ?_
              refine V (aV (B false) rfl) ?_
              refine RL.nil ?_
              refine CW.ret ?_
              exact out1 Tryd.results18 rfl ⟨⟨_, rfl, fun h => by first | (cases h; done) | exact hok⟩, hH58.below⟩
             ·refine CW.skip ?_
              refine CW.seq ?_
              refine SR ?_
              have hok : CmdOk c := by
               refine ⟨fun x hx => ?_, fun ho => ?_, fun ho => ?_⟩
               ·have := List.all_eq_true.1 (nf ‹(!wordsR c.names) = false›) x hx; exact this
               ·have h1 := (has_decl ho).1; have h2 := eqB ‹(!(hasF c.op 110 == nameR c.name.text)) = false›; rw [← h2]; exact h1
               ·have h1 := (has_decl ho).2.1; first | (exfalso; have h3 := ‹hasF c.op 119 = false›; rw [h1] at h3; cases h3; done) | omega
              refine V (fA underlying45 0 rfl sizeOf3 e1_13) ?_
              refine V (run_ld underlying3 rfl rfl (hH58.cell (i := 0) rfl (v := I _) rfl)) ?_
              refine RL.callP rfl hH58 (c_clearanceref12_Has _ _  _) (run_call2 call41 rfl (show _ = Value.int .u8 116 from rfl)) ?_
              intro w64 hH65
              refine RL.nil ?_
              refine CW.cond rfl (fun h67 => ?_) (fun h67 => ?_)
              ·refine SR ?_
               refine V (fA underlying45 7 rfl sizeOf43 e1_13) ?_
               refine V (run_ldSub (sub := nodeL _) underlying43 rfl rfl rfl (hH65.blk (i := 0) rfl) rfl) ?_
               refine RL.callT rfl (c_clearanceref10_IsLabel _  _ (hc.left.mono hH65.kw)) (run_call1 call43 rfl) ?_
               rintro _ w70 ⟨⟨b73, rfl⟩, hb71⟩
               have hH72 := hH65.call hb71
               refine V (mV (B _) rfl) ?_
               refine RL.split (dj := 118) rfl (fun h75 => ?_) (fun h75 => ?_)
               ·refine RL.gT rfl (bR (c := true) h75) ?_
                refine V (fA underlying45 12 rfl sizeOf43 e1_13) ?_
                refine RL.gT rfl (bR (c := true) h75) ?_
                refine V (run_ldSub (sub := nodeL _) underlying43 rfl rfl rfl (hH72.blk (i := 0) rfl) rfl) ?_
                refine RL.gT rfl (bR (c := true) h75) ?_
                refine RL.callT rfl (c_clearanceref10_IsLabel _  _ (hc.right.mono hH72.kw)) (run_call1 call43 rfl) ?_
                rintro _ w78 ⟨⟨b81, rfl⟩, hb79⟩
                have hH80 := hH72.call hb79
                refine V (run_pickT (bR (c := true) h75) (v := B _) rfl) ?_
                refine V (aV (B _) rfl) ?_
                refine RL.nil ?_
                refine CW.ret ?_
                exact out1 Tryd.results18 rfl ⟨⟨_, rfl, fun h => by first | (cases h; done) | exact hok⟩, hH80.below⟩
               ·refine RL.gF rfl rfl (bR (c := false) h75) rfl ?_
                refine RL.gF rfl rfl (bR (c := false) h75) rfl ?_
                refine RL.gF rfl rfl (bR (c := false) h75) rfl ?_
                refine V (run_pickF (bR (c := false) h75) (v := B false) rfl) ?_
                refine V (aV (B _) rfl) ?_
                refine RL.nil ?_
                refine CW.ret ?_
                exact out1 Tryd.results18 rfl ⟨⟨_, rfl, fun h => by first | (cases h; done) | exact hok⟩, hH72.below⟩
              ·refine CW.skip ?_
               refine CW.seq ?_
               refine SR ?_
               refine V (fA underlying45 0 rfl sizeOf3 e1_13) ?_
               refine V (run_ld underlying3 rfl rfl (hH65.cell (i := 0) rfl (v := I _) rfl)) ?_
               refine RL.callP rfl hH65 (c_clearanceref12_Has _ _  _) (run_call2 call41 rfl (show _ = Value.int .u8 114 from rfl)) ?_
               intro w83 hH84
               refine RL.nil ?_
               refine CW.cond rfl (fun h86 => ?_) (fun h86 => ?_)
               ·refine SR ?_
                refine V (fA underlying45 7 rfl sizeOf43 e1_13) ?_
                refine V (run_ldSub (sub := nodeL _) underlying43 rfl rfl rfl (hH84.blk (i := 0) rfl) rfl) ?_
                refine RL.callT rfl (c_clearanceref10_IsRow _  _ (hc.left.mono hH84.kw)) (run_call1 call44 rfl) ?_
                rintro _ w89 ⟨⟨b92, rfl⟩, hb90⟩
                have hH91 := hH84.call hb90
                refine V (mV (B _) rfl) ?_
                refine RL.split (dj := 129) rfl (fun h94 => ?_) (fun h94 => ?_)
                ·refine RL.gT rfl (bR (c := true) h94) ?_
                 refine V (fA underlying45 12 rfl sizeOf43 e1_13) ?_
                 refine RL.gT rfl (bR (c := true) h94) ?_
                 refine V (run_ldSub (sub := nodeL _) underlying43 rfl rfl rfl (hH91.blk (i := 0) rfl) rfl) ?_
                 refine RL.gT rfl (bR (c := true) h94) ?_
                 refine RL.callT rfl (c_clearanceref10_IsRow _  _ (hc.right.mono hH91.kw)) (run_call1 call44 rfl) ?_
                 rintro _ w97 ⟨⟨b100, rfl⟩, hb98⟩
                 have hH99 := hH91.call hb98
                 refine V (run_pickT (bR (c := true) h94) (v := B _) rfl) ?_
                 refine V (aV (B _) rfl) ?_
                 refine RL.nil ?_
                 refine CW.ret ?_
                 exact out1 Tryd.results18 rfl ⟨⟨_, rfl, fun h => by first | (cases h; done) | exact hok⟩, hH99.below⟩
                ·refine RL.gF rfl rfl (bR (c := false) h94) rfl ?_
                 refine RL.gF rfl rfl (bR (c := false) h94) rfl ?_
                 refine RL.gF rfl rfl (bR (c := false) h94) rfl ?_
                 refine V (run_pickF (bR (c := false) h94) (v := B false) rfl) ?_
                 refine V (aV (B _) rfl) ?_
                 refine RL.nil ?_
                 refine CW.ret ?_
                 exact out1 Tryd.results18 rfl ⟨⟨_, rfl, fun h => by first | (cases h; done) | exact hok⟩, hH91.below⟩
               ·refine CW.skip ?_
                refine SR ?_
                refine V (fA underlying45 7 rfl sizeOf43 e1_13) ?_
                refine V (run_ldSub (sub := nodeL _) underlying43 rfl rfl rfl (hH84.blk (i := 0) rfl) rfl) ?_
                refine RL.callT rfl (c_clearanceref12_zero _  _ (hc.left.mono hH84.kw)) (run_call1 call45 rfl) ?_
                rintro _ w104 ⟨⟨b107, rfl⟩, hb105⟩
                have hH106 := hH84.call hb105
                refine V (mV (B _) rfl) ?_
                refine RL.split (dj := 137) rfl (fun h109 => ?_) (fun h109 => ?_)
                ·refine RL.gT rfl (bR (c := true) h109) ?_
                 refine V (fA underlying45 12 rfl sizeOf43 e1_13) ?_
                 refine RL.gT rfl (bR (c := true) h109) ?_
                 refine V (run_ldSub (sub := nodeL _) underlying43 rfl rfl rfl (hH106.blk (i := 0) rfl) rfl) ?_
                 refine RL.gT rfl (bR (c := true) h109) ?_
                 refine RL.callT rfl (c_clearanceref12_zero _  _ (hc.right.mono hH106.kw)) (run_call1 call45 rfl) ?_
                 rintro _ w112 ⟨⟨b115, rfl⟩, hb113⟩
                 have hH114 := hH106.call hb113
                 refine V (run_pickT (bR (c := true) h109) (v := B _) rfl) ?_
                 refine V (aV (B _) rfl) ?_
                 refine RL.nil ?_
                 refine CW.ret ?_
                 exact out1 Tryd.results18 rfl ⟨⟨_, rfl, fun h => by first | (cases h; done) | exact hok⟩, hH114.below⟩
                ·refine RL.gF rfl rfl (bR (c := false) h109) rfl ?_
                 refine RL.gF rfl rfl (bR (c := false) h109) rfl ?_
                 refine RL.gF rfl rfl (bR (c := false) h109) rfl ?_
                 refine V (run_pickF (bR (c := false) h109) (v := B false) rfl) ?_
                 refine V (aV (B _) rfl) ?_
                 refine RL.nil ?_
                 refine CW.ret ?_
                 exact out1 Tryd.results18 rfl ⟨⟨_, rfl, fun h => by first | (cases h; done) | exact hok⟩, hH106.below⟩
            ·refine AK 58 rfl rfl (bR (c := false) h61) (hH58.sub sR) ?_
             refine AK 59 rfl rfl (bR (c := false) h61) (hH58.sub sR) ?_
             refine AK 60 rfl rfl (bR (c := false) h61) (hH58.sub sR) ?_
             refine AK 61 rfl rfl (bR (c := false) h61) (hH58.sub sR) ?_
             refine AG 62 rfl rfl rfl (hH58.sub sR) (fun w hS => run_pickF (bR (c := false) h61) (v := B false) rfl) ?_
             refine AT 63 rfl (hH58.sub sR) (fun w hS => run_pickF rfl (v := B _) rfl) ?_
             refine AD ?_
             refine CW.condF rfl ?_
             refine CW.skip ?_
             refine CW.seq ?_
             refine SR ?_
             have hok : CmdOk c := by
              refine ⟨fun x hx => ?_, fun ho => ?_, fun ho => ?_⟩
              ·have := List.all_eq_true.1 (nf ‹(!wordsR c.names) = false›) x hx; exact this
              ·have h1 := (has_decl ho).1; have h2 := eqB ‹(!(hasF c.op 110 == nameR c.name.text)) = false›; rw [← h2]; exact h1
              ·have h1 := (has_decl ho).2.1; first | (exfalso; have h3 := ‹hasF c.op 119 = false›; rw [h1] at h3; cases h3; done) | omega
             refine V (fA underlying45 0 rfl sizeOf3 e1_13) ?_
             refine V (run_ld underlying3 rfl rfl (hH58.cell (i := 0) rfl (v := I _) rfl)) ?_
             refine RL.callP rfl hH58 (c_clearanceref12_Has _ _  _) (run_call2 call41 rfl (show _ = Value.int .u8 116 from rfl)) ?_
             intro w117 hH118
             refine RL.nil ?_
             refine CW.cond rfl (fun h120 => ?_) (fun h120 => ?_)
             ·refine SR ?_
              refine V (fA underlying45 7 rfl sizeOf43 e1_13) ?_
              refine V (run_ldSub (sub := nodeL _) underlying43 rfl rfl rfl (hH118.blk (i := 0) rfl) rfl) ?_
              refine RL.callT rfl (c_clearanceref10_IsLabel _  _ (hc.left.mono hH118.kw)) (run_call1 call43 rfl) ?_
              rintro _ w123 ⟨⟨b126, rfl⟩, hb124⟩
              have hH125 := hH118.call hb124
              refine V (mV (B _) rfl) ?_
              refine RL.split (dj := 118) rfl (fun h128 => ?_) (fun h128 => ?_)
              ·refine RL.gT rfl (bR (c := true) h128) ?_
               refine V (fA underlying45 12 rfl sizeOf43 e1_13) ?_
               refine RL.gT rfl (bR (c := true) h128) ?_
               refine V (run_ldSub (sub := nodeL _) underlying43 rfl rfl rfl (hH125.blk (i := 0) rfl) rfl) ?_
               refine RL.gT rfl (bR (c := true) h128) ?_
               refine RL.callT rfl (c_clearanceref10_IsLabel _  _ (hc.right.mono hH125.kw)) (run_call1 call43 rfl) ?_
               rintro _ w131 ⟨⟨b134, rfl⟩, hb132⟩
               have hH133 := hH125.call hb132
               refine V (run_pickT (bR (c := true) h128) (v := B _) rfl) ?_
               refine V (aV (B _) rfl) ?_
               refine RL.nil ?_
               refine CW.ret ?_
               exact out1 Tryd.results18 rfl ⟨⟨_, rfl, fun h => by first | (cases h; done) | exact hok⟩, hH133.below⟩
              ·refine RL.gF rfl rfl (bR (c := false) h128) rfl ?_
               refine RL.gF rfl rfl (bR (c := false) h128) rfl ?_
               refine RL.gF rfl rfl (bR (c := false) h128) rfl ?_
               refine V (run_pickF (bR (c := false) h128) (v := B false) rfl) ?_
               refine V (aV (B _) rfl) ?_
               refine RL.nil ?_
               refine CW.ret ?_
               exact out1 Tryd.results18 rfl ⟨⟨_, rfl, fun h => by first | (cases h; done) | exact hok⟩, hH125.below⟩
             ·refine CW.skip ?_
              refine CW.seq ?_
              refine SR ?_
              refine V (fA underlying45 0 rfl sizeOf3 e1_13) ?_
              refine V (run_ld underlying3 rfl rfl (hH118.cell (i := 0) rfl (v := I _) rfl)) ?_
              refine RL.callP rfl hH118 (c_clearanceref12_Has _ _  _) (run_call2 call41 rfl (show _ = Value.int .u8 114 from rfl)) ?_
              intro w136 hH137
              refine RL.nil ?_
              refine CW.cond rfl (fun h139 => ?_) (fun h139 => ?_)
              ·refine SR ?_
               refine V (fA underlying45 7 rfl sizeOf43 e1_13) ?_
               refine V (run_ldSub (sub := nodeL _) underlying43 rfl rfl rfl (hH137.blk (i := 0) rfl) rfl) ?_
               refine RL.callT rfl (c_clearanceref10_IsRow _  _ (hc.left.mono hH137.kw)) (run_call1 call44 rfl) ?_
               rintro _ w142 ⟨⟨b145, rfl⟩, hb143⟩
               have hH144 := hH137.call hb143
               refine V (mV (B _) rfl) ?_
               refine RL.split (dj := 129) rfl (fun h147 => ?_) (fun h147 => ?_)
               ·refine RL.gT rfl (bR (c := true) h147) ?_
                refine V (fA underlying45 12 rfl sizeOf43 e1_13) ?_
                refine RL.gT rfl (bR (c := true) h147) ?_
                refine V (run_ldSub (sub := nodeL _) underlying43 rfl rfl rfl (hH144.blk (i := 0) rfl) rfl) ?_
                refine RL.gT rfl (bR (c := true) h147) ?_
                refine RL.callT rfl (c_clearanceref10_IsRow _  _ (hc.right.mono hH144.kw)) (run_call1 call44 rfl) ?_
                rintro _ w150 ⟨⟨b153, rfl⟩, hb151⟩
                have hH152 := hH144.call hb151
                refine V (run_pickT (bR (c := true) h147) (v := B _) rfl) ?_
                refine V (aV (B _) rfl) ?_
                refine RL.nil ?_
                refine CW.ret ?_
                exact out1 Tryd.results18 rfl ⟨⟨_, rfl, fun h => by first | (cases h; done) | exact hok⟩, hH152.below⟩
               ·refine RL.gF rfl rfl (bR (c := false) h147) rfl ?_
                refine RL.gF rfl rfl (bR (c := false) h147) rfl ?_
                refine RL.gF rfl rfl (bR (c := false) h147) rfl ?_
                refine V (run_pickF (bR (c := false) h147) (v := B false) rfl) ?_
                refine V (aV (B _) rfl) ?_
                refine RL.nil ?_
                refine CW.ret ?_
                exact out1 Tryd.results18 rfl ⟨⟨_, rfl, fun h => by first | (cases h; done) | exact hok⟩, hH144.below⟩
              ·refine CW.skip ?_
               refine SR ?_
               refine V (fA underlying45 7 rfl sizeOf43 e1_13) ?_
               refine V (run_ldSub (sub := nodeL _) underlying43 rfl rfl rfl (hH137.blk (i := 0) rfl) rfl) ?_
               refine RL.callT rfl (c_clearanceref12_zero _  _ (hc.left.mono hH137.kw)) (run_call1 call45 rfl) ?_
               rintro _ w157 ⟨⟨b160, rfl⟩, hb158⟩
               have hH159 := hH137.call hb158
               refine V (mV (B _) rfl) ?_
               refine RL.split (dj := 137) rfl (fun h162 => ?_) (fun h162 => ?_)
               ·refine RL.gT rfl (bR (c := true) h162) ?_
                refine V (fA underlying45 12 rfl sizeOf43 e1_13) ?_
                refine RL.gT rfl (bR (c := true) h162) ?_
                refine V (run_ldSub (sub := nodeL _) underlying43 rfl rfl rfl (hH159.blk (i := 0) rfl) rfl) ?_
                refine RL.gT rfl (bR (c := true) h162) ?_
                refine RL.callT rfl (c_clearanceref12_zero _  _ (hc.right.mono hH159.kw)) (run_call1 call45 rfl) ?_
                rintro _ w165 ⟨⟨b168, rfl⟩, hb166⟩
                have hH167 := hH159.call hb166
                refine V (run_pickT (bR (c := true) h162) (v := B _) rfl) ?_
                refine V (aV (B _) rfl) ?_
                refine RL.nil ?_
                refine CW.ret ?_
                exact out1 Tryd.results18 rfl ⟨⟨_, rfl, fun h => by first | (cases h; done) | exact hok⟩, hH167.below⟩
               ·refine RL.gF rfl rfl (bR (c := false) h162) rfl ?_
                refine RL.gF rfl rfl (bR (c := false) h162) rfl ?_
                refine RL.gF rfl rfl (bR (c := false) h162) rfl ?_
                refine V (run_pickF (bR (c := false) h162) (v := B false) rfl) ?_
                refine V (aV (B _) rfl) ?_
                refine RL.nil ?_
                refine CW.ret ?_
                exact out1 Tryd.results18 rfl ⟨⟨_, rfl, fun h => by first | (cases h; done) | exact hok⟩, hH159.below⟩
          ·refine AK 32 rfl rfl (bR (c := false) h54) (hH45.sub sR) ?_
           refine AK 33 rfl rfl (bR (c := false) h54) (hH45.sub sR) ?_
           refine AK 34 rfl rfl (bR (c := false) h54) (hH45.sub sR) ?_
           refine AK 35 rfl rfl (bR (c := false) h54) (hH45.sub sR) ?_
           refine AG 36 rfl rfl (bF h53) (hH45.sub sR) (fun w hS => run_pickF (bR (c := false) h54) (v := B false) rfl) ?_
           refine AT 37 rfl (hH45.sub sR) (fun w hS => run_pickF (bF h53) (v := B _) rfl) ?_
           refine AT 38 rfl (hH45.sub sR) (fun w hS => mV (B _) rfl) ?_
           refine AG 39 rfl rfl rfl (hH45.sub sR) (fun w hS => mV (B _) rfl) ?_
           refine AG 40 rfl rfl rfl (hH45.sub sR) (fun w hS => run_not (bR (c := true) h51)) ?_
           refine AG 41 rfl rfl rfl (hH45.sub sR) (fun w hS => mV (B _) rfl) ?_
           refine AK 42 rfl rfl rfl (hH45.sub sR) ?_
           refine AK 43 rfl rfl rfl (hH45.sub sR) ?_
           refine AG 44 rfl rfl rfl (hH45.sub sR) (fun w hS => run_pickF rfl (v := B false) rfl) ?_
           refine AG 45 rfl rfl rfl (hH45.sub sR) (fun w hS => mV (B _) rfl) ?_
           refine AK 46 rfl rfl rfl (hH45.sub sR) ?_
           refine AK 47 rfl rfl rfl (hH45.sub sR) ?_
           refine AK 48 rfl rfl rfl (hH45.sub sR) ?_
           refine AK 49 rfl rfl rfl (hH45.sub sR) ?_
           refine AG 50 rfl rfl rfl (hH45.sub sR) (fun w hS => run_pickF rfl (v := B false) rfl) ?_
           refine AT 51 rfl (hH45.sub sR) (fun w hS => run_pickF rfl (v := B _) rfl) ?_
           refine AT 52 rfl (hH45.sub sR) (fun w hS => mV (B _) rfl) ?_
           refine AG 53 rfl rfl rfl (hH45.sub sR) (fun w hS => fA underlying45 0 rfl sizeOf3 e1_13) ?_
           refine AG 54 rfl rfl rfl (hH45.sub sR) (fun w hS => run_ld underlying3 rfl rfl (hS.cell (i := 0) rfl (v := I _) rfl)) ?_
           refine A1 55 ?_
           refine AO.callP rfl (gsome rfl rfl) rfl hH45 sR (c_clearanceref12_Has _ _  _) (run_call2 call41 rfl (show _ = Value.int .u8 112 from rfl)) ?_
           intro w170 hH171
           refine AG 56 rfl rfl rfl (hH171.sub sR) (fun w hS => run_not rfl) ?_
           refine AG 57 rfl rfl rfl (hH171.sub sR) (fun w hS => mV (B _) rfl) ?_
           refine AN.split (dj := 105) rfl (fun h174 => ?_) (fun h174 => ?_)
           ·refine AG 58 rfl rfl (bR (c := true) h174) (hH171.sub sR) (fun w hS => fA underlying45 5 rfl sizeOf40 e1_13) ?_
            refine AG 59 rfl rfl (bR (c := true) h174) (hH171.sub sR) (fun w hS => run_ldV (hc.pairs.sl.hp hS) underlying40 rfl rfl (hS.cell (i := 0) rfl rfl)) ?_
            refine AG 60 rfl rfl (bR (c := true) h174) (hH171.sub sR) (fun w hS => run_lenSl (hc.pairs.sl.hp hS) rfl underlying40 rfl) ?_
            refine AG 61 rfl rfl (bR (c := true) h174) (hH171.sub sR) (fun w hS => run_gtr rfl rfl) ?_
            refine AG 62 rfl rfl rfl (hH171.sub sR) (fun w hS => run_pickT (bR (c := true) h174) (v := B _) rfl) ?_
            refine AT 63 rfl (hH171.sub sR) (fun w hS => run_pickF rfl (v := B _) rfl) ?_
            refine AD ?_
            refine CW.condP rfl (fun h176 => ?_) (fun h176 => ?_)
            ·refine SR ?_
             refine V (aV (B false) rfl) ?_
             refine RL.nil ?_
             refine CW.ret ?_
             exact out1 Tryd.results18 rfl ⟨⟨_, rfl, fun h => by first | (cases h; done) | exact hok⟩, hH171.below⟩
            ·refine CW.skip ?_
             refine CW.seq ?_
             refine SR ?_
             have hok : CmdOk c := by
              refine ⟨fun x hx => ?_, fun ho => ?_, fun ho => ?_⟩
              ·have := List.all_eq_true.1 (nf ‹(!wordsR c.names) = false›) x hx; exact this
              ·have h1 := (has_decl ho).1; have h2 := eqB ‹(!(hasF c.op 110 == nameR c.name.text)) = false›; rw [← h2]; exact h1
              ·have h1 := (has_decl ho).2.1; first | (exfalso; have h3 := ‹hasF c.op 119 = false›; rw [h1] at h3; cases h3; done) | omega
             refine V (fA underlying45 0 rfl sizeOf3 e1_13) ?_
             refine V (run_ld underlying3 rfl rfl (hH171.cell (i := 0) rfl (v := I _) rfl)) ?_
             refine RL.callP rfl hH171 (c_clearanceref12_Has _ _  _) (run_call2 call41 rfl (show _ = Value.int .u8 116 from rfl)) ?_
             intro w177 hH178
             refine RL.nil ?_
             refine CW.cond rfl (fun h180 => ?_) (fun h180 => ?_)
             ·refine SR ?_
              refine V (fA underlying45 7 rfl sizeOf43 e1_13) ?_
              refine V (run_ldSub (sub := nodeL _) underlying43 rfl rfl rfl (hH178.blk (i := 0) rfl) rfl) ?_
              refine RL.callT rfl (c_clearanceref10_IsLabel _  _ (hc.left.mono hH178.kw)) (run_call1 call43 rfl) ?_
              rintro _ w183 ⟨⟨b186, rfl⟩, hb184⟩
              have hH185 := hH178.call hb184
              refine V (mV (B _) rfl) ?_
              refine RL.split (dj := 118) rfl (fun h188 => ?_) (fun h188 => ?_)
              ·refine RL.gT rfl (bR (c := true) h188) ?_
               refine V (fA underlying45 12 rfl sizeOf43 e1_13) ?_
               refine RL.gT rfl (bR (c := true) h188) ?_
               refine V (run_ldSub (sub := nodeL _) underlying43 rfl rfl rfl (hH185.blk (i := 0) rfl) rfl) ?_
               refine RL.gT rfl (bR (c := true) h188) ?_
               refine RL.callT rfl (c_clearanceref10_IsLabel _  _ (hc.right.mono hH185.kw)) (run_call1 call43 rfl) ?_
               rintro _ w191 ⟨⟨b194, rfl⟩, hb192⟩
               have hH193 := hH185.call hb192
               refine V (run_pickT (bR (c := true) h188) (v := B _) rfl) ?_
               refine V (aV (B _) rfl) ?_
               refine RL.nil ?_
               refine CW.ret ?_
               exact out1 Tryd.results18 rfl ⟨⟨_, rfl, fun h => by first | (cases h; done) | exact hok⟩, hH193.below⟩
              ·refine RL.gF rfl rfl (bR (c := false) h188) rfl ?_
               refine RL.gF rfl rfl (bR (c := false) h188) rfl ?_
               refine RL.gF rfl rfl (bR (c := false) h188) rfl ?_
               refine V (run_pickF (bR (c := false) h188) (v := B false) rfl) ?_
               refine V (aV (B _) rfl) ?_
               refine RL.nil ?_
               refine CW.ret ?_
               exact out1 Tryd.results18 rfl ⟨⟨_, rfl, fun h => by first | (cases h; done) | exact hok⟩, hH185.below⟩
             ·refine CW.skip ?_
              refine CW.seq ?_
              refine SR ?_
              refine V (fA underlying45 0 rfl sizeOf3 e1_13) ?_
              refine V (run_ld underlying3 rfl rfl (hH178.cell (i := 0) rfl (v := I _) rfl)) ?_
              refine RL.callP rfl hH178 (c_clearanceref12_Has _ _  _) (run_call2 call41 rfl (show _ = Value.int .u8 114 from rfl)) ?_
              intro w196 hH197
              refine RL.nil ?_
              refine CW.cond rfl (fun h199 => ?_) (fun h199 => ?_)
              ·refine SR ?_
               refine V (fA underlying45 7 rfl sizeOf43 e1_13) ?_
               refine V (run_ldSub (sub := nodeL _) underlying43 rfl rfl rfl (hH197.blk (i := 0) rfl) rfl) ?_
               refine RL.callT rfl (c_clearanceref10_IsRow _  _ (hc.left.mono hH197.kw)) (run_call1 call44 rfl) ?_
               rintro _ w202 ⟨⟨b205, rfl⟩, hb203⟩
               have hH204 := hH197.call hb203
               refine V (mV (B _) rfl) ?_
               refine RL.split (dj := 129) rfl (fun h207 => ?_) (fun h207 => ?_)
               ·refine RL.gT rfl (bR (c := true) h207) ?_
                refine V (fA underlying45 12 rfl sizeOf43 e1_13) ?_
                refine RL.gT rfl (bR (c := true) h207) ?_
                refine V (run_ldSub (sub := nodeL _) underlying43 rfl rfl rfl (hH204.blk (i := 0) rfl) rfl) ?_
                refine RL.gT rfl (bR (c := true) h207) ?_
                refine RL.callT rfl (c_clearanceref10_IsRow _  _ (hc.right.mono hH204.kw)) (run_call1 call44 rfl) ?_
                rintro _ w210 ⟨⟨b213, rfl⟩, hb211⟩
                have hH212 := hH204.call hb211
                refine V (run_pickT (bR (c := true) h207) (v := B _) rfl) ?_
                refine V (aV (B _) rfl) ?_
                refine RL.nil ?_
                refine CW.ret ?_
                exact out1 Tryd.results18 rfl ⟨⟨_, rfl, fun h => by first | (cases h; done) | exact hok⟩, hH212.below⟩
               ·refine RL.gF rfl rfl (bR (c := false) h207) rfl ?_
                refine RL.gF rfl rfl (bR (c := false) h207) rfl ?_
                refine RL.gF rfl rfl (bR (c := false) h207) rfl ?_
                refine V (run_pickF (bR (c := false) h207) (v := B false) rfl) ?_
                refine V (aV (B _) rfl) ?_
                refine RL.nil ?_
                refine CW.ret ?_
                exact out1 Tryd.results18 rfl ⟨⟨_, rfl, fun h => by first | (cases h; done) | exact hok⟩, hH204.below⟩
              ·refine CW.skip ?_
               refine SR ?_
               refine V (fA underlying45 7 rfl sizeOf43 e1_13) ?_
               refine V (run_ldSub (sub := nodeL _) underlying43 rfl rfl rfl (hH197.blk (i := 0) rfl) rfl) ?_
               refine RL.callT rfl (c_clearanceref12_zero _  _ (hc.left.mono hH197.kw)) (run_call1 call45 rfl) ?_
               rintro _ w217 ⟨⟨b220, rfl⟩, hb218⟩
               have hH219 := hH197.call hb218
               refine V (mV (B _) rfl) ?_
               refine RL.split (dj := 137) rfl (fun h222 => ?_) (fun h222 => ?_)
               ·refine RL.gT rfl (bR (c := true) h222) ?_
                refine V (fA underlying45 12 rfl sizeOf43 e1_13) ?_
                refine RL.gT rfl (bR (c := true) h222) ?_
                refine V (run_ldSub (sub := nodeL _) underlying43 rfl rfl rfl (hH219.blk (i := 0) rfl) rfl) ?_
                refine RL.gT rfl (bR (c := true) h222) ?_
                refine RL.callT rfl (c_clearanceref12_zero _  _ (hc.right.mono hH219.kw)) (run_call1 call45 rfl) ?_
                rintro _ w225 ⟨⟨b228, rfl⟩, hb226⟩
                have hH227 := hH219.call hb226
                refine V (run_pickT (bR (c := true) h222) (v := B _) rfl) ?_
                refine V (aV (B _) rfl) ?_
                refine RL.nil ?_
                refine CW.ret ?_
                exact out1 Tryd.results18 rfl ⟨⟨_, rfl, fun h => by first | (cases h; done) | exact hok⟩, hH227.below⟩
               ·refine RL.gF rfl rfl (bR (c := false) h222) rfl ?_
                refine RL.gF rfl rfl (bR (c := false) h222) rfl ?_
                refine RL.gF rfl rfl (bR (c := false) h222) rfl ?_
                refine V (run_pickF (bR (c := false) h222) (v := B false) rfl) ?_
                refine V (aV (B _) rfl) ?_
                refine RL.nil ?_
                refine CW.ret ?_
                exact out1 Tryd.results18 rfl ⟨⟨_, rfl, fun h => by first | (cases h; done) | exact hok⟩, hH219.below⟩
           ·refine AK 58 rfl rfl (bR (c := false) h174) (hH171.sub sR) ?_
            refine AK 59 rfl rfl (bR (c := false) h174) (hH171.sub sR) ?_
            refine AK 60 rfl rfl (bR (c := false) h174) (hH171.sub sR) ?_
            refine AK 61 rfl rfl (bR (c := false) h174) (hH171.sub sR) ?_
            refine AG 62 rfl rfl rfl (hH171.sub sR) (fun w hS => run_pickF (bR (c := false) h174) (v := B false) rfl) ?_
            refine AT 63 rfl (hH171.sub sR) (fun w hS => run_pickF rfl (v := B _) rfl) ?_
            refine AD ?_
            refine CW.condF rfl ?_
            refine CW.skip ?_
            refine CW.seq ?_
            refine SR ?_
            have hok : CmdOk c := by
             refine ⟨fun x hx => ?_, fun ho => ?_, fun ho => ?_⟩
             ·have := List.all_eq_true.1 (nf ‹(!wordsR c.names) = false›) x hx; exact this
             ·have h1 := (has_decl ho).1; have h2 := eqB ‹(!(hasF c.op 110 == nameR c.name.text)) = false›; rw [← h2]; exact h1
             ·have h1 := (has_decl ho).2.1; first | (exfalso; have h3 := ‹hasF c.op 119 = false›; rw [h1] at h3; cases h3; done) | omega
            refine V (fA underlying45 0 rfl sizeOf3 e1_13) ?_
            refine V (run_ld underlying3 rfl rfl (hH171.cell (i := 0) rfl (v := I _) rfl)) ?_
            refine RL.callP rfl hH171 (c_clearanceref12_Has _ _  _) (run_call2 call41 rfl (show _ = Value.int .u8 116 from rfl)) ?_
            intro w230 hH231
            refine RL.nil ?_
            refine CW.cond rfl (fun h233 => ?_) (fun h233 => ?_)
            ·refine SR ?_
             refine V (fA underlying45 7 rfl sizeOf43 e1_13) ?_
             refine V (run_ldSub (sub := nodeL _) underlying43 rfl rfl rfl (hH231.blk (i := 0) rfl) rfl) ?_
             refine RL.callT rfl (c_clearanceref10_IsLabel _  _ (hc.left.mono hH231.kw)) (run_call1 call43 rfl) ?_
             rintro _ w236 ⟨⟨b239, rfl⟩, hb237⟩
             have hH238 := hH231.call hb237
             refine V (mV (B _) rfl) ?_
             refine RL.split (dj := 118) rfl (fun h241 => ?_) (fun h241 => ?_)
             ·refine RL.gT rfl (bR (c := true) h241) ?_
              refine V (fA underlying45 12 rfl sizeOf43 e1_13) ?_
              refine RL.gT rfl (bR (c := true) h241) ?_
              refine V (run_ldSub (sub := nodeL _) underlying43 rfl rfl rfl (hH238.blk (i := 0) rfl) rfl) ?_
              refine RL.gT rfl (bR (c := true) h241) ?_
              refine RL.callT rfl (c_clearanceref10_IsLabel _  _ (hc.right.mono hH238.kw)) (run_call1 call43 rfl) ?_
              rintro _ w244 ⟨⟨b247, rfl⟩, hb245⟩
              have hH246 := hH238.call hb245
              refine V (run_pickT (bR (c := true) h241) (v := B _) rfl) ?_
              refine V (aV (B _) rfl) ?_
              refine RL.nil ?_
              refine CW.ret ?_
              exact out1 Tryd.results18 rfl ⟨⟨_, rfl, fun h => by first | (cases h; done) | exact hok⟩, hH246.below⟩
             ·refine RL.gF rfl rfl (bR (c := false) h241) rfl ?_
              refine RL.gF rfl rfl (bR (c := false) h241) rfl ?_
              refine RL.gF rfl rfl (bR (c := false) h241) rfl ?_
              refine V (run_pickF (bR (c := false) h241) (v := B false) rfl) ?_
              refine V (aV (B _) rfl) ?_
              refine RL.nil ?_
              refine CW.ret ?_
              exact out1 Tryd.results18 rfl ⟨⟨_, rfl, fun h => by first | (cases h; done) | exact hok⟩, hH238.below⟩
            ·refine CW.skip ?_
             refine CW.seq ?_
             refine SR ?_
             refine V (fA underlying45 0 rfl sizeOf3 e1_13) ?_
             refine V (run_ld underlying3 rfl rfl (hH231.cell (i := 0) rfl (v := I _) rfl)) ?_
             refine RL.callP rfl hH231 (c_clearanceref12_Has _ _  _) (run_call2 call41 rfl (show _ = Value.int .u8 114 from rfl)) ?_
             intro w249 hH250
             refine RL.nil ?_
             refine CW.cond rfl (fun h252 => ?_) (fun h252 => ?_)
             ·refine SR ?_
              refine V (fA underlying45 7 rfl sizeOf43 e1_13) ?_
              refine V (run_ldSub (sub := nodeL _) underlying43 rfl rfl rfl (hH250.blk (i := 0) rfl) rfl) ?_
              refine RL.callT rfl (c_clearanceref10_IsRow _  _ (hc.left.mono hH250.kw)) (run_call1 call44 rfl) ?_
              rintro _ w255 ⟨⟨b258, rfl⟩, hb256⟩
              have hH257 := hH250.call hb256
              refine V (mV (B _) rfl) ?_
              refine RL.split (dj := 129) rfl (fun h260 => ?_) (fun h260 => ?_)
              ·refine RL.gT rfl (bR (c := true) h260) ?_
               refine V (fA underlying45 12 rfl sizeOf43 e1_13) ?_
               refine RL.gT rfl (bR (c := true) h260) ?_
               refine V (run_ldSub (sub := nodeL _) underlying43 rfl rfl rfl (hH257.blk (i := 0) rfl) rfl) ?_
               refine RL.gT rfl (bR (c := true) h260) ?_
               refine RL.callT rfl (c_clearanceref10_IsRow _  _ (hc.right.mono hH257.kw)) (run_call1 call44 rfl) ?_
               rintro _ w263 ⟨⟨b266, rfl⟩, hb264⟩
               have hH265 := hH257.call hb264
               refine V (run_pickT (bR (c := true) h260) (v := B _) rfl) ?_
               refine V (aV (B _) rfl) ?_
               refine RL.nil ?_
               refine CW.ret ?_
               exact out1 Tryd.results18 rfl ⟨⟨_, rfl, fun h => by first | (cases h; done) | exact hok⟩, hH265.below⟩
              ·refine RL.gF rfl rfl (bR (c := false) h260) rfl ?_
               refine RL.gF rfl rfl (bR (c := false) h260) rfl ?_
               refine RL.gF rfl rfl (bR (c := false) h260) rfl ?_
               refine V (run_pickF (bR (c := false) h260) (v := B false) rfl) ?_
               refine V (aV (B _) rfl) ?_
               refine RL.nil ?_
               refine CW.ret ?_
               exact out1 Tryd.results18 rfl ⟨⟨_, rfl, fun h => by first | (cases h; done) | exact hok⟩, hH257.below⟩
             ·refine CW.skip ?_
              refine SR ?_
              refine V (fA underlying45 7 rfl sizeOf43 e1_13) ?_
              refine V (run_ldSub (sub := nodeL _) underlying43 rfl rfl rfl (hH250.blk (i := 0) rfl) rfl) ?_
              refine RL.callT rfl (c_clearanceref12_zero _  _ (hc.left.mono hH250.kw)) (run_call1 call45 rfl) ?_
              rintro _ w270 ⟨⟨b273, rfl⟩, hb271⟩
              have hH272 := hH250.call hb271
              refine V (mV (B _) rfl) ?_
              refine RL.split (dj := 137) rfl (fun h275 => ?_) (fun h275 => ?_)
              ·refine RL.gT rfl (bR (c := true) h275) ?_
               refine V (fA underlying45 12 rfl sizeOf43 e1_13) ?_
               refine RL.gT rfl (bR (c := true) h275) ?_
               refine V (run_ldSub (sub := nodeL _) underlying43 rfl rfl rfl (hH272.blk (i := 0) rfl) rfl) ?_
               refine RL.gT rfl (bR (c := true) h275) ?_
               refine RL.callT rfl (c_clearanceref12_zero _  _ (hc.right.mono hH272.kw)) (run_call1 call45 rfl) ?_
               rintro _ w278 ⟨⟨b281, rfl⟩, hb279⟩
               have hH280 := hH272.call hb279
               refine V (run_pickT (bR (c := true) h275) (v := B _) rfl) ?_
               refine V (aV (B _) rfl) ?_
               refine RL.nil ?_
               refine CW.ret ?_
               exact out1 Tryd.results18 rfl ⟨⟨_, rfl, fun h => by first | (cases h; done) | exact hok⟩, hH280.below⟩
              ·refine RL.gF rfl rfl (bR (c := false) h275) rfl ?_
               refine RL.gF rfl rfl (bR (c := false) h275) rfl ?_
               refine RL.gF rfl rfl (bR (c := false) h275) rfl ?_
               refine V (run_pickF (bR (c := false) h275) (v := B false) rfl) ?_
               refine V (aV (B _) rfl) ?_
               refine RL.nil ?_
               refine CW.ret ?_
               exact out1 Tryd.results18 rfl ⟨⟨_, rfl, fun h => by first | (cases h; done) | exact hok⟩, hH272.below⟩
        ·refine AK 23 rfl rfl (bR (c := false) h51) (hH45.sub sR) ?_
         refine AK 24 rfl rfl (bR (c := false) h51) (hH45.sub sR) ?_
         refine AK 25 rfl rfl (bR (c := false) h51) (hH45.sub sR) ?_
         refine AK 26 rfl rfl (bR (c := false) h51) (hH45.sub sR) ?_
         refine AG 27 rfl rfl (bF h50) (hH45.sub sR) (fun w hS => run_pickF (bR (c := false) h51) (v := B false) rfl) ?_
         refine AT 28 rfl (hH45.sub sR) (fun w hS => run_pickF (bF h50) (v := B _) rfl) ?_
         refine AT 29 rfl (hH45.sub sR) (fun w hS => mV (B _) rfl) ?_
         refine AG 30 rfl rfl rfl (hH45.sub sR) (fun w hS => mV (B _) rfl) ?_
         refine AG 31 rfl rfl rfl (hH45.sub sR) (fun w hS => mV (B _) rfl) ?_
         refine AN.split (dj := 79) rfl (fun h283 => ?_) (fun h283 => ?_)
         ·refine AG 32 rfl rfl (bR (c := true) h283) (hH45.sub sR) (fun w hS => fA underlying45 4 rfl sizeOf39 e1_13) ?_
          refine AG 33 rfl rfl (bR (c := true) h283) (hH45.sub sR) (fun w hS => run_ldV (hc.names.sl.hp hS) underlying39 rfl rfl (hS.cell (i := 0) rfl rfl)) ?_
          refine AG 34 rfl rfl (bR (c := true) h283) (hH45.sub sR) (fun w hS => run_lenSl (hc.names.sl.hp hS) rfl underlying39 rfl) ?_
          refine AG 35 rfl rfl (bR (c := true) h283) (hH45.sub sR) (fun w hS => run_eql rfl rfl) ?_
          refine AG 36 rfl rfl rfl (hH45.sub sR) (fun w hS => run_pickT (bR (c := true) h283) (v := B _) rfl) ?_
          refine AT 37 rfl (hH45.sub sR) (fun w hS => run_pickF rfl (v := B _) rfl) ?_
          refine AT 38 rfl (hH45.sub sR) (fun w hS => mV (B _) rfl) ?_
          refine AN.splitP (dj := 86) rfl (fun h285 => ?_) (fun h285 => ?_)
          ·refine AK 39 rfl rfl (bT h285) (hH45.sub sR) ?_
           refine AK 40 rfl rfl (bT h285) (hH45.sub sR) ?_
           refine AK 41 rfl rfl (bT h285) (hH45.sub sR) ?_
           refine AU 42 rfl rfl rfl (hH45.sub sR) ?_
           refine AU 43 rfl rfl rfl (hH45.sub sR) ?_
           refine AK 44 rfl rfl (bT h285) (hH45.sub sR) ?_
           refine AK 45 rfl rfl (bT h285) (hH45.sub sR) ?_
           refine AU 46 rfl rfl rfl (hH45.sub sR) ?_
           refine AU 47 rfl rfl rfl (hH45.sub sR) ?_
           refine AU 48 rfl rfl rfl (hH45.sub sR) ?_
           refine AU 49 rfl rfl rfl (hH45.sub sR) ?_
           refine AK 50 rfl rfl (bT h285) (hH45.sub sR) ?_
           refine AT 51 rfl (hH45.sub sR) (fun w hS => run_pickT (bT h285) (v := B true) rfl) ?_
           refine AT 52 rfl (hH45.sub sR) (fun w hS => mV (B _) rfl) ?_
           refine AK 53 rfl rfl rfl (hH45.sub sR) ?_
           refine AK 54 rfl rfl rfl (hH45.sub sR) ?_
           refine AK 55 rfl rfl rfl (hH45.sub sR) ?_
           refine AK 56 rfl rfl rfl (hH45.sub sR) ?_
           refine AK 57 rfl rfl rfl (hH45.sub sR) ?_
           refine AU 58 rfl rfl rfl (hH45.sub sR) ?_
           refine AU 59 rfl rfl rfl (hH45.sub sR) ?_
           refine AU 60 rfl rfl rfl (hH45.sub sR) ?_
           refine AU 61 rfl rfl rfl (hH45.sub sR) ?_
           refine AK 62 rfl rfl rfl (hH45.sub sR) ?_
           refine AT 63 rfl (hH45.sub sR) (fun w hS => run_pickT rfl (v := B true) rfl) ?_
           refine AD ?_
           refine CW.condT rfl ?_
           refine SR ?_
           refine V (aV (B false) rfl) ?_
           refine RL.nil ?_
           refine CW.ret ?_
           exact out1 Tryd.results18 rfl ⟨⟨_, rfl, fun h => by first | (cases h; done) | exact hok⟩, hH45.below⟩
          ·refine AG 39 rfl rfl (bF h285) (hH45.sub sR) (fun w hS => mV (B _) rfl) ?_
           refine AG 40 rfl rfl (bF h285) (hH45.sub sR) (fun w hS => run_not (bR (c := false) h51)) ?_
           refine AG 41 rfl rfl (bF h285) (hH45.sub sR) (fun w hS => mV (B _) rfl) ?_
           refine AG 42 rfl rfl rfl (hH45.sub sR) (fun w hS => mV (B _) rfl) ?_
           refine AG 43 rfl rfl rfl (hH45.sub sR) (fun w hS => run_not (bR (c := true) h283)) ?_
           refine AG 44 rfl rfl (bF h285) (hH45.sub sR) (fun w hS => run_pickT rfl (v := B _) rfl) ?_
           refine AG 45 rfl rfl (bF h285) (hH45.sub sR) (fun w hS => mV (B _) rfl) ?_
           refine AK 46 rfl rfl rfl (hH45.sub sR) ?_
           refine AK 47 rfl rfl rfl (hH45.sub sR) ?_
           refine AK 48 rfl rfl rfl (hH45.sub sR) ?_
           refine AK 49 rfl rfl rfl (hH45.sub sR) ?_
           refine AG 50 rfl rfl (bF h285) (hH45.sub sR) (fun w hS => run_pickF rfl (v := B false) rfl) ?_
           refine AT 51 rfl (hH45.sub sR) (fun w hS => run_pickF (bF h285) (v := B _) rfl) ?_
           refine AT 52 rfl (hH45.sub sR) (fun w hS => mV (B _) rfl) ?_
           refine AG 53 rfl rfl rfl (hH45.sub sR) (fun w hS => fA underlying45 0 rfl sizeOf3 e1_13) ?_
           refine AG 54 rfl rfl rfl (hH45.sub sR) (fun w hS => run_ld underlying3 rfl rfl (hS.cell (i := 0) rfl (v := I _) rfl)) ?_
           refine A1 55 ?_
           refine AO.callP rfl (gsome rfl rfl) rfl hH45 sR (c_clearanceref12_Has _ _  _) (run_call2 call41 rfl (show _ = Value.int .u8 112 from rfl)) ?_
           intro w286 hH287
           refine AG 56 rfl rfl rfl (hH287.sub sR) (fun w hS => run_not rfl) ?_
           refine AG 57 rfl rfl rfl (hH287.sub sR) (fun w hS => mV (B _) rfl) ?_
           refine AN.split (dj := 105) rfl (fun h290 => ?_) (fun h290 => ?_)
           ·refine AG 58 rfl rfl (bR (c := true) h290) (hH287.sub sR) (fun w hS => fA underlying45 5 rfl sizeOf40 e1_13) ?_
            refine AG 59 rfl rfl (bR (c := true) h290) (hH287.sub sR) (fun w hS => run_ldV (hc.pairs.sl.hp hS) underlying40 rfl rfl (hS.cell (i := 0) rfl rfl)) ?_
            refine AG 60 rfl rfl (bR (c := true) h290) (hH287.sub sR) (fun w hS => run_lenSl (hc.pairs.sl.hp hS) rfl underlying40 rfl) ?_
            refine AG 61 rfl rfl (bR (c := true) h290) (hH287.sub sR) (fun w hS => run_gtr rfl rfl) ?_
            refine AG 62 rfl rfl rfl (hH287.sub sR) (fun w hS => run_pickT (bR (c := true) h290) (v := B _) rfl) ?_
            refine AT 63 rfl (hH287.sub sR) (fun w hS => run_pickF rfl (v := B _) rfl) ?_
            refine AD ?_
            refine CW.condP rfl (fun h292 => ?_) (fun h292 => ?_)
            ·refine SR ?_
             refine V (aV (B false) rfl) ?_
             refine RL.nil ?_
             refine CW.ret ?_
             exact out1 Tryd.results18 rfl ⟨⟨_, rfl, fun h => by first | (cases h; done) | exact hok⟩, hH287.below⟩
            ·refine CW.skip ?_
             refine CW.seq ?_
             refine SR ?_
             have hok : CmdOk c := by
              refine ⟨fun x hx => ?_, fun ho => ?_, fun ho => ?_⟩
              ·have := List.all_eq_true.1 (nf ‹(!wordsR c.names) = false›) x hx; exact this
              ·have h1 := (has_decl ho).1; have h2 := eqB ‹(!(hasF c.op 110 == nameR c.name.text)) = false›; rw [← h2]; exact h1
              ·have h1 := (has_decl ho).2.1; first | (exfalso; have h3 := ‹hasF c.op 119 = false›; rw [h1] at h3; cases h3; done) | omega
             refine V (fA underlying45 0 rfl sizeOf3 e1_13) ?_
             refine V (run_ld underlying3 rfl rfl (hH287.cell (i := 0) rfl (v := I _) rfl)) ?_
             refine RL.callP rfl hH287 (c_clearanceref12_Has _ _  _) (run_call2 call41 rfl (show _ = Value.int .u8 116 from rfl)) ?_
             intro w293 hH294
             refine RL.nil ?_
             refine CW.cond rfl (fun h296 => ?_) (fun h296 => ?_)
             ·refine SR ?_
              refine V (fA underlying45 7 rfl sizeOf43 e1_13) ?_
              refine V (run_ldSub (sub := nodeL _) underlying43 rfl rfl rfl (hH294.blk (i := 0) rfl) rfl) ?_
              refine RL.callT rfl (c_clearanceref10_IsLabel _  _ (hc.left.mono hH294.kw)) (run_call1 call43 rfl) ?_
              rintro _ w299 ⟨⟨b302, rfl⟩, hb300⟩
              have hH301 := hH294.call hb300
              refine V (mV (B _) rfl) ?_
              refine RL.split (dj := 118) rfl (fun h304 => ?_) (fun h304 => ?_)
              ·refine RL.gT rfl (bR (c := true) h304) ?_
               refine V (fA underlying45 12 rfl sizeOf43 e1_13) ?_
               refine RL.gT rfl (bR (c := true) h304) ?_
               refine V (run_ldSub (sub := nodeL _) underlying43 rfl rfl rfl (hH301.blk (i := 0) rfl) rfl) ?_
               refine RL.gT rfl (bR (c := true) h304) ?_
               refine RL.callT rfl (c_clearanceref10_IsLabel _  _ (hc.right.mono hH301.kw)) (run_call1 call43 rfl) ?_
               rintro _ w307 ⟨⟨b310, rfl⟩, hb308⟩
               have hH309 := hH301.call hb308
               refine V (run_pickT (bR (c := true) h304) (v := B _) rfl) ?_
               refine V (aV (B _) rfl) ?_
               refine RL.nil ?_
               refine CW.ret ?_
               exact out1 Tryd.results18 rfl ⟨⟨_, rfl, fun h => by first | (cases h; done) | exact hok⟩, hH309.below⟩
              ·refine RL.gF rfl rfl (bR (c := false) h304) rfl ?_
               refine RL.gF rfl rfl (bR (c := false) h304) rfl ?_
               refine RL.gF rfl rfl (bR (c := false) h304) rfl ?_
               refine V (run_pickF (bR (c := false) h304) (v := B false) rfl) ?_
               refine V (aV (B _) rfl) ?_
               refine RL.nil ?_
               refine CW.ret ?_
               exact out1 Tryd.results18 rfl ⟨⟨_, rfl, fun h => by first | (cases h; done) | exact hok⟩, hH301.below⟩
             ·refine CW.skip ?_
              refine CW.seq ?_
              refine SR ?_
              refine V (fA underlying45 0 rfl sizeOf3 e1_13) ?_
              refine V (run_ld underlying3 rfl rfl (hH294.cell (i := 0) rfl (v := I _) rfl)) ?_
              refine RL.callP rfl hH294 (c_clearanceref12_Has _ _  _) (run_call2 call41 rfl (show _ = Value.int .u8 114 from rfl)) ?_
              intro w312 hH313
              refine RL.nil ?_
              refine CW.cond rfl (fun h315 => ?_) (fun h315 => ?_)
              ·refine SR ?_
               refine V (fA underlying45 7 rfl sizeOf43 e1_13) ?_
               refine V (run_ldSub (sub := nodeL _) underlying43 rfl rfl rfl (hH313.blk (i := 0) rfl) rfl) ?_
               refine RL.callT rfl (c_clearanceref10_IsRow _  _ (hc.left.mono hH313.kw)) (run_call1 call44 rfl) ?_
               rintro _ w318 ⟨⟨b321, rfl⟩, hb319⟩
               have hH320 := hH313.call hb319
               refine V (mV (B _) rfl) ?_
               refine RL.split (dj := 129) rfl (fun h323 => ?_) (fun h323 => ?_)
               ·refine RL.gT rfl (bR (c := true) h323) ?_
                refine V (fA underlying45 12 rfl sizeOf43 e1_13) ?_
                refine RL.gT rfl (bR (c := true) h323) ?_
                refine V (run_ldSub (sub := nodeL _) underlying43 rfl rfl rfl (hH320.blk (i := 0) rfl) rfl) ?_
                refine RL.gT rfl (bR (c := true) h323) ?_
                refine RL.callT rfl (c_clearanceref10_IsRow _  _ (hc.right.mono hH320.kw)) (run_call1 call44 rfl) ?_
                rintro _ w326 ⟨⟨b329, rfl⟩, hb327⟩
                have hH328 := hH320.call hb327
                refine V (run_pickT (bR (c := true) h323) (v := B _) rfl) ?_
                refine V (aV (B _) rfl) ?_
                refine RL.nil ?_
                refine CW.ret ?_
                exact out1 Tryd.results18 rfl ⟨⟨_, rfl, fun h => by first | (cases h; done) | exact hok⟩, hH328.below⟩
               ·refine RL.gF rfl rfl (bR (c := false) h323) rfl ?_
                refine RL.gF rfl rfl (bR (c := false) h323) rfl ?_
                refine RL.gF rfl rfl (bR (c := false) h323) rfl ?_
                refine V (run_pickF (bR (c := false) h323) (v := B false) rfl) ?_
                refine V (aV (B _) rfl) ?_
                refine RL.nil ?_
                refine CW.ret ?_
                exact out1 Tryd.results18 rfl ⟨⟨_, rfl, fun h => by first | (cases h; done) | exact hok⟩, hH320.below⟩
              ·refine CW.skip ?_
               refine SR ?_
               refine V (fA underlying45 7 rfl sizeOf43 e1_13) ?_
               refine V (run_ldSub (sub := nodeL _) underlying43 rfl rfl rfl (hH313.blk (i := 0) rfl) rfl) ?_
               refine RL.callT rfl (c_clearanceref12_zero _  _ (hc.left.mono hH313.kw)) (run_call1 call45 rfl) ?_
               rintro _ w333 ⟨⟨b336, rfl⟩, hb334⟩
               have hH335 := hH313.call hb334
               refine V (mV (B _) rfl) ?_
               refine RL.split (dj := 137) rfl (fun h338 => ?_) (fun h338 => ?_)
               ·refine RL.gT rfl (bR (c := true) h338) ?_
                refine V (fA underlying45 12 rfl sizeOf43 e1_13) ?_
                refine RL.gT rfl (bR (c := true) h338) ?_
                refine V (run_ldSub (sub := nodeL _) underlying43 rfl rfl rfl (hH335.blk (i := 0) rfl) rfl) ?_
                refine RL.gT rfl (bR (c := true) h338) ?_
                refine RL.callT rfl (c_clearanceref12_zero _  _ (hc.right.mono hH335.kw)) (run_call1 call45 rfl) ?_
                rintro _ w341 ⟨⟨b344, rfl⟩, hb342⟩
                have hH343 := hH335.call hb342
                refine V (run_pickT (bR (c := true) h338) (v := B _) rfl) ?_
                refine V (aV (B _) rfl) ?_
                refine RL.nil ?_
                refine CW.ret ?_
                exact out1 Tryd.results18 rfl ⟨⟨_, rfl, fun h => by first | (cases h; done) | exact hok⟩, hH343.below⟩
               ·refine RL.gF rfl rfl (bR (c := false) h338) rfl ?_
                refine RL.gF rfl rfl (bR (c := false) h338) rfl ?_
                refine RL.gF rfl rfl (bR (c := false) h338) rfl ?_
                refine V (run_pickF (bR (c := false) h338) (v := B false) rfl) ?_
                refine V (aV (B _) rfl) ?_
                refine RL.nil ?_
                refine CW.ret ?_
                exact out1 Tryd.results18 rfl ⟨⟨_, rfl, fun h => by first | (cases h; done) | exact hok⟩, hH335.below⟩
           ·refine AK 58 rfl rfl (bR (c := false) h290) (hH287.sub sR) ?_
            refine AK 59 rfl rfl (bR (c := false) h290) (hH287.sub sR) ?_
            refine AK 60 rfl rfl (bR (c := false) h290) (hH287.sub sR) ?_
            refine AK 61 rfl rfl (bR (c := false) h290) (hH287.sub sR) ?_
            refine AG 62 rfl rfl rfl (hH287.sub sR) (fun w hS => run_pickF (bR (c := false) h290) (v := B false) rfl) ?_
            refine AT 63 rfl (hH287.sub sR) (fun w hS => run_pickF rfl (v := B _) rfl) ?_
            refine AD ?_
            refine CW.condF rfl ?_
            refine CW.skip ?_
            refine CW.seq ?_
            refine SR ?_
            have hok : CmdOk c := by
             refine ⟨fun x hx => ?_, fun ho => ?_, fun ho => ?_⟩
             ·have := List.all_eq_true.1 (nf ‹(!wordsR c.names) = false›) x hx; exact this
             ·have h1 := (has_decl ho).1; have h2 := eqB ‹(!(hasF c.op 110 == nameR c.name.text)) = false›; rw [← h2]; exact h1
             ·have h1 := (has_decl ho).2.1; first | (exfalso; have h3 := ‹hasF c.op 119 = false›; rw [h1] at h3; cases h3; done) | omega
            refine V (fA underlying45 0 rfl sizeOf3 e1_13) ?_
            refine V (run_ld underlying3 rfl rfl (hH287.cell (i := 0) rfl (v := I _) rfl)) ?_
            refine RL.callP rfl hH287 (c_clearanceref12_Has _ _  _) (run_call2 call41 rfl (show _ = Value.int .u8 116 from rfl)) ?_
            intro w346 hH347
            refine RL.nil ?_
            refine CW.cond rfl (fun h349 => ?_) (fun h349 => ?_)
            ·refine SR ?_
             refine V (fA underlying45 7 rfl sizeOf43 e1_13) ?_
             refine V (run_ldSub (sub := nodeL _) underlying43 rfl rfl rfl (hH347.blk (i := 0) rfl) rfl) ?_
             refine RL.callT rfl (c_clearanceref10_IsLabel _  _ (hc.left.mono hH347.kw)) (run_call1 call43 rfl) ?_
             rintro _ w352 ⟨⟨b355, rfl⟩, hb353⟩
             have hH354 := hH347.call hb353
             refine V (mV (B _) rfl) ?_
             refine RL.split (dj := 118) rfl (fun h357 => ?_) (fun h357 => ?_)
             ·refine RL.gT rfl (bR (c := true) h357) ?_
              refine V (fA underlying45 12 rfl sizeOf43 e1_13) ?_
              refine RL.gT rfl (bR (c := true) h357) ?_
              refine V (run_ldSub (sub := nodeL _) underlying43 rfl rfl rfl (hH354.blk (i := 0) rfl) rfl) ?_
              refine RL.gT rfl (bR (c := true) h357) ?_
              refine RL.callT rfl (c_clearanceref10_IsLabel _  _ (hc.right.mono hH354.kw)) (run_call1 call43 rfl) ?_
              rintro _ w360 ⟨⟨b363, rfl⟩, hb361⟩
              have hH362 := hH354.call hb361
              refine V (run_pickT (bR (c := true) h357) (v := B _) rfl) ?_
              refine V (aV (B _) rfl) ?_
              refine RL.nil ?_
              refine CW.ret ?_
              exact out1 Tryd.results18 rfl ⟨⟨_, rfl, fun h => by first | (cases h; done) | exact hok⟩, hH362.below⟩
             ·refine RL.gF rfl rfl (bR (c := false) h357) rfl ?_
              refine RL.gF rfl rfl (bR (c := false) h357) rfl ?_
              refine RL.gF rfl rfl (bR (c := false) h357) rfl ?_
              refine V (run_pickF (bR (c := false) h357) (v := B false) rfl) ?_
              refine V (aV (B _) rfl) ?_
              refine RL.nil ?_
              refine CW.ret ?_
              exact out1 Tryd.results18 rfl ⟨⟨_, rfl, fun h => by first | (cases h; done) | exact hok⟩, hH354.below⟩
            ·refine CW.skip ?_
             refine CW.seq ?_
             refine SR ?_
             refine V (fA underlying45 0 rfl sizeOf3 e1_13) ?_
             refine V (run_ld underlying3 rfl rfl (hH347.cell (i := 0) rfl (v := I _) rfl)) ?_
             refine RL.callP rfl hH347 (c_clearanceref12_Has _ _  _) (run_call2 call41 rfl (show _ = Value.int .u8 114 from rfl)) ?_
             intro w365 hH366
             refine RL.nil ?_
             refine CW.cond rfl (fun h368 => ?_) (fun h368 => ?_)
             ·refine SR ?_
              refine V (fA underlying45 7 rfl sizeOf43 e1_13) ?_
              refine V (run_ldSub (sub := nodeL _) underlying43 rfl rfl rfl (hH366.blk (i := 0) rfl) rfl) ?_
              refine RL.callT rfl (c_clearanceref10_IsRow _  _ (hc.left.mono hH366.kw)) (run_call1 call44 rfl) ?_
              rintro _ w371 ⟨⟨b374, rfl⟩, hb372⟩
              have hH373 := hH366.call hb372
              refine V (mV (B _) rfl) ?_
              refine RL.split (dj := 129) rfl (fun h376 => ?_) (fun h376 => ?_)
              ·refine RL.gT rfl (bR (c := true) h376) ?_
               refine V (fA underlying45 12 rfl sizeOf43 e1_13) ?_
               refine RL.gT rfl (bR (c := true) h376) ?_
               refine V (run_ldSub (sub := nodeL _) underlying43 rfl rfl rfl (hH373.blk (i := 0) rfl) rfl) ?_
               refine RL.gT rfl (bR (c := true) h376) ?_
               refine RL.callT rfl (c_clearanceref10_IsRow _  _ (hc.right.mono hH373.kw)) (run_call1 call44 rfl) ?_
               rintro _ w379 ⟨⟨b382, rfl⟩, hb380⟩
               have hH381 := hH373.call hb380
               refine V (run_pickT (bR (c := true) h376) (v := B _) rfl) ?_
               refine V (aV (B _) rfl) ?_
               refine RL.nil ?_
               refine CW.ret ?_
               exact out1 Tryd.results18 rfl ⟨⟨_, rfl, fun h => by first | (cases h; done) | exact hok⟩, hH381.below⟩
              ·refine RL.gF rfl rfl (bR (c := false) h376) rfl ?_
               refine RL.gF rfl rfl (bR (c := false) h376) rfl ?_
               refine RL.gF rfl rfl (bR (c := false) h376) rfl ?_
               refine V (run_pickF (bR (c := false) h376) (v := B false) rfl) ?_
               refine V (aV (B _) rfl) ?_
               refine RL.nil ?_
               refine CW.ret ?_
               exact out1 Tryd.results18 rfl ⟨⟨_, rfl, fun h => by first | (cases h; done) | exact hok⟩, hH373.below⟩
             ·refine CW.skip ?_
              refine SR ?_
              refine V (fA underlying45 7 rfl sizeOf43 e1_13) ?_
              refine V (run_ldSub (sub := nodeL _) underlying43 rfl rfl rfl (hH366.blk (i := 0) rfl) rfl) ?_
              refine RL.callT rfl (c_clearanceref12_zero _  _ (hc.left.mono hH366.kw)) (run_call1 call45 rfl) ?_
              rintro _ w386 ⟨⟨b389, rfl⟩, hb387⟩
              have hH388 := hH366.call hb387
              refine V (mV (B _) rfl) ?_
              refine RL.split (dj := 137) rfl (fun h391 => ?_) (fun h391 => ?_)
              ·refine RL.gT rfl (bR (c := true) h391) ?_
               refine V (fA underlying45 12 rfl sizeOf43 e1_13) ?_
               refine RL.gT rfl (bR (c := true) h391) ?_
               refine V (run_ldSub (sub := nodeL _) underlying43 rfl rfl rfl (hH388.blk (i := 0) rfl) rfl) ?_
               refine RL.gT rfl (bR (c := true) h391) ?_
               refine RL.callT rfl (c_clearanceref12_zero _  _ (hc.right.mono hH388.kw)) (run_call1 call45 rfl) ?_
               rintro _ w394 ⟨⟨b397, rfl⟩, hb395⟩
               have hH396 := hH388.call hb395
               refine V (run_pickT (bR (c := true) h391) (v := B _) rfl) ?_
               refine V (aV (B _) rfl) ?_
               refine RL.nil ?_
               refine CW.ret ?_
               exact out1 Tryd.results18 rfl ⟨⟨_, rfl, fun h => by first | (cases h; done) | exact hok⟩, hH396.below⟩
              ·refine RL.gF rfl rfl (bR (c := false) h391) rfl ?_
               refine RL.gF rfl rfl (bR (c := false) h391) rfl ?_
               refine RL.gF rfl rfl (bR (c := false) h391) rfl ?_
               refine V (run_pickF (bR (c := false) h391) (v := B false) rfl) ?_
               refine V (aV (B _) rfl) ?_
               refine RL.nil ?_
               refine CW.ret ?_
               exact out1 Tryd.results18 rfl ⟨⟨_, rfl, fun h => by first | (cases h; done) | exact hok⟩, hH388.below⟩
         ·refine AK 32 rfl rfl (bR (c := false) h283) (hH45.sub sR) ?_
          refine AK 33 rfl rfl (bR (c := false) h283) (hH45.sub sR) ?_
          refine AK 34 rfl rfl (bR (c := false) h283) (hH45.sub sR) ?_
          refine AK 35 rfl rfl (bR (c := false) h283) (hH45.sub sR) ?_
          refine AG 36 rfl rfl rfl (hH45.sub sR) (fun w hS => run_pickF (bR (c := false) h283) (v := B false) rfl) ?_
          refine AT 37 rfl (hH45.sub sR) (fun w hS => run_pickF rfl (v := B _) rfl) ?_
          refine AT 38 rfl (hH45.sub sR) (fun w hS => mV (B _) rfl) ?_
          refine AG 39 rfl rfl rfl (hH45.sub sR) (fun w hS => mV (B _) rfl) ?_
          refine AG 40 rfl rfl rfl (hH45.sub sR) (fun w hS => run_not (bR (c := false) h51)) ?_
          refine AG 41 rfl rfl rfl (hH45.sub sR) (fun w hS => mV (B _) rfl) ?_
          refine AG 42 rfl rfl rfl (hH45.sub sR) (fun w hS => mV (B _) rfl) ?_
          refine AG 43 rfl rfl rfl (hH45.sub sR) (fun w hS => run_not (bR (c := false) h283)) ?_
          refine AG 44 rfl rfl rfl (hH45.sub sR) (fun w hS => run_pickT rfl (v := B _) rfl) ?_
          refine AG 45 rfl rfl rfl (hH45.sub sR) (fun w hS => mV (B _) rfl) ?_
          refine AG 46 rfl rfl rfl (hH45.sub sR) (fun w hS => fA underlying45 4 rfl sizeOf39 e1_13) ?_
          refine AG 47 rfl rfl rfl (hH45.sub sR) (fun w hS => run_ldV (hc.names.sl.hp hS) underlying39 rfl rfl (hS.cell (i := 0) rfl rfl)) ?_
          refine AG 48 rfl rfl rfl (hH45.sub sR) (fun w hS => run_lenSl (hc.names.sl.hp hS) rfl underlying39 rfl) ?_
          refine AG 49 rfl rfl rfl (hH45.sub sR) (fun w hS => run_gtr rfl rfl) ?_
          refine AG 50 rfl rfl rfl (hH45.sub sR) (fun w hS => run_pickT rfl (v := B _) rfl) ?_
          refine AT 51 rfl (hH45.sub sR) (fun w hS => run_pickF rfl (v := B _) rfl) ?_
          refine AT 52 rfl (hH45.sub sR) (fun w hS => mV (B _) rfl) ?_
          refine AN.splitP (dj := 100) rfl (fun h400 => ?_) (fun h400 => ?_)
          ·refine AK 53 rfl rfl (bT h400) (hH45.sub sR) ?_
           refine AK 54 rfl rfl (bT h400) (hH45.sub sR) ?_
           refine AK 55 rfl rfl (bT h400) (hH45.sub sR) ?_
           refine AK 56 rfl rfl (bT h400) (hH45.sub sR) ?_
           refine AK 57 rfl rfl (bT h400) (hH45.sub sR) ?_
           refine AU 58 rfl rfl rfl (hH45.sub sR) ?_
           refine AU 59 rfl rfl rfl (hH45.sub sR) ?_
           refine AU 60 rfl rfl rfl (hH45.sub sR) ?_
           refine AU 61 rfl rfl rfl (hH45.sub sR) ?_
           refine AK 62 rfl rfl (bT h400) (hH45.sub sR) ?_
           refine AT 63 rfl (hH45.sub sR) (fun w hS => run_pickT (bT h400) (v := B true) rfl) ?_
           refine AD ?_
           refine CW.condT rfl ?_
           refine SR ?_
           refine V (aV (B false) rfl) ?_
           refine RL.nil ?_
           refine CW.ret ?_
           exact out1 Tryd.results18 rfl ⟨⟨_, rfl, fun h => by first | (cases h; done) | exact hok⟩, hH45.below⟩
          ·refine AG 53 rfl rfl (bF h400) (hH45.sub sR) (fun w hS => fA underlying45 0 rfl sizeOf3 e1_13) ?_
           refine AG 54 rfl rfl (bF h400) (hH45.sub sR) (fun w hS => run_ld underlying3 rfl rfl (hS.cell (i := 0) rfl (v := I _) rfl)) ?_
           refine A1 55 ?_
           refine AO.callP rfl (gsome rfl (bF h400)) rfl hH45 sR (c_clearanceref12_Has _ _  _) (run_call2 call41 rfl (show _ = Value.int .u8 112 from rfl)) ?_
           intro w401 hH402
           refine AG 56 rfl rfl (bF h400) (hH402.sub sR) (fun w hS => run_not rfl) ?_
           refine AG 57 rfl rfl (bF h400) (hH402.sub sR) (fun w hS => mV (B _) rfl) ?_
           refine AN.split (dj := 105) rfl (fun h405 => ?_) (fun h405 => ?_)
           ·refine AG 58 rfl rfl (bR (c := true) h405) (hH402.sub sR) (fun w hS => fA underlying45 5 rfl sizeOf40 e1_13) ?_
            refine AG 59 rfl rfl (bR (c := true) h405) (hH402.sub sR) (fun w hS => run_ldV (hc.pairs.sl.hp hS) underlying40 rfl rfl (hS.cell (i := 0) rfl rfl)) ?_
            refine AG 60 rfl rfl (bR (c := true) h405) (hH402.sub sR) (fun w hS => run_lenSl (hc.pairs.sl.hp hS) rfl underlying40 rfl) ?_
            refine AG 61 rfl rfl (bR (c := true) h405) (hH402.sub sR) (fun w hS => run_gtr rfl rfl) ?_
            refine AG 62 rfl rfl (bF h400) (hH402.sub sR) (fun w hS => run_pickT (bR (c := true) h405) (v := B _) rfl) ?_
            refine AT 63 rfl (hH402.sub sR) (fun w hS => run_pickF (bF h400) (v := B _) rfl) ?_
            refine AD ?_
            refine CW.condP rfl (fun h407 => ?_) (fun h407 => ?_)
            ·refine SR ?_
             refine V (aV (B false) rfl) ?_
             refine RL.nil ?_
             refine CW.ret ?_
             exact out1 Tryd.results18 rfl ⟨⟨_, rfl, fun h => by first | (cases h; done) | exact hok⟩, hH402.below⟩
            ·refine CW.skip ?_
             refine CW.seq ?_
             refine SR ?_
             have hok : CmdOk c := by
              refine ⟨fun x hx => ?_, fun ho => ?_, fun ho => ?_⟩
              ·have := List.all_eq_true.1 (nf ‹(!wordsR c.names) = false›) x hx; exact this
              ·have h1 := (has_decl ho).1; have h2 := eqB ‹(!(hasF c.op 110 == nameR c.name.text)) = false›; rw [← h2]; exact h1
              ·have h1 := (has_decl ho).2.1; first | (exfalso; have h3 := ‹hasF c.op 119 = false›; rw [h1] at h3; cases h3; done) | omega
             refine V (fA underlying45 0 rfl sizeOf3 e1_13) ?_
             refine V (run_ld underlying3 rfl rfl (hH402.cell (i := 0) rfl (v := I _) rfl)) ?_
             refine RL.callP rfl hH402 (c_clearanceref12_Has _ _  _) (run_call2 call41 rfl (show _ = Value.int .u8 116 from rfl)) ?_
             intro w408 hH409
             refine RL.nil ?_
             refine CW.cond rfl (fun h411 => ?_) (fun h411 => ?_)
             ·refine SR ?_
              refine V (fA underlying45 7 rfl sizeOf43 e1_13) ?_
              refine V (run_ldSub (sub := nodeL _) underlying43 rfl rfl rfl (hH409.blk (i := 0) rfl) rfl) ?_
              refine RL.callT rfl (c_clearanceref10_IsLabel _  _ (hc.left.mono hH409.kw)) (run_call1 call43 rfl) ?_
              rintro _ w414 ⟨⟨b417, rfl⟩, hb415⟩
              have hH416 := hH409.call hb415
              refine V (mV (B _) rfl) ?_
              refine RL.split (dj := 118) rfl (fun h419 => ?_) (fun h419 => ?_)
              ·refine RL.gT rfl (bR (c := true) h419) ?_
               refine V (fA underlying45 12 rfl sizeOf43 e1_13) ?_
               refine RL.gT rfl (bR (c := true) h419) ?_
               refine V (run_ldSub (sub := nodeL _) underlying43 rfl rfl rfl (hH416.blk (i := 0) rfl) rfl) ?_
               refine RL.gT rfl (bR (c := true) h419) ?_
               refine RL.callT rfl (c_clearanceref10_IsLabel _  _ (hc.right.mono hH416.kw)) (run_call1 call43 rfl) ?_
               rintro _ w422 ⟨⟨b425, rfl⟩, hb423⟩
               have hH424 := hH416.call hb423
               refine V (run_pickT (bR (c := true) h419) (v := B _) rfl) ?_
               refine V (aV (B _) rfl) ?_
               refine RL.nil ?_
               refine CW.ret ?_
               exact out1 Tryd.results18 rfl ⟨⟨_, rfl, fun h => by first | (cases h; done) | exact hok⟩, hH424.below⟩
              ·refine RL.gF rfl rfl (bR (c := false) h419) rfl ?_
               refine RL.gF rfl rfl (bR (c := false) h419) rfl ?_
               refine RL.gF rfl rfl (bR (c := false) h419) rfl ?_
               refine V (run_pickF (bR (c := false) h419) (v := B false) rfl) ?_
               refine V (aV (B _) rfl) ?_
               refine RL.nil ?_
               refine CW.ret ?_
               exact out1 Tryd.results18 rfl ⟨⟨_, rfl, fun h => by first | (cases h; done) | exact hok⟩, hH416.below⟩
             ·refine CW.skip ?_
              refine CW.seq ?_
              refine SR ?_
              refine V (fA underlying45 0 rfl sizeOf3 e1_13) ?_
              refine V (run_ld underlying3 rfl rfl (hH409.cell (i := 0) rfl (v := I _) rfl)) ?_
              refine RL.callP rfl hH409 (c_clearanceref12_Has _ _  _) (run_call2 call41 rfl (show _ = Value.int .u8 114 from rfl)) ?_
              intro w427 hH428
              refine RL.nil ?_
              refine CW.cond rfl (fun h430 => ?_) (fun h430 => ?_)
              ·refine SR ?_
               refine V (fA underlying45 7 rfl sizeOf43 e1_13) ?_
               refine V (run_ldSub (sub := nodeL _) underlying43 rfl rfl rfl (hH428.blk (i := 0) rfl) rfl) ?_
               refine RL.callT rfl (c_clearanceref10_IsRow _  _ (hc.left.mono hH428.kw)) (run_call1 call44 rfl) ?_
               rintro _ w433 ⟨⟨b436, rfl⟩, hb434⟩
               have hH435 := hH428.call hb434
               refine V (mV (B _) rfl) ?_
               refine RL.split (dj := 129) rfl (fun h438 => ?_) (fun h438 => ?_)
               ·refine RL.gT rfl (bR (c := true) h438) ?_
                refine V (fA underlying45 12 rfl sizeOf43 e1_13) ?_
                refine RL.gT rfl (bR (c := true) h438) ?_
                refine V (run_ldSub (sub := nodeL _) underlying43 rfl rfl rfl (hH435.blk (i := 0) rfl) rfl) ?_
                refine RL.gT rfl (bR (c := true) h438) ?_
                refine RL.callT rfl (c_clearanceref10_IsRow _  _ (hc.right.mono hH435.kw)) (run_call1 call44 rfl) ?_
                rintro _ w441 ⟨⟨b444, rfl⟩, hb442⟩
                have hH443 := hH435.call hb442
                refine V (run_pickT (bR (c := true) h438) (v := B _) rfl) ?_
                refine V (aV (B _) rfl) ?_
                refine RL.nil ?_
                refine CW.ret ?_
                exact out1 Tryd.results18 rfl ⟨⟨_, rfl, fun h => by first | (cases h; done) | exact hok⟩, hH443.below⟩
               ·refine RL.gF rfl rfl (bR (c := false) h438) rfl ?_
                refine RL.gF rfl rfl (bR (c := false) h438) rfl ?_
                refine RL.gF rfl rfl (bR (c := false) h438) rfl ?_
                refine V (run_pickF (bR (c := false) h438) (v := B false) rfl) ?_
                refine V (aV (B _) rfl) ?_
                refine RL.nil ?_
                refine CW.ret ?_
                exact out1 Tryd.results18 rfl ⟨⟨_, rfl, fun h => by first | (cases h; done) | exact hok⟩, hH435.below⟩
              ·refine CW.skip ?_
               refine SR ?_
               refine V (fA underlying45 7 rfl sizeOf43 e1_13) ?_
               refine V (run_ldSub (sub := nodeL _) underlying43 rfl rfl rfl (hH428.blk (i := 0) rfl) rfl) ?_
               refine RL.callT rfl (c_clearanceref12_zero _  _ (hc.left.mono hH428.kw)) (run_call1 call45 rfl) ?_
               rintro _ w448 ⟨⟨b451, rfl⟩, hb449⟩
               have hH450 := hH428.call hb449
               refine V (mV (B _) rfl) ?_
               refine RL.split (dj := 137) rfl (fun h453 => ?_) (fun h453 => ?_)
               ·refine RL.gT rfl (bR (c := true) h453) ?_
                refine V (fA underlying45 12 rfl sizeOf43 e1_13) ?_
                refine RL.gT rfl (bR (c := true) h453) ?_
                refine V (run_ldSub (sub := nodeL _) underlying43 rfl rfl rfl (hH450.blk (i := 0) rfl) rfl) ?_
                refine RL.gT rfl (bR (c := true) h453) ?_
                refine RL.callT rfl (c_clearanceref12_zero _  _ (hc.right.mono hH450.kw)) (run_call1 call45 rfl) ?_
                rintro _ w456 ⟨⟨b459, rfl⟩, hb457⟩
                have hH458 := hH450.call hb457
                refine V (run_pickT (bR (c := true) h453) (v := B _) rfl) ?_
                refine V (aV (B _) rfl) ?_
                refine RL.nil ?_
                refine CW.ret ?_
                exact out1 Tryd.results18 rfl ⟨⟨_, rfl, fun h => by first | (cases h; done) | exact hok⟩, hH458.below⟩
               ·refine RL.gF rfl rfl (bR (c := false) h453) rfl ?_
                refine RL.gF rfl rfl (bR (c := false) h453) rfl ?_
                refine RL.gF rfl rfl (bR (c := false) h453) rfl ?_
                refine V (run_pickF (bR (c := false) h453) (v := B false) rfl) ?_
                refine V (aV (B _) rfl) ?_
                refine RL.nil ?_
                refine CW.ret ?_
                exact out1 Tryd.results18 rfl ⟨⟨_, rfl, fun h => by first | (cases h; done) | exact hok⟩, hH450.below⟩
           ·refine AK 58 rfl rfl (bR (c := false) h405) (hH402.sub sR) ?_
            refine AK 59 rfl rfl (bR (c := false) h405) (hH402.sub sR) ?_
            refine AK 60 rfl rfl (bR (c := false) h405) (hH402.sub sR) ?_
            refine AK 61 rfl rfl (bR (c := false) h405) (hH402.sub sR) ?_
            refine AG 62 rfl rfl (bF h400) (hH402.sub sR) (fun w hS => run_pickF (bR (c := false) h405) (v := B false) rfl) ?_
            refine AT 63 rfl (hH402.sub sR) (fun w hS => run_pickF (bF h400) (v := B _) rfl) ?_
            refine AD ?_
            refine CW.condF rfl ?_
            refine CW.skip ?_
            refine CW.seq ?_
            refine SR ?_
            have hok : CmdOk c := by
             refine ⟨fun x hx => ?_, fun ho => ?_, fun ho => ?_⟩
             ·have := List.all_eq_true.1 (nf ‹(!wordsR c.names) = false›) x hx; exact this
             ·have h1 := (has_decl ho).1; have h2 := eqB ‹(!(hasF c.op 110 == nameR c.name.text)) = false›; rw [← h2]; exact h1
             ·have h1 := (has_decl ho).2.1; first | (exfalso; have h3 := ‹hasF c.op 119 = false›; rw [h1] at h3; cases h3; done) | omega
            refine V (fA underlying45 0 rfl sizeOf3 e1_13) ?_
            refine V (run_ld underlying3 rfl rfl (hH402.cell (i := 0) rfl (v := I _) rfl)) ?_
            refine RL.callP rfl hH402 (c_clearanceref12_Has _ _  _) (run_call2 call41 rfl (show _ = Value.int .u8 116 from rfl)) ?_
            intro w461 hH462
            refine RL.nil ?_
            refine CW.cond rfl (fun h464 => ?_) (fun h464 => ?_)
            ·refine SR ?_
             refine V (fA underlying45 7 rfl sizeOf43 e1_13) ?_
             refine V (run_ldSub (sub := nodeL _) underlying43 rfl rfl rfl (hH462.blk (i := 0) rfl) rfl) ?_
             refine RL.callT rfl (c_clearanceref10_IsLabel _  _ (hc.left.mono hH462.kw)) (run_call1 call43 rfl) ?_
             rintro _ w467 ⟨⟨b470, rfl⟩, hb468⟩
             have hH469 := hH462.call hb468
             refine V (mV (B _) rfl) ?_
             refine RL.split (dj := 118) rfl (fun h472 => ?_) (fun h472 => ?_)
             ·refine RL.gT rfl (bR (c := true) h472) ?_
              refine V (fA underlying45 12 rfl sizeOf43 e1_13) ?_
              refine RL.gT rfl (bR (c := true) h472) ?_
              refine V (run_ldSub (sub := nodeL _) underlying43 rfl rfl rfl (hH469.blk (i := 0) rfl) rfl) ?_
              refine RL.gT rfl (bR (c := true) h472) ?_
              refine RL.callT rfl (c_clearanceref10_IsLabel _  _ (hc.right.mono hH469.kw)) (run_call1 call43 rfl) ?_
              rintro _ w475 ⟨⟨b478, rfl⟩, hb476⟩
              have hH477 := hH469.call hb476
              refine V (run_pickT (bR (c := true) h472) (v := B _) rfl) ?_
              refine V (aV (B _) rfl) ?_
              refine RL.nil ?_
              refine CW.ret ?_
              exact out1 Tryd.results18 rfl ⟨⟨_, rfl, fun h => by first | (cases h; done) | exact hok⟩, hH477.below⟩
             ·refine RL.gF rfl rfl (bR (c := false) h472) rfl ?_
              refine RL.gF rfl rfl (bR (c := false) h472) rfl ?_
              refine RL.gF rfl rfl (bR (c := false) h472) rfl ?_
              refine V (run_pickF (bR (c := false) h472) (v := B false) rfl) ?_
              refine V (aV (B _) rfl) ?_
              refine RL.nil ?_
              refine CW.ret ?_
              exact out1 Tryd.results18 rfl ⟨⟨_, rfl, fun h => by first | (cases h; done) | exact hok⟩, hH469.below⟩
            ·refine CW.skip ?_
             refine CW.seq ?_
             refine SR ?_
             refine V (fA underlying45 0 rfl sizeOf3 e1_13) ?_
             refine V (run_ld underlying3 rfl rfl (hH462.cell (i := 0) rfl (v := I _) rfl)) ?_
             refine RL.callP rfl hH462 (c_clearanceref12_Has _ _  _) (run_call2 call41 rfl (show _ = Value.int .u8 114 from rfl)) ?_
             intro w480 hH481
             refine RL.nil ?_
             refine CW.cond rfl (fun h483 => ?_) (fun h483 => ?_)
             ·refine SR ?_
              refine V (fA underlying45 7 rfl sizeOf43 e1_13) ?_
              refine V (run_ldSub (sub := nodeL _) underlying43 rfl rfl rfl (hH481.blk (i := 0) rfl) rfl) ?_
              refine RL.callT rfl (c_clearanceref10_IsRow _  _ (hc.left.mono hH481.kw)) (run_call1 call44 rfl) ?_
              rintro _ w486 ⟨⟨b489, rfl⟩, hb487⟩
              have hH488 := hH481.call hb487
              refine V (mV (B _) rfl) ?_
              refine RL.split (dj := 129) rfl (fun h491 => ?_) (fun h491 => ?_)
              ·refine RL.gT rfl (bR (c := true) h491) ?_
               refine V (fA underlying45 12 rfl sizeOf43 e1_13) ?_
               refine RL.gT rfl (bR (c := true) h491) ?_
               refine V (run_ldSub (sub := nodeL _) underlying43 rfl rfl rfl (hH488.blk (i := 0) rfl) rfl) ?_
               refine RL.gT rfl (bR (c := true) h491) ?_
               refine RL.callT rfl (c_clearanceref10_IsRow _  _ (hc.right.mono hH488.kw)) (run_call1 call44 rfl) ?_
               rintro _ w494 ⟨⟨b497, rfl⟩, hb495⟩
               have hH496 := hH488.call hb495
               refine V (run_pickT (bR (c := true) h491) (v := B _) rfl) ?_
               refine V (aV (B _) rfl) ?_
               refine RL.nil ?_
               refine CW.ret ?_
               exact out1 Tryd.results18 rfl ⟨⟨_, rfl, fun h => by first | (cases h; done) | exact hok⟩, hH496.below⟩
              ·refine RL.gF rfl rfl (bR (c := false) h491) rfl ?_
               refine RL.gF rfl rfl (bR (c := false) h491) rfl ?_
               refine RL.gF rfl rfl (bR (c := false) h491) rfl ?_
               refine V (run_pickF (bR (c := false) h491) (v := B false) rfl) ?_
               refine V (aV (B _) rfl) ?_
               refine RL.nil ?_
               refine CW.ret ?_
               exact out1 Tryd.results18 rfl ⟨⟨_, rfl, fun h => by first | (cases h; done) | exact hok⟩, hH488.below⟩
             ·refine CW.skip ?_
              refine SR ?_
              refine V (fA underlying45 7 rfl sizeOf43 e1_13) ?_
              refine V (run_ldSub (sub := nodeL _) underlying43 rfl rfl rfl (hH481.blk (i := 0) rfl) rfl) ?_
              refine RL.callT rfl (c_clearanceref12_zero _  _ (hc.left.mono hH481.kw)) (run_call1 call45 rfl) ?_
              rintro _ w501 ⟨⟨b504, rfl⟩, hb502⟩
              have hH503 := hH481.call hb502
              refine V (mV (B _) rfl) ?_
              refine RL.split (dj := 137) rfl (fun h506 => ?_) (fun h506 => ?_)
              ·refine RL.gT rfl (bR (c := true) h506) ?_
               refine V (fA underlying45 12 rfl sizeOf43 e1_13) ?_
               refine RL.gT rfl (bR (c := true) h506) ?_
               refine V (run_ldSub (sub := nodeL _) underlying43 rfl rfl rfl (hH503.blk (i := 0) rfl) rfl) ?_
               refine RL.gT rfl (bR (c := true) h506) ?_
               refine RL.callT rfl (c_clearanceref12_zero _  _ (hc.right.mono hH503.kw)) (run_call1 call45 rfl) ?_
               rintro _ w509 ⟨⟨b512, rfl⟩, hb510⟩
               have hH511 := hH503.call hb510
               refine V (run_pickT (bR (c := true) h506) (v := B _) rfl) ?_
               refine V (aV (B _) rfl) ?_
               refine RL.nil ?_
               refine CW.ret ?_
               exact out1 Tryd.results18 rfl ⟨⟨_, rfl, fun h => by first | (cases h; done) | exact hok⟩, hH511.below⟩
              ·refine RL.gF rfl rfl (bR (c := false) h506) rfl ?_
               refine RL.gF rfl rfl (bR (c := false) h506) rfl ?_
               refine RL.gF rfl rfl (bR (c := false) h506) rfl ?_
               refine V (run_pickF (bR (c := false) h506) (v := B false) rfl) ?_
               refine V (aV (B _) rfl) ?_
               refine RL.nil ?_
               refine CW.ret ?_
               exact out1 Tryd.results18 rfl ⟨⟨_, rfl, fun h => by first | (cases h; done) | exact hok⟩, hH503.below⟩
      ·refine AK 14 rfl rfl (bR (c := false) h48) (hH45.sub sR) ?_
       refine AK 15 rfl rfl (bR (c := false) h48) (hH45.sub sR) ?_
       refine AK 16 rfl rfl (bR (c := false) h48) (hH45.sub sR) ?_
       refine AK 17 rfl rfl (bR (c := false) h48) (hH45.sub sR) ?_
       refine AG 18 rfl rfl (bR (c := false) h43) (hH45.sub sR) (fun w hS => run_pickF (bR (c := false) h48) (v := B false) rfl) ?_
       refine AT 19 rfl (hH45.sub sR) (fun w hS => run_pickF (bR (c := false) h43) (v := B _) rfl) ?_
       refine AT 20 rfl (hH45.sub sR) (fun w hS => mV (B _) rfl) ?_
       refine AG 21 rfl rfl rfl (hH45.sub sR) (fun w hS => mV (B _) rfl) ?_
       refine AG 22 rfl rfl rfl (hH45.sub sR) (fun w hS => mV (B _) rfl) ?_
       refine AN.split (dj := 70) rfl (fun h514 => ?_) (fun h514 => ?_)
       ·refine AG 23 rfl rfl (bR (c := true) h514) (hH45.sub sR) (fun w hS => fA underlying45 4 rfl sizeOf39 e1_13) ?_
        refine AG 24 rfl rfl (bR (c := true) h514) (hH45.sub sR) (fun w hS => run_ldV (hc.names.sl.hp hS) underlying39 rfl rfl (hS.cell (i := 0) rfl rfl)) ?_
        refine AG 25 rfl rfl (bR (c := true) h514) (hH45.sub sR) (fun w hS => run_lenSl (hc.names.sl.hp hS) rfl underlying39 rfl) ?_
        refine AG 26 rfl rfl (bR (c := true) h514) (hH45.sub sR) (fun w hS => run_neq rfl rfl) ?_
        refine AG 27 rfl rfl rfl (hH45.sub sR) (fun w hS => run_pickT (bR (c := true) h514) (v := B _) rfl) ?_
        refine AT 28 rfl (hH45.sub sR) (fun w hS => run_pickF rfl (v := B _) rfl) ?_
        refine AT 29 rfl (hH45.sub sR) (fun w hS => mV (B _) rfl) ?_
        refine AN.splitP (dj := 77) rfl (fun h516 => ?_) (fun h516 => ?_)
        ·refine AK 30 rfl rfl (bT h516) (hH45.sub sR) ?_
         refine AK 31 rfl rfl (bT h516) (hH45.sub sR) ?_
         refine AU 32 rfl rfl rfl (hH45.sub sR) ?_
         refine AU 33 rfl rfl rfl (hH45.sub sR) ?_
         refine AU 34 rfl rfl rfl (hH45.sub sR) ?_
         refine AU 35 rfl rfl rfl (hH45.sub sR) ?_
         refine AK 36 rfl rfl (bT h516) (hH45.sub sR) ?_
         refine AT 37 rfl (hH45.sub sR) (fun w hS => run_pickT (bT h516) (v := B true) rfl) ?_
         refine AT 38 rfl (hH45.sub sR) (fun w hS => mV (B _) rfl) ?_
         refine AK 39 rfl rfl rfl (hH45.sub sR) ?_
         refine AK 40 rfl rfl rfl (hH45.sub sR) ?_
         refine AK 41 rfl rfl rfl (hH45.sub sR) ?_
         refine AU 42 rfl rfl rfl (hH45.sub sR) ?_
         refine AU 43 rfl rfl rfl (hH45.sub sR) ?_
         refine AK 44 rfl rfl rfl (hH45.sub sR) ?_
         refine AK 45 rfl rfl rfl (hH45.sub sR) ?_
         refine AU 46 rfl rfl rfl (hH45.sub sR) ?_
         refine AU 47 rfl rfl rfl (hH45.sub sR) ?_
         refine AU 48 rfl rfl rfl (hH45.sub sR) ?_
         refine AU 49 rfl rfl rfl (hH45.sub sR) ?_
         refine AK 50 rfl rfl rfl (hH45.sub sR) ?_
         refine AT 51 rfl (hH45.sub sR) (fun w hS => run_pickT rfl (v := B true) rfl) ?_
         refine AT 52 rfl (hH45.sub sR) (fun w hS => mV (B _) rfl) ?_
         refine AK 53 rfl rfl rfl (hH45.sub sR) ?_
         refine AK 54 rfl rfl rfl (hH45.sub sR) ?_
         refine AK 55 rfl rfl rfl (hH45.sub sR) ?_
         refine AK 56 rfl rfl rfl (hH45.sub sR) ?_
         refine AK 57 rfl rfl rfl (hH45.sub sR) ?_
         refine AU 58 rfl rfl rfl (hH45.sub sR) ?_
         refine AU 59 rfl rfl rfl (hH45.sub sR) ?_
         refine AU 60 rfl rfl rfl (hH45.sub sR) ?_
         refine AU 61 rfl rfl rfl (hH45.sub sR) ?_
         refine AK 62 rfl rfl rfl (hH45.sub sR) ?_
         refine AT 63 rfl (hH45.sub sR) (fun w hS => run_pickT rfl (v := B true) rfl) ?_
         refine AD ?_
         refine CW.condT rfl ?_
         refine SR ?_
         refine V (aV (B false) rfl) ?_
         refine RL.nil ?_
         refine CW.ret ?_
         exact out1 Tryd.results18 rfl ⟨⟨_, rfl, fun h => by first | (cases h; done) | exact hok⟩, hH45.below⟩
        ·refine AG 30 rfl rfl (bF h516) (hH45.sub sR) (fun w hS => mV (B _) rfl) ?_
         refine AG 31 rfl rfl (bF h516) (hH45.sub sR) (fun w hS => mV (B _) rfl) ?_
         refine AN.split (dj := 79) rfl (fun h517 => ?_) (fun h517 => ?_)
         ·refine AG 32 rfl rfl (bR (c := true) h517) (hH45.sub sR) (fun w hS => fA underlying45 4 rfl sizeOf39 e1_13) ?_
          refine AG 33 rfl rfl (bR (c := true) h517) (hH45.sub sR) (fun w hS => run_ldV (hc.names.sl.hp hS) underlying39 rfl rfl (hS.cell (i := 0) rfl rfl)) ?_
          refine AG 34 rfl rfl (bR (c := true) h517) (hH45.sub sR) (fun w hS => run_lenSl (hc.names.sl.hp hS) rfl underlying39 rfl) ?_
          refine AG 35 rfl rfl (bR (c := true) h517) (hH45.sub sR) (fun w hS => run_eql rfl rfl) ?_
          refine AG 36 rfl rfl (bF h516) (hH45.sub sR) (fun w hS => run_pickT (bR (c := true) h517) (v := B _) rfl) ?_
          refine AT 37 rfl (hH45.sub sR) (fun w hS => run_pickF (bF h516) (v := B _) rfl) ?_
          refine AT 38 rfl (hH45.sub sR) (fun w hS => mV (B _) rfl) ?_
          refine AN.splitP (dj := 86) rfl (fun h519 => ?_) (fun h519 => ?_)
          ·refine AK 39 rfl rfl (bT h519) (hH45.sub sR) ?_
           refine AK 40 rfl rfl (bT h519) (hH45.sub sR) ?_
           refine AK 41 rfl rfl (bT h519) (hH45.sub sR) ?_
           refine AU 42 rfl rfl rfl (hH45.sub sR) ?_
           refine AU 43 rfl rfl rfl (hH45.sub sR) ?_
           refine AK 44 rfl rfl (bT h519) (hH45.sub sR) ?_
           refine AK 45 rfl rfl (bT h519) (hH45.sub sR) ?_
           refine AU 46 rfl rfl rfl (hH45.sub sR) ?_
           refine AU 47 rfl rfl rfl (hH45.sub sR) ?_
           refine AU 48 rfl rfl rfl (hH45.sub sR) ?_
           refine AU 49 rfl rfl rfl (hH45.sub sR) ?_
           refine AK 50 rfl rfl (bT h519) (hH45.sub sR) ?_
           refine AT 51 rfl (hH45.sub sR) (fun w hS => run_pickT (bT h519) (v := B true) rfl) ?_
           refine AT 52 rfl (hH45.sub sR) (fun w hS => mV (B _) rfl) ?_
           refine AK 53 rfl rfl rfl (hH45.sub sR) ?_
           refine AK 54 rfl rfl rfl (hH45.sub sR) ?_
           refine AK 55 rfl rfl rfl (hH45.sub sR) ?_
           refine AK 56 rfl rfl rfl (hH45.sub sR) ?_
           refine AK 57 rfl rfl rfl (hH45.sub sR) ?_
           refine AU 58 rfl rfl rfl (hH45.sub sR) ?_
           refine AU 59 rfl rfl rfl (hH45.sub sR) ?_
           refine AU 60 rfl rfl rfl (hH45.sub sR) ?_
           refine AU 61 rfl rfl rfl (hH45.sub sR) ?_
           refine AK 62 rfl rfl rfl (hH45.sub sR) ?_
           refine AT 63 rfl (hH45.sub sR) (fun w hS => run_pickT rfl (v := B true) rfl) ?_
           refine AD ?_
           refine CW.condT rfl ?_
           refine SR ?_
           refine V (aV (B false) rfl) ?_
           refine RL.nil ?_
           refine CW.ret ?_
           exact out1 Tryd.results18 rfl ⟨⟨_, rfl, fun h => by first | (cases h; done) | exact hok⟩, hH45.below⟩
          ·refine AG 39 rfl rfl (bF h519) (hH45.sub sR) (fun w hS => mV (B _) rfl) ?_
           refine AG 40 rfl rfl (bF h519) (hH45.sub sR) (fun w hS => run_not (bR (c := true) h514)) ?_
           refine AG 41 rfl rfl (bF h519) (hH45.sub sR) (fun w hS => mV (B _) rfl) ?_
           refine AK 42 rfl rfl rfl (hH45.sub sR) ?_
           refine AK 43 rfl rfl rfl (hH45.sub sR) ?_
           refine AG 44 rfl rfl (bF h519) (hH45.sub sR) (fun w hS => run_pickF rfl (v := B false) rfl) ?_
           refine AG 45 rfl rfl (bF h519) (hH45.sub sR) (fun w hS => mV (B _) rfl) ?_
           refine AK 46 rfl rfl rfl (hH45.sub sR) ?_
           refine AK 47 rfl rfl rfl (hH45.sub sR) ?_
           refine AK 48 rfl rfl rfl (hH45.sub sR) ?_
           refine AK 49 rfl rfl rfl (hH45.sub sR) ?_
           refine AG 50 rfl rfl (bF h519) (hH45.sub sR) (fun w hS => run_pickF rfl (v := B false) rfl) ?_
           refine AT 51 rfl (hH45.sub sR) (fun w hS => run_pickF (bF h519) (v := B _) rfl) ?_
           refine AT 52 rfl (hH45.sub sR) (fun w hS => mV (B _) rfl) ?_
           refine AG 53 rfl rfl rfl (hH45.sub sR) (fun w hS => fA underlying45 0 rfl sizeOf3 e1_13) ?_
           refine AG 54 rfl rfl rfl (hH45.sub sR) (fun w hS => run_ld underlying3 rfl rfl (hS.cell (i := 0) rfl (v := I _) rfl)) ?_
           refine A1 55 ?_
           refine AO.callP rfl (gsome rfl rfl) rfl hH45 sR (c_clearanceref12_Has _ _  _) (run_call2 call41 rfl (show _ = Value.int .u8 112 from rfl)) ?_
           intro w520 hH521
           refine AG 56 rfl rfl rfl (hH521.sub sR) (fun w hS => run_not rfl) ?_
           refine AG 57 rfl rfl rfl (hH521.sub sR) (fun w hS => mV (B _) rfl) ?_
           refine AN.split (dj := 105) rfl (fun h524 => ?_) (fun h524 => ?_)
           ·refine AG 58 rfl rfl (bR (c := true) h524) (hH521.sub sR) (fun w hS => fA underlying45 5 rfl sizeOf40 e1_13) ?_
            refine AG 59 rfl rfl (bR (c := true) h524) (hH521.sub sR) (fun w hS => run_ldV (hc.pairs.sl.hp hS) underlying40 rfl rfl (hS.cell (i := 0) rfl rfl)) ?_
            refine AG 60 rfl rfl (bR (c := true) h524) (hH521.sub sR) (fun w hS => run_lenSl (hc.pairs.sl.hp hS) rfl underlying40 rfl) ?_
            refine AG 61 rfl rfl (bR (c := true) h524) (hH521.sub sR) (fun w hS => run_gtr rfl rfl) ?_
            refine AG 62 rfl rfl rfl (hH521.sub sR) (fun w hS => run_pickT (bR (c := true) h524) (v := B _) rfl) ?_
            refine AT 63 rfl (hH521.sub sR) (fun w hS => run_pickF rfl (v := B _) rfl) ?_
            refine AD ?_
            refine CW.condP rfl (fun h526 => ?_) (fun h526 => ?_)
            ·refine SR ?_
             refine V (aV (B false) rfl) ?_
             refine RL.nil ?_
             refine CW.ret ?_
             exact out1 Tryd.results18 rfl ⟨⟨_, rfl, fun h => by first | (cases h; done) | exact hok⟩, hH521.below⟩
            ·refine CW.skip ?_
             refine CW.seq ?_
             refine SR ?_
             have hok : CmdOk c := by
              refine ⟨fun x hx => ?_, fun ho => ?_, fun ho => ?_⟩
              ·have := List.all_eq_true.1 (nf ‹(!wordsR c.names) = false›) x hx; exact this
              ·have h1 := (has_decl ho).1; have h2 := eqB ‹(!(hasF c.op 110 == nameR c.name.text)) = false›; rw [← h2]; exact h1
              ·have h1 := (has_decl ho).2.1; first | (exfalso; have h3 := ‹hasF c.op 119 = false›; rw [h1] at h3; cases h3; done) | omega
             refine V (fA underlying45 0 rfl sizeOf3 e1_13) ?_
             refine V (run_ld underlying3 rfl rfl (hH521.cell (i := 0) rfl (v := I _) rfl)) ?_
             refine RL.callP rfl hH521 (c_clearanceref12_Has _ _  _) (run_call2 call41 rfl (show _ = Value.int .u8 116 from rfl)) ?_
             intro w527 hH528
             refine RL.nil ?_
             refine CW.cond rfl (fun h530 => ?_) (fun h530 => ?_)
             ·refine SR ?_
              refine V (fA underlying45 7 rfl sizeOf43 e1_13) ?_
              refine V (run_ldSub (sub := nodeL _) underlying43 rfl rfl rfl (hH528.blk (i := 0) rfl) rfl) ?_
              refine RL.callT rfl (c_clearanceref10_IsLabel _  _ (hc.left.mono hH528.kw)) (run_call1 call43 rfl) ?_
              rintro _ w533 ⟨⟨b536, rfl⟩, hb534⟩
              have hH535 := hH528.call hb534
              refine V (mV (B _) rfl) ?_
              refine RL.split (dj := 118) rfl (fun h538 => ?_) (fun h538 => ?_)
              ·refine RL.gT rfl (bR (c := true) h538) ?_
               refine V (fA underlying45 12 rfl sizeOf43 e1_13) ?_
               refine RL.gT rfl (bR (c := true) h538) ?_
               refine V (run_ldSub (sub := nodeL _) underlying43 rfl rfl rfl (hH535.blk (i := 0) rfl) rfl) ?_
               refine RL.gT rfl (bR (c := true) h538) ?_
               refine RL.callT rfl (c_clearanceref10_IsLabel _  _ (hc.right.mono hH535.kw)) (run_call1 call43 rfl) ?_
               rintro _ w541 ⟨⟨b544, rfl⟩, hb542⟩
               have hH543 := hH535.call hb542
               refine V (run_pickT (bR (c := true) h538) (v := B _) rfl) ?_
               refine V (aV (B _) rfl) ?_
               refine RL.nil ?_
               refine CW.ret ?_
               exact out1 Tryd.results18 rfl ⟨⟨_, rfl, fun h => by first | (cases h; done) | exact hok⟩, hH543.below⟩
              ·refine RL.gF rfl rfl (bR (c := false) h538) rfl ?_
               refine RL.gF rfl rfl (bR (c := false) h538) rfl ?_
               refine RL.gF rfl rfl (bR (c := false) h538) rfl ?_
               refine V (run_pickF (bR (c := false) h538) (v := B false) rfl) ?_
               refine V (aV (B _) rfl) ?_
               refine RL.nil ?_
               refine CW.ret ?_
               exact out1 Tryd.results18 rfl ⟨⟨_, rfl, fun h => by first | (cases h; done) | exact hok⟩, hH535.below⟩
             ·refine CW.skip ?_
              refine CW.seq ?_
              refine SR ?_
              refine V (fA underlying45 0 rfl sizeOf3 e1_13) ?_
              refine V (run_ld underlying3 rfl rfl (hH528.cell (i := 0) rfl (v := I _) rfl)) ?_
              refine RL.callP rfl hH528 (c_clearanceref12_Has _ _  _) (run_call2 call41 rfl (show _ = Value.int .u8 114 from rfl)) ?_
              intro w546 hH547
              refine RL.nil ?_
              refine CW.cond rfl (fun h549 => ?_) (fun h549 => ?_)
              ·refine SR ?_
               refine V (fA underlying45 7 rfl sizeOf43 e1_13) ?_
               refine V (run_ldSub (sub := nodeL _) underlying43 rfl rfl rfl (hH547.blk (i := 0) rfl) rfl) ?_
               refine RL.callT rfl (c_clearanceref10_IsRow _  _ (hc.left.mono hH547.kw)) (run_call1 call44 rfl) ?_
               rintro _ w552 ⟨⟨b555, rfl⟩, hb553⟩
               have hH554 := hH547.call hb553
               refine V (mV (B _) rfl) ?_
               refine RL.split (dj := 129) rfl (fun h557 => ?_) (fun h557 => ?_)
               ·refine RL.gT rfl (bR (c := true) h557) ?_
                refine V (fA underlying45 12 rfl sizeOf43 e1_13) ?_
                refine RL.gT rfl (bR (c := true) h557) ?_
                refine V (run_ldSub (sub := nodeL _) underlying43 rfl rfl rfl (hH554.blk (i := 0) rfl) rfl) ?_
                refine RL.gT rfl (bR (c := true) h557) ?_
                refine RL.callT rfl (c_clearanceref10_IsRow _  _ (hc.right.mono hH554.kw)) (run_call1 call44 rfl) ?_
                rintro _ w560 ⟨⟨b563, rfl⟩, hb561⟩
                have hH562 := hH554.call hb561
                refine V (run_pickT (bR (c := true) h557) (v := B _) rfl) ?_
                refine V (aV (B _) rfl) ?_
                refine RL.nil ?_
                refine CW.ret ?_
                exact out1 Tryd.results18 rfl ⟨⟨_, rfl, fun h => by first | (cases h; done) | exact hok⟩, hH562.below⟩
               ·refine RL.gF rfl rfl (bR (c := false) h557) rfl ?_
                refine RL.gF rfl rfl (bR (c := false) h557) rfl ?_
                refine RL.gF rfl rfl (bR (c := false) h557) rfl ?_
                refine V (run_pickF (bR (c := false) h557) (v := B false) rfl) ?_
                refine V (aV (B _) rfl) ?_
                refine RL.nil ?_
                refine CW.ret ?_
                exact out1 Tryd.results18 rfl ⟨⟨_, rfl, fun h => by first | (cases h; done) | exact hok⟩, hH554.below⟩
              ·refine CW.skip ?_
               refine SR ?_
               refine V (fA underlying45 7 rfl sizeOf43 e1_13) ?_
               refine V (run_ldSub (sub := nodeL _) underlying43 rfl rfl rfl (hH547.blk (i := 0) rfl) rfl) ?_
               refine RL.callT rfl (c_clearanceref12_zero _  _ (hc.left.mono hH547.kw)) (run_call1 call45 rfl) ?_
               rintro _ w567 ⟨⟨b570, rfl⟩, hb568⟩
               have hH569 := hH547.call hb568
               refine V (mV (B _) rfl) ?_
               refine RL.split (dj := 137) rfl (fun h572 => ?_) (fun h572 => ?_)
               ·refine RL.gT rfl (bR (c := true) h572) ?_
                refine V (fA underlying45 12 rfl sizeOf43 e1_13) ?_
                refine RL.gT rfl (bR (c := true) h572) ?_
                refine V (run_ldSub (sub := nodeL _) underlying43 rfl rfl rfl (hH569.blk (i := 0) rfl) rfl) ?_
                refine RL.gT rfl (bR (c := true) h572) ?_
                refine RL.callT rfl (c_clearanceref12_zero _  _ (hc.right.mono hH569.kw)) (run_call1 call45 rfl) ?_
                rintro _ w575 ⟨⟨b578, rfl⟩, hb576⟩
                have hH577 := hH569.call hb576
                refine V (run_pickT (bR (c := true) h572) (v := B _) rfl) ?_
                refine V (aV (B _) rfl) ?_
                refine RL.nil ?_
                refine CW.ret ?_
                exact out1 Tryd.results18 rfl ⟨⟨_, rfl, fun h => by first | (cases h; done) | exact hok⟩, hH577.below⟩
               ·refine RL.gF rfl rfl (bR (c := false) h572) rfl ?_
                refine RL.gF rfl rfl (bR (c := false) h572) rfl ?_
                refine RL.gF rfl rfl (bR (c := false) h572) rfl ?_
                refine V (run_pickF (bR (c := false) h572) (v := B false) rfl) ?_
                refine V (aV (B _) rfl) ?_
                refine RL.nil ?_
                refine CW.ret ?_
                exact out1 Tryd.results18 rfl ⟨⟨_, rfl, fun h => by first | (cases h; done) | exact hok⟩, hH569.below⟩
           ·refine AK 58 rfl rfl (bR (c := false) h524) (hH521.sub sR) ?_
            refine AK 59 rfl rfl (bR (c := false) h524) (hH521.sub sR) ?_
            refine AK 60 rfl rfl (bR (c := false) h524) (hH521.sub sR) ?_
            refine AK 61 rfl rfl (bR (c := false) h524) (hH521.sub sR) ?_
            refine AG 62 rfl rfl rfl (hH521.sub sR) (fun w hS => run_pickF (bR (c := false) h524) (v := B false) rfl) ?_
            refine AT 63 rfl (hH521.sub sR) (fun w hS => run_pickF rfl (v := B _) rfl) ?_
            refine AD ?_
            refine CW.condF rfl ?_
            refine CW.skip ?_
            refine CW.seq ?_
            refine SR ?_
            have hok : CmdOk c := by
             refine ⟨fun x hx => ?_, fun ho => ?_, fun ho => ?_⟩
             ·have := List.all_eq_true.1 (nf ‹(!wordsR c.names) = false›) x hx; exact this
             ·have h1 := (has_decl ho).1; have h2 := eqB ‹(!(hasF c.op 110 == nameR c.name.text)) = false›; rw [← h2]; exact h1
             ·have h1 := (has_decl ho).2.1; first | (exfalso; have h3 := ‹hasF c.op 119 = false›; rw [h1] at h3; cases h3; done) | omega
            refine V (fA underlying45 0 rfl sizeOf3 e1_13) ?_
            refine V (run_ld underlying3 rfl rfl (hH521.cell (i := 0) rfl (v := I _) rfl)) ?_
            refine RL.callP rfl hH521 (c_clearanceref12_Has _ _  _) (run_call2 call41 rfl (show _ = Value.int .u8 116 from rfl)) ?_
            intro w580 hH581
            refine RL.nil ?_
            refine CW.cond rfl (fun h583 => ?_) (fun h583 => ?_)
            ·refine SR ?_
             refine V (fA underlying45 7 rfl sizeOf43 e1_13) ?_
             refine V (run_ldSub (sub := nodeL _) underlying43 rfl rfl rfl (hH581.blk (i := 0) rfl) rfl) ?_
             refine RL.callT rfl (c_clearanceref10_IsLabel _  _ (hc.left.mono hH581.kw)) (run_call1 call43 rfl) ?_
             rintro _ w586 ⟨⟨b589, rfl⟩, hb587⟩
             have hH588 := hH581.call hb587
             refine V (mV (B _) rfl) ?_
             refine RL.split (dj := 118) rfl (fun h591 => ?_) (fun h591 => ?_)
             ·refine RL.gT rfl (bR (c := true) h591) ?_
              refine V (fA underlying45 12 rfl sizeOf43 e1_13) ?_
              refine RL.gT rfl (bR (c := true) h591) ?_
              refine V (run_ldSub (sub := nodeL _) underlying43 rfl rfl rfl (hH588.blk (i := 0) rfl) rfl) ?_
              refine RL.gT rfl (bR (c := true) h591) ?_
              refine RL.callT rfl (c_clearanceref10_IsLabel _  _ (hc.right.mono hH588.kw)) (run_call1 call43 rfl) ?_
              rintro _ w594 ⟨⟨b597, rfl⟩, hb595⟩
              have hH596 := hH588.call hb595
              refine V (run_pickT (bR (c := true) h591) (v := B _) rfl) ?_
              refine V (aV (B _) rfl) ?_
              refine RL.nil ?_
              refine CW.ret ?_
              exact out1 Tryd.results18 rfl ⟨⟨_, rfl, fun h => by first | (cases h; done) | exact hok⟩, hH596.below⟩
             ·refine RL.gF rfl rfl (bR (c := false) h591) rfl ?_
              refine RL.gF rfl rfl (bR (c := false) h591) rfl ?_
              refine RL.gF rfl rfl (bR (c := false) h591) rfl ?_
              refine V (run_pickF (bR (c := false) h591) (v := B false) rfl) ?_
              refine V (aV (B _) rfl) ?_
              refine RL.nil ?_
              refine CW.ret ?_
              exact out1 Tryd.results18 rfl ⟨⟨_, rfl, fun h => by first | (cases h; done) | exact hok⟩, hH588.below⟩
            ·refine CW.skip ?_
             refine CW.seq ?_
             refine SR ?_
             refine V (fA underlying45 0 rfl sizeOf3 e1_13) ?_
             refine V (run_ld underlying3 rfl rfl (hH581.cell (i := 0) rfl (v := I _) rfl)) ?_
             refine RL.callP rfl hH581 (c_clearanceref12_Has _ _  _) (run_call2 call41 rfl (show _ = Value.int .u8 114 from rfl)) ?_
             intro w599 hH600
             refine RL.nil ?_
             refine CW.cond rfl (fun h602 => ?_) (fun h602 => ?_)
             ·refine SR ?_
              refine V (fA underlying45 7 rfl sizeOf43 e1_13) ?_
              refine V (run_ldSub (sub := nodeL _) underlying43 rfl rfl rfl (hH600.blk (i := 0) rfl) rfl) ?_
              refine RL.callT rfl (c_clearanceref10_IsRow _  _ (hc.left.mono hH600.kw)) (run_call1 call44 rfl) ?_
              rintro _ w605 ⟨⟨b608, rfl⟩, hb606⟩
              have hH607 := hH600.call hb606
              refine V (mV (B _) rfl) ?_
              refine RL.split (dj := 129) rfl (fun h610 => ?_) (fun h610 => ?_)
              ·refine RL.gT rfl (bR (c := true) h610) ?_
               refine V (fA underlying45 12 rfl sizeOf43 e1_13) ?_
               refine RL.gT rfl (bR (c := true) h610) ?_
               refine V (run_ldSub (sub := nodeL _) underlying43 rfl rfl rfl (hH607.blk (i := 0) rfl) rfl) ?_
               refine RL.gT rfl (bR (c := true) h610) ?_
               refine RL.callT rfl (c_clearanceref10_IsRow _  _ (hc.right.mono hH607.kw)) (run_call1 call44 rfl) ?_
               rintro _ w613 ⟨⟨b616, rfl⟩, hb614⟩
               have hH615 := hH607.call hb614
               refine V (run_pickT (bR (c := true) h610) (v := B _) rfl) ?_
               refine V (aV (B _) rfl) ?_
               refine RL.nil ?_
               refine CW.ret ?_
               exact out1 Tryd.results18 rfl ⟨⟨_, rfl, fun h => by first | (cases h; done) | exact hok⟩, hH615.below⟩
              ·refine RL.gF rfl rfl (bR (c := false) h610) rfl ?_
               refine RL.gF rfl rfl (bR (c := false) h610) rfl ?_
               refine RL.gF rfl rfl (bR (c := false) h610) rfl ?_
               refine V (run_pickF (bR (c := false) h610) (v := B false) rfl) ?_
               refine V (aV (B _) rfl) ?_
               refine RL.nil ?_
               refine CW.ret ?_
               exact out1 Tryd.results18 rfl ⟨⟨_, rfl, fun h => by first | (cases h; done) | exact hok⟩, hH607.below⟩
             ·refine CW.skip ?_
              refine SR ?_
              refine V (fA underlying45 7 rfl sizeOf43 e1_13) ?_
              refine V (run_ldSub (sub := nodeL _) underlying43 rfl rfl rfl (hH600.blk (i := 0) rfl) rfl) ?_
              refine RL.callT rfl (c_clearanceref12_zero _  _ (hc.left.mono hH600.kw)) (run_call1 call45 rfl) ?_
              rintro _ w620 ⟨⟨b623, rfl⟩, hb621⟩
              have hH622 := hH600.call hb621
              refine V (mV (B _) rfl) ?_
              refine RL.split (dj := 137) rfl (fun h625 => ?_) (fun h625 => ?_)
              ·refine RL.gT rfl (bR (c := true) h625) ?_
               refine V (fA underlying45 12 rfl sizeOf43 e1_13) ?_
               refine RL.gT rfl (bR (c := true) h625) ?_
               refine V (run_ldSub (sub := nodeL _) underlying43 rfl rfl rfl (hH622.blk (i := 0) rfl) rfl) ?_
               refine RL.gT rfl (bR (c := true) h625) ?_
               refine RL.callT rfl (c_clearanceref12_zero _  _ (hc.right.mono hH622.kw)) (run_call1 call45 rfl) ?_
               rintro _ w628 ⟨⟨b631, rfl⟩, hb629⟩
               have hH630 := hH622.call hb629
               refine V (run_pickT (bR (c := true) h625) (v := B _) rfl) ?_
               refine V (aV (B _) rfl) ?_
               refine RL.nil ?_
               refine CW.ret ?_
               exact out1 Tryd.results18 rfl ⟨⟨_, rfl, fun h => by first | (cases h; done) | exact hok⟩, hH630.below⟩
              ·refine RL.gF rfl rfl (bR (c := false) h625) rfl ?_
               refine RL.gF rfl rfl (bR (c := false) h625) rfl ?_
               refine RL.gF rfl rfl (bR (c := false) h625) rfl ?_
               refine V (run_pickF (bR (c := false) h625) (v := B false) rfl) ?_
               refine V (aV (B _) rfl) ?_
               refine RL.nil ?_
               refine CW.ret ?_
               exact out1 Tryd.results18 rfl ⟨⟨_, rfl, fun h => by first | (cases h; done) | exact hok⟩, hH622.below⟩
         ·refine AK 32 rfl rfl (bR (c := false) h517) (hH45.sub sR) ?_
          refine AK 33 rfl rfl (bR (c := false) h517) (hH45.sub sR) ?_
          refine AK 34 rfl rfl (bR (c := false) h517) (hH45.sub sR) ?_
          refine AK 35 rfl rfl (bR (c := false) h517) (hH45.sub sR) ?_
          refine AG 36 rfl rfl (bF h516) (hH45.sub sR) (fun w hS => run_pickF (bR (c := false) h517) (v := B false) rfl) ?_
          refine AT 37 rfl (hH45.sub sR) (fun w hS => run_pickF (bF h516) (v := B _) rfl) ?_
          refine AT 38 rfl (hH45.sub sR) (fun w hS => mV (B _) rfl) ?_
          refine AG 39 rfl rfl rfl (hH45.sub sR) (fun w hS => mV (B _) rfl) ?_
          refine AG 40 rfl rfl rfl (hH45.sub sR) (fun w hS => run_not (bR (c := true) h514)) ?_
          refine AG 41 rfl rfl rfl (hH45.sub sR) (fun w hS => mV (B _) rfl) ?_
          refine AK 42 rfl rfl rfl (hH45.sub sR) ?_
          refine AK 43 rfl rfl rfl (hH45.sub sR) ?_
          refine AG 44 rfl rfl rfl (hH45.sub sR) (fun w hS => run_pickF rfl (v := B false) rfl) ?_
          refine AG 45 rfl rfl rfl (hH45.sub sR) (fun w hS => mV (B _) rfl) ?_
          refine AK 46 rfl rfl rfl (hH45.sub sR) ?_
          refine AK 47 rfl rfl rfl (hH45.sub sR) ?_
          refine AK 48 rfl rfl rfl (hH45.sub sR) ?_
          refine AK 49 rfl rfl rfl (hH45.sub sR) ?_
          refine AG 50 rfl rfl rfl (hH45.sub sR) (fun w hS => run_pickF rfl (v := B false) rfl) ?_
          refine AT 51 rfl (hH45.sub sR) (fun w hS => run_pickF rfl (v := B _) rfl) ?_
          refine AT 52 rfl (hH45.sub sR) (fun w hS => mV (B _) rfl) ?_
          refine AG 53 rfl rfl rfl (hH45.sub sR) (fun w hS => fA underlying45 0 rfl sizeOf3 e1_13) ?_
          refine AG 54 rfl rfl rfl (hH45.sub sR) (fun w hS => run_ld underlying3 rfl rfl (hS.cell (i := 0) rfl (v := I _) rfl)) ?_
          refine A1 55 ?_
          refine AO.callP rfl (gsome rfl rfl) rfl hH45 sR (c_clearanceref12_Has _ _  _) (run_call2 call41 rfl (show _ = Value.int .u8 112 from rfl)) ?_
          intro w633 hH634
          refine AG 56 rfl rfl rfl (hH634.sub sR) (fun w hS => run_not rfl) ?_
          refine AG 57 rfl rfl rfl (hH634.sub sR) (fun w hS => mV (B _) rfl) ?_
          refine AN.split (dj := 105) rfl (fun h637 => ?_) (fun h637 => ?_)
          ·refine AG 58 rfl rfl (bR (c := true) h637) (hH634.sub sR) (fun w hS => fA underlying45 5 rfl sizeOf40 e1_13) ?_
           refine AG 59 rfl rfl (bR (c := true) h637) (hH634.sub sR) (fun w hS => run_ldV (hc.pairs.sl.hp hS) underlying40 rfl rfl (hS.cell (i := 0) rfl rfl)) ?_
           refine AG 60 rfl rfl (bR (c := true) h637) (hH634.sub sR) (fun w hS => run_lenSl (hc.pairs.sl.hp hS) rfl underlying40 rfl) ?_
           refine AG 61 rfl rfl (bR (c := true) h637) (hH634.sub sR) (fun w hS => run_gtr rfl rfl) ?_
           refine AG 62 rfl rfl rfl (hH634.sub sR) (fun w hS => run_pickT (bR (c := true) h637) (v := B _) rfl) ?_
           refine AT 63 rfl (hH634.sub sR) (fun w hS => run_pickF rfl (v := B _) rfl) ?_
           refine AD ?_
           refine CW.condP rfl (fun h639 => ?_) (fun h639 => ?_)
           ·refine SR ?_
            refine V (aV (B false) rfl) ?_
            refine RL.nil ?_
            refine CW.ret ?_
            exact out1 Tryd.results18 rfl ⟨⟨_, rfl, fun h => by first | (cases h; done) | exact hok⟩, hH634.below⟩
           ·refine CW.skip ?_
            refine CW.seq ?_
            refine SR ?_
            have hok : CmdOk c := by
             refine ⟨fun x hx => ?_, fun ho => ?_, fun ho => ?_⟩
             ·have := List.all_eq_true.1 (nf ‹(!wordsR c.names) = false›) x hx; exact this
             ·have h1 := (has_decl ho).1; have h2 := eqB ‹(!(hasF c.op 110 == nameR c.name.text)) = false›; rw [← h2]; exact h1
             ·have h1 := (has_decl ho).2.1; first | (exfalso; have h3 := ‹hasF c.op 119 = false›; rw [h1] at h3; cases h3; done) | omega
            refine V (fA underlying45 0 rfl sizeOf3 e1_13) ?_
            refine V (run_ld underlying3 rfl rfl (hH634.cell (i := 0) rfl (v := I _) rfl)) ?_
            refine RL.callP rfl hH634 (c_clearanceref12_Has _ _  _) (run_call2 call41 rfl (show _ = Value.int .u8 116 from rfl)) ?_
            intro w640 hH641
            refine RL.nil ?_
            refine CW.cond rfl (fun h643 => ?_) (fun h643 => ?_)
            ·refine SR ?_
             refine V (fA underlying45 7 rfl sizeOf43 e1_13) ?_
             refine V (run_ldSub (sub := nodeL _) underlying43 rfl rfl rfl (hH641.blk (i := 0) rfl) rfl) ?_
             refine RL.callT rfl (c_clearanceref10_IsLabel _  _ (hc.left.mono hH641.kw)) (run_call1 call43 rfl) ?_
             rintro _ w646 ⟨⟨b649, rfl⟩, hb647⟩
             have hH648 := hH641.call hb647
             refine V (mV (B _) rfl) ?_
             refine RL.split (dj := 118) rfl (fun h651 => ?_) (fun h651 => ?_)
             ·refine RL.gT rfl (bR (c := true) h651) ?_
              refine V (fA underlying45 12 rfl sizeOf43 e1_13) ?_
              refine RL.gT rfl (bR (c := true) h651) ?_
              refine V (run_ldSub (sub := nodeL _) underlying43 rfl rfl rfl (hH648.blk (i := 0) rfl) rfl) ?_
              refine RL.gT rfl (bR (c := true) h651) ?_
              refine RL.callT rfl (c_clearanceref10_IsLabel _  _ (hc.right.mono hH648.kw)) (run_call1 call43 rfl) ?_
              rintro _ w654 ⟨⟨b657, rfl⟩, hb655⟩
              have hH656 := hH648.call hb655
              refine V (run_pickT (bR (c := true) h651) (v := B _) rfl) ?_
              refine V (aV (B _) rfl) ?_
              refine RL.nil ?_
              refine CW.ret ?_
              exact out1 Tryd.results18 rfl ⟨⟨_, rfl, fun h => by first | (cases h; done) | exact hok⟩, hH656.below⟩
             ·refine RL.gF rfl rfl (bR (c := false) h651) rfl ?_
              refine RL.gF rfl rfl (bR (c := false) h651) rfl ?_
              refine RL.gF rfl rfl (bR (c := false) h651) rfl ?_
              refine V (run_pickF (bR (c := false) h651) (v := B false) rfl) ?_
              refine V (aV (B _) rfl) ?_
              refine RL.nil ?_
              refine CW.ret ?_
              exact out1 Tryd.results18 rfl ⟨⟨_, rfl, fun h => by first | (cases h; done) | exact hok⟩, hH648.below⟩
            ·refine CW.skip ?_
             refine CW.seq ?_
             refine SR ?_
             refine V (fA underlying45 0 rfl sizeOf3 e1_13) ?_
             refine V (run_ld underlying3 rfl rfl (hH641.cell (i := 0) rfl (v := I _) rfl)) ?_
             refine RL.callP rfl hH641 (c_clearanceref12_Has _ _  _) (run_call2 call41 rfl (show _ = Value.int .u8 114 from rfl)) ?_
             intro w659 hH660
             refine RL.nil ?_
             refine CW.cond rfl (fun h662 => ?_) (fun h662 => ?_)
             ·refine SR ?_
              refine V (fA underlying45 7 rfl sizeOf43 e1_13) ?_
              refine V (run_ldSub (sub := nodeL _) underlying43 rfl rfl rfl (hH660.blk (i := 0) rfl) rfl) ?_
              refine RL.callT rfl (c_clearanceref10_IsRow _  _ (hc.left.mono hH660.kw)) (run_call1 call44 rfl) ?_
              rintro _ w665 ⟨⟨b668, rfl⟩, hb666⟩
              have hH667 := hH660.call hb666
              refine V (mV (B _) rfl) ?_
              refine RL.split (dj := 129) rfl (fun h670 => ?_) (fun h670 => ?_)
              ·refine RL.gT rfl (bR (c := true) h670) ?_
               refine V (fA underlying45 12 rfl sizeOf43 e1_13) ?_
               refine RL.gT rfl (bR (c := true) h670) ?_
               refine V (run_ldSub (sub := nodeL _) underlying43 rfl rfl rfl (hH667.blk (i := 0) rfl) rfl) ?_
               refine RL.gT rfl (bR (c := true) h670) ?_
               refine RL.callT rfl (c_clearanceref10_IsRow _  _ (hc.right.mono hH667.kw)) (run_call1 call44 rfl) ?_
               rintro _ w673 ⟨⟨b676, rfl⟩, hb674⟩
               have hH675 := hH667.call hb674
               refine V (run_pickT (bR (c := true) h670) (v := B _) rfl) ?_
               refine V (aV (B _) rfl) ?_
               refine RL.nil ?_
               refine CW.ret ?_
               exact out1 Tryd.results18 rfl ⟨⟨_, rfl, fun h => by first | (cases h; done) | exact hok⟩, hH675.below⟩
              ·refine RL.gF rfl rfl (bR (c := false) h670) rfl ?_
               refine RL.gF rfl rfl (bR (c := false) h670) rfl ?_
               refine RL.gF rfl rfl (bR (c := false) h670) rfl ?_
               refine V (run_pickF (bR (c := false) h670) (v := B false) rfl) ?_
               refine V (aV (B _) rfl) ?_
               refine RL.nil ?_
               refine CW.ret ?_
               exact out1 Tryd.results18 rfl ⟨⟨_, rfl, fun h => by first | (cases h; done) | exact hok⟩, hH667.below⟩
             ·refine CW.skip ?_
              refine SR ?_
              refine V (fA underlying45 7 rfl sizeOf43 e1_13) ?_
              refine V (run_ldSub (sub := nodeL _) underlying43 rfl rfl rfl (hH660.blk (i := 0) rfl) rfl) ?_
              refine RL.callT rfl (c_clearanceref12_zero _  _ (hc.left.mono hH660.kw)) (run_call1 call45 rfl) ?_
              rintro _ w680 ⟨⟨b683, rfl⟩, hb681⟩
              have hH682 := hH660.call hb681
              refine V (mV (B _) rfl) ?_
              refine RL.split (dj := 137) rfl (fun h685 => ?_) (fun h685 => ?_)
              ·refine RL.gT rfl (bR (c := true) h685) ?_
               refine V (fA underlying45 12 rfl sizeOf43 e1_13) ?_
               refine RL.gT rfl (bR (c := true) h685) ?_
               refine V (run_ldSub (sub := nodeL _) underlying43 rfl rfl rfl (hH682.blk (i := 0) rfl) rfl) ?_
               refine RL.gT rfl (bR (c := true) h685) ?_
               refine RL.callT rfl (c_clearanceref12_zero _  _ (hc.right.mono hH682.kw)) (run_call1 call45 rfl) ?_
               rintro _ w688 ⟨⟨b691, rfl⟩, hb689⟩
               have hH690 := hH682.call hb689
               refine V (run_pickT (bR (c := true) h685) (v := B _) rfl) ?_
               refine V (aV (B _) rfl) ?_
               refine RL.nil ?_
               refine CW.ret ?_
               exact out1 Tryd.results18 rfl ⟨⟨_, rfl, fun h => by first | (cases h; done) | exact hok⟩, hH690.below⟩
              ·refine RL.gF rfl rfl (bR (c := false) h685) rfl ?_
               refine RL.gF rfl rfl (bR (c := false) h685) rfl ?_
               refine RL.gF rfl rfl (bR (c := false) h685) rfl ?_
               refine V (run_pickF (bR (c := false) h685) (v := B false) rfl) ?_
               refine V (aV (B _) rfl) ?_
               refine RL.nil ?_
               refine CW.ret ?_
               exact out1 Tryd.results18 rfl ⟨⟨_, rfl, fun h => by first | (cases h; done) | exact hok⟩, hH682.below⟩
          ·refine AK 58 rfl rfl (bR (c := false) h637) (hH634.sub sR) ?_
           refine AK 59 rfl rfl (bR (c := false) h637) (hH634.sub sR) ?_
           refine AK 60 rfl rfl (bR (c := false) h637) (hH634.sub sR) ?_
           refine AK 61 rfl rfl (bR (c := false) h637) (hH634.sub sR) ?_
           refine AG 62 rfl rfl rfl (hH634.sub sR) (fun w hS => run_pickF (bR (c := false) h637) (v := B false) rfl) ?_
           refine AT 63 rfl (hH634.sub sR) (fun w hS => run_pickF rfl (v := B _) rfl) ?_
           refine AD ?_
           refine CW.condF rfl ?_
           refine CW.skip ?_
           refine CW.seq ?_
           refine SR ?_
           have hok : CmdOk c := by
            refine ⟨fun x hx => ?_, fun ho => ?_, fun ho => ?_⟩
            ·have := List.all_eq_true.1 (nf ‹(!wordsR c.names) = false›) x hx; exact this
            ·have h1 := (has_decl ho).1; have h2 := eqB ‹(!(hasF c.op 110 == nameR c.name.text)) = false›; rw [← h2]; exact h1
            ·have h1 := (has_decl ho).2.1; first | (exfalso; have h3 := ‹hasF c.op 119 = false›; rw [h1] at h3; cases h3; done) | omega
           refine V (fA underlying45 0 rfl sizeOf3 e1_13) ?_
           refine V (run_ld underlying3 rfl rfl (hH634.cell (i := 0) rfl (v := I _) rfl)) ?_
           refine RL.callP rfl hH634 (c_clearanceref12_Has _ _  _) (run_call2 call41 rfl (show _ = Value.int .u8 116 from rfl)) ?_
           intro w693 hH694
           refine RL.nil ?_
           refine CW.cond rfl (fun h696 => ?_) (fun h696 => ?_)
           ·refine SR ?_
            refine V (fA underlying45 7 rfl sizeOf43 e1_13) ?_
            refine V (run_ldSub (sub := nodeL _) underlying43 rfl rfl rfl (hH694.blk (i := 0) rfl) rfl) ?_
            refine RL.callT rfl (c_clearanceref10_IsLabel _  _ (hc.left.mono hH694.kw)) (run_call1 call43 rfl) ?_
            rintro _ w699 ⟨⟨b702, rfl⟩, hb700⟩
            have hH701 := hH694.call hb700
            refine V (mV (B _) rfl) ?_
            refine RL.split (dj := 118) rfl (fun h704 => ?_) (fun h704 => ?_)
            ·refine RL.gT rfl (bR (c := true) h704) ?_
             refine V (fA underlying45 12 rfl sizeOf43 e1_13) ?_
             refine RL.gT rfl (bR (c := true) h704) ?_
             refine V (run_ldSub (sub := nodeL _) underlying43 rfl rfl rfl (hH701.blk (i := 0) rfl) rfl) ?_
             refine RL.gT rfl (bR (c := true) h704) ?_
             refine RL.callT rfl (c_clearanceref10_IsLabel _  _ (hc.right.mono hH701.kw)) (run_call1 call43 rfl) ?_
             rintro _ w707 ⟨⟨b710, rfl⟩, hb708⟩
             have hH709 := hH701.call hb708
             refine V (run_pickT (bR (c := true) h704) (v := B _) rfl) ?_
             refine V (aV (B _) rfl) ?_
             refine RL.nil ?_
             refine CW.ret ?_
             exact out1 Tryd.results18 rfl ⟨⟨_, rfl, fun h => by first | (cases h; done) | exact hok⟩, hH709.below⟩
            ·refine RL.gF rfl rfl (bR (c := false) h704) rfl ?_
             refine RL.gF rfl rfl (bR (c := false) h704) rfl ?_
             refine RL.gF rfl rfl (bR (c := false) h704) rfl ?_
             refine V (run_pickF (bR (c := false) h704) (v := B false) rfl) ?_
             refine V (aV (B _) rfl) ?_
             refine RL.nil ?_
             refine CW.ret ?_
             exact out1 Tryd.results18 rfl ⟨⟨_, rfl, fun h => by first | (cases h; done) | exact hok⟩, hH701.below⟩
           ·refine CW.skip ?_
            refine CW.seq ?_
            refine SR ?_
            refine V (fA underlying45 0 rfl sizeOf3 e1_13) ?_
            refine V (run_ld underlying3 rfl rfl (hH694.cell (i := 0) rfl (v := I _) rfl)) ?_
            refine RL.callP rfl hH694 (c_clearanceref12_Has _ _  _) (run_call2 call41 rfl (show _ = Value.int .u8 114 from rfl)) ?_
            intro w712 hH713
            refine RL.nil ?_
            refine CW.cond rfl (fun h715 => ?_) (fun h715 => ?_)
            ·refine SR ?_
             refine V (fA underlying45 7 rfl sizeOf43 e1_13) ?_
             refine V (run_ldSub (sub := nodeL _) underlying43 rfl rfl rfl (hH713.blk (i := 0) rfl) rfl) ?_
             refine RL.callT rfl (c_clearanceref10_IsRow _  _ (hc.left.mono hH713.kw)) (run_call1 call44 rfl) ?_
             rintro _ w718 ⟨⟨b721, rfl⟩, hb719⟩
             have hH720 := hH713.call hb719
             refine V (mV (B _) rfl) ?_
             refine RL.split (dj := 129) rfl (fun h723 => ?_) (fun h723 => ?_)
             ·refine RL.gT rfl (bR (c := true) h723) ?_
              refine V (fA underlying45 12 rfl sizeOf43 e1_13) ?_
              refine RL.gT rfl (bR (c := true) h723) ?_
              refine V (run_ldSub (sub := nodeL _) underlying43 rfl rfl rfl (hH720.blk (i := 0) rfl) rfl) ?_
              refine RL.gT rfl (bR (c := true) h723) ?_
              refine RL.callT rfl (c_clearanceref10_IsRow _  _ (hc.right.mono hH720.kw)) (run_call1 call44 rfl) ?_
              rintro _ w726 ⟨⟨b729, rfl⟩, hb727⟩
              have hH728 := hH720.call hb727
              refine V (run_pickT (bR (c := true) h723) (v := B _) rfl) ?_
              refine V (aV (B _) rfl) ?_
              refine RL.nil ?_
              refine CW.ret ?_
              exact out1 Tryd.results18 rfl ⟨⟨_, rfl, fun h => by first | (cases h; done) | exact hok⟩, hH728.below⟩
             ·refine RL.gF rfl rfl (bR (c := false) h723) rfl ?_
              refine RL.gF rfl rfl (bR (c := false) h723) rfl ?_
              refine RL.gF rfl rfl (bR (c := false) h723) rfl ?_
              refine V (run_pickF (bR (c := false) h723) (v := B false) rfl) ?_
              refine V (aV (B _) rfl) ?_
              refine RL.nil ?_
              refine CW.ret ?_
              exact out1 Tryd.results18 rfl ⟨⟨_, rfl, fun h => by first | (cases h; done) | exact hok⟩, hH720.below⟩
            ·refine CW.skip ?_
             refine SR ?_
             refine V (fA underlying45 7 rfl sizeOf43 e1_13) ?_
             refine V (run_ldSub (sub := nodeL _) underlying43 rfl rfl rfl (hH713.blk (i := 0) rfl) rfl) ?_
             refine RL.callT rfl (c_clearanceref12_zero _  _ (hc.left.mono hH713.kw)) (run_call1 call45 rfl) ?_
             rintro _ w733 ⟨⟨b736, rfl⟩, hb734⟩
             have hH735 := hH713.call hb734
             refine V (mV (B _) rfl) ?_
             refine RL.split (dj := 137) rfl (fun h738 => ?_) (fun h738 => ?_)
             ·refine RL.gT rfl (bR (c := true) h738) ?_
              refine V (fA underlying45 12 rfl sizeOf43 e1_13) ?_
              refine RL.gT rfl (bR (c := true) h738) ?_
              refine V (run_ldSub (sub := nodeL _) underlying43 rfl rfl rfl (hH735.blk (i := 0) rfl) rfl) ?_
              refine RL.gT rfl (bR (c := true) h738) ?_
              refine RL.callT rfl (c_clearanceref12_zero _  _ (hc.right.mono hH735.kw)) (run_call1 call45 rfl) ?_
              rintro _ w741 ⟨⟨b744, rfl⟩, hb742⟩
              have hH743 := hH735.call hb742
              refine V (run_pickT (bR (c := true) h738) (v := B _) rfl) ?_
              refine V (aV (B _) rfl) ?_
              refine RL.nil ?_
              refine CW.ret ?_
              exact out1 Tryd.results18 rfl ⟨⟨_, rfl, fun h => by first | (cases h; done) | exact hok⟩, hH743.below⟩
             ·refine RL.gF rfl rfl (bR (c := false) h738) rfl ?_
              refine RL.gF rfl rfl (bR (c := false) h738) rfl ?_
              refine RL.gF rfl rfl (bR (c := false) h738) rfl ?_
              refine V (run_pickF (bR (c := false) h738) (v := B false) rfl) ?_
              refine V (aV (B _) rfl) ?_
              refine RL.nil ?_
              refine CW.ret ?_
              exact out1 Tryd.results18 rfl ⟨⟨_, rfl, fun h => by first | (cases h; done) | exact hok⟩, hH735.below⟩
       ·refine AK 23 rfl rfl (bR (c := false) h514) (hH45.sub sR) ?_
        refine AK 24 rfl rfl (bR (c := false) h514) (hH45.sub sR) ?_
        refine AK 25 rfl rfl (bR (c := false) h514) (hH45.sub sR) ?_
        refine AK 26 rfl rfl (bR (c := false) h514) (hH45.sub sR) ?_
        refine AG 27 rfl rfl rfl (hH45.sub sR) (fun w hS => run_pickF (bR (c := false) h514) (v := B false) rfl) ?_
        refine AT 28 rfl (hH45.sub sR) (fun w hS => run_pickF rfl (v := B _) rfl) ?_
        refine AT 29 rfl (hH45.sub sR) (fun w hS => mV (B _) rfl) ?_
        refine AG 30 rfl rfl rfl (hH45.sub sR) (fun w hS => mV (B _) rfl) ?_
        refine AG 31 rfl rfl rfl (hH45.sub sR) (fun w hS => mV (B _) rfl) ?_
        refine AN.split (dj := 79) rfl (fun h746 => ?_) (fun h746 => ?_)
        ·refine AG 32 rfl rfl (bR (c := true) h746) (hH45.sub sR) (fun w hS => fA underlying45 4 rfl sizeOf39 e1_13) ?_
         refine AG 33 rfl rfl (bR (c := true) h746) (hH45.sub sR) (fun w hS => run_ldV (hc.names.sl.hp hS) underlying39 rfl rfl (hS.cell (i := 0) rfl rfl)) ?_
         refine AG 34 rfl rfl (bR (c := true) h746) (hH45.sub sR) (fun w hS => run_lenSl (hc.names.sl.hp hS) rfl underlying39 rfl) ?_
         refine AG 35 rfl rfl (bR (c := true) h746) (hH45.sub sR) (fun w hS => run_eql rfl rfl) ?_
         refine AG 36 rfl rfl rfl (hH45.sub sR) (fun w hS => run_pickT (bR (c := true) h746) (v := B _) rfl) ?_
         refine AT 37 rfl (hH45.sub sR) (fun w hS => run_pickF rfl (v := B _) rfl) ?_
         refine AT 38 rfl (hH45.sub sR) (fun w hS => mV (B _) rfl) ?_
         refine AN.splitP (dj := 86) rfl (fun h748 => ?_) (fun h748 => ?_)
         ·refine AK 39 rfl rfl (bT h748) (hH45.sub sR) ?_
          refine AK 40 rfl rfl (bT h748) (hH45.sub sR) ?_
          refine AK 41 rfl rfl (bT h748) (hH45.sub sR) ?_
          refine AU 42 rfl rfl rfl (hH45.sub sR) ?_
          refine AU 43 rfl rfl rfl (hH45.sub sR) ?_
          refine AK 44 rfl rfl (bT h748) (hH45.sub sR) ?_
          refine AK 45 rfl rfl (bT h748) (hH45.sub sR) ?_
          refine AU 46 rfl rfl rfl (hH45.sub sR) ?_
          refine AU 47 rfl rfl rfl (hH45.sub sR) ?_
          refine AU 48 rfl rfl rfl (hH45.sub sR) ?_
          refine AU 49 rfl rfl rfl (hH45.sub sR) ?_
          refine AK 50 rfl rfl (bT h748) (hH45.sub sR) ?_
          refine AT 51 rfl (hH45.sub sR) (fun w hS => run_pickT (bT h748) (v := B true) rfl) ?_
          refine AT 52 rfl (hH45.sub sR) (fun w hS => mV (B _) rfl) ?_
          refine AK 53 rfl rfl rfl (hH45.sub sR) ?_
          refine AK 54 rfl rfl rfl (hH45.sub sR) ?_
          refine AK 55 rfl rfl rfl (hH45.sub sR) ?_
          refine AK 56 rfl rfl rfl (hH45.sub sR) ?_
          refine AK 57 rfl rfl rfl (hH45.sub sR) ?_
          refine AU 58 rfl rfl rfl (hH45.sub sR) ?_
          refine AU 59 rfl rfl rfl (hH45.sub sR) ?_
          refine AU 60 rfl rfl rfl (hH45.sub sR) ?_
          refine AU 61 rfl rfl rfl (hH45.sub sR) ?_
          refine AK 62 rfl rfl rfl (hH45.sub sR) ?_
          refine AT 63 rfl (hH45.sub sR) (fun w hS => run_pickT rfl (v := B true) rfl) ?_
          refine AD ?_
          refine CW.condT rfl ?_
          refine SR ?_
          refine V (aV (B false) rfl) ?_
          refine RL.nil ?_
          refine CW.ret ?_
          exact out1 Tryd.results18 rfl ⟨⟨_, rfl, fun h => by first | (cases h; done) | exact hok⟩, hH45.below⟩
         ·refine AG 39 rfl rfl (bF h748) (hH45.sub sR) (fun w hS => mV (B _) rfl) ?_
          refine AG 40 rfl rfl (bF h748) (hH45.sub sR) (fun w hS => run_not (bR (c := false) h514)) ?_
          refine AG 41 rfl rfl (bF h748) (hH45.sub sR) (fun w hS => mV (B _) rfl) ?_
          refine AG 42 rfl rfl rfl (hH45.sub sR) (fun w hS => mV (B _) rfl) ?_
          refine AG 43 rfl rfl rfl (hH45.sub sR) (fun w hS => run_not (bR (c := true) h746)) ?_
          refine AG 44 rfl rfl (bF h748) (hH45.sub sR) (fun w hS => run_pickT rfl (v := B _) rfl) ?_
          refine AG 45 rfl rfl (bF h748) (hH45.sub sR) (fun w hS => mV (B _) rfl) ?_
          refine AK 46 rfl rfl rfl (hH45.sub sR) ?_
          refine AK 47 rfl rfl rfl (hH45.sub sR) ?_
          refine AK 48 rfl rfl rfl (hH45.sub sR) ?_
          refine AK 49 rfl rfl rfl (hH45.sub sR) ?_
          refine AG 50 rfl rfl (bF h748) (hH45.sub sR) (fun w hS => run_pickF rfl (v := B false) rfl) ?_
          refine AT 51 rfl (hH45.sub sR) (fun w hS => run_pickF (bF h748) (v := B _) rfl) ?_
          refine AT 52 rfl (hH45.sub sR) (fun w hS => mV (B _) rfl) ?_
          refine AG 53 rfl rfl rfl (hH45.sub sR) (fun w hS => fA underlying45 0 rfl sizeOf3 e1_13) ?_
          refine AG 54 rfl rfl rfl (hH45.sub sR) (fun w hS => run_ld underlying3 rfl rfl (hS.cell (i := 0) rfl (v := I _) rfl)) ?_
          refine A1 55 ?_
          refine AO.callP rfl (gsome rfl rfl) rfl hH45 sR (c_clearanceref12_Has _ _  _) (run_call2 call41 rfl (show _ = Value.int .u8 112 from rfl)) ?_
          intro w749 hH750
          refine AG 56 rfl rfl rfl (hH750.sub sR) (fun w hS => run_not rfl) ?_
          refine AG 57 rfl rfl rfl (hH750.sub sR) (fun w hS => mV (B _) rfl) ?_
          refine AN.split (dj := 105) rfl (fun h753 => ?_) (fun h753 => ?_)
          ·refine AG 58 rfl rfl (bR (c := true) h753) (hH750.sub sR) (fun w hS => fA underlying45 5 rfl sizeOf40 e1_13) ?_
           refine AG 59 rfl rfl (bR (c := true) h753) (hH750.sub sR) (fun w hS => run_ldV (hc.pairs.sl.hp hS) underlying40 rfl rfl (hS.cell (i := 0) rfl rfl)) ?_
           refine AG 60 rfl rfl (bR (c := true) h753) (hH750.sub sR) (fun w hS => run_lenSl (hc.pairs.sl.hp hS) rfl underlying40 rfl) ?_
           refine AG 61 rfl rfl (bR (c := true) h753) (hH750.sub sR) (fun w hS => run_gtr rfl rfl) ?_
           refine AG 62 rfl rfl rfl (hH750.sub sR) (fun w hS => run_pickT (bR (c := true) h753) (v := B _) rfl) ?_
           refine AT 63 rfl (hH750.sub sR) (fun w hS => run_pickF rfl (v := B _) rfl) ?_
           refine AD ?_
           refine CW.condP rfl (fun h755 => ?_) (fun h755 => ?_)
           ·refine SR ?_
            refine V (aV (B false) rfl) ?_
            refine RL.nil ?_
            refine CW.ret ?_
            exact out1 Tryd.results18 rfl ⟨⟨_, rfl, fun h => by first | (cases h; done) | exact hok⟩, hH750.below⟩
           ·refine CW.skip ?_
            refine CW.seq ?_
            refine SR ?_
            have hok : CmdOk c := by
             refine ⟨fun x hx => ?_, fun ho => ?_, fun ho => ?_⟩
             ·have := List.all_eq_true.1 (nf ‹(!wordsR c.names) = false›) x hx; exact this
             ·have h1 := (has_decl ho).1; have h2 := eqB ‹(!(hasF c.op 110 == nameR c.name.text)) = false›; rw [← h2]; exact h1
             ·have h1 := (has_decl ho).2.1; first | (exfalso; have h3 := ‹hasF c.op 119 = false›; rw [h1] at h3; cases h3; done) | omega
            refine V (fA underlying45 0 rfl sizeOf3 e1_13) ?_
            refine V (run_ld underlying3 rfl rfl (hH750.cell (i := 0) rfl (v := I _) rfl)) ?_
            refine RL.callP rfl hH750 (c_clearanceref12_Has _ _  _) (run_call2 call41 rfl (show _ = Value.int .u8 116 from rfl)) ?_
            intro w756 hH757
            refine RL.nil ?_
            refine CW.cond rfl (fun h759 => ?_) (fun h759 => ?_)
            ·refine SR ?_
             refine V (fA underlying45 7 rfl sizeOf43 e1_13) ?_
             refine V (run_ldSub (sub := nodeL _) underlying43 rfl rfl rfl (hH757.blk (i := 0) rfl) rfl) ?_
             refine RL.callT rfl (c_clearanceref10_IsLabel _  _ (hc.left.mono hH757.kw)) (run_call1 call43 rfl) ?_
             rintro _ w762 ⟨⟨b765, rfl⟩, hb763⟩
             have hH764 := hH757.call hb763
             refine V (mV (B _) rfl) ?_
             refine RL.split (dj := 118) rfl (fun h767 => ?_) (fun h767 => ?_)
             ·refine RL.gT rfl (bR (c := true) h767) ?_
              refine V (fA underlying45 12 rfl sizeOf43 e1_13) ?_
              refine RL.gT rfl (bR (c := true) h767) ?_
              refine V (run_ldSub (sub := nodeL _) underlying43 rfl rfl rfl (hH764.blk (i := 0) rfl) rfl) ?_
              refine RL.gT rfl (bR (c := true) h767) ?_
              refine RL.callT rfl (c_clearanceref10_IsLabel _  _ (hc.right.mono hH764.kw)) (run_call1 call43 rfl) ?_
              rintro _ w770 ⟨⟨b773, rfl⟩, hb771⟩
              have hH772 := hH764.call hb771
              refine V (run_pickT (bR (c := true) h767) (v := B _) rfl) ?_
              refine V (aV (B _) rfl) ?_
              refine RL.nil ?_
              refine CW.ret ?_
              exact out1 Tryd.results18 rfl ⟨⟨_, rfl, fun h => by first | (cases h; done) | exact hok⟩, hH772.below⟩
             ·refine RL.gF rfl rfl (bR (c := false) h767) rfl ?_
              refine RL.gF rfl rfl (bR (c := false) h767) rfl ?_
              refine RL.gF rfl rfl (bR (c := false) h767) rfl ?_
              refine V (run_pickF (bR (c := false) h767) (v := B false) rfl) ?_
              refine V (aV (B _) rfl) ?_
              refine RL.nil ?_
              refine CW.ret ?_
              exact out1 Tryd.results18 rfl ⟨⟨_, rfl, fun h => by first | (cases h; done) | exact hok⟩, hH764.below⟩
            ·refine CW.skip ?_
             refine CW.seq ?_
             refine SR ?_
             refine V (fA underlying45 0 rfl sizeOf3 e1_13) ?_
             refine V (run_ld underlying3 rfl rfl (hH757.cell (i := 0) rfl (v := I _) rfl)) ?_
             refine RL.callP rfl hH757 (c_clearanceref12_Has _ _  _) (run_call2 call41 rfl (show _ = Value.int .u8 114 from rfl)) ?_
             intro w775 hH776
             refine RL.nil ?_
             refine CW.cond rfl (fun h778 => ?_) (fun h778 => ?_)
             ·refine SR ?_
              refine V (fA underlying45 7 rfl sizeOf43 e1_13) ?_
              refine V (run_ldSub (sub := nodeL _) underlying43 rfl rfl rfl (hH776.blk (i := 0) rfl) rfl) ?_
              refine RL.callT rfl (c_clearanceref10_IsRow _  _ (hc.left.mono hH776.kw)) (run_call1 call44 rfl) ?_
              rintro _ w781 ⟨⟨b784, rfl⟩, hb782⟩
              have hH783 := hH776.call hb782
              refine V (mV (B _) rfl) ?_
              refine RL.split (dj := 129) rfl (fun h786 => ?_) (fun h786 => ?_)
              ·refine RL.gT rfl (bR (c := true) h786) ?_
               refine V (fA underlying45 12 rfl sizeOf43 e1_13) ?_
               refine RL.gT rfl (bR (c := true) h786) ?_
               refine V (run_ldSub (sub := nodeL _) underlying43 rfl rfl rfl (hH783.blk (i := 0) rfl) rfl) ?_
               refine RL.gT rfl (bR (c := true) h786) ?_
               refine RL.callT rfl (c_clearanceref10_IsRow _  _ (hc.right.mono hH783.kw)) (run_call1 call44 rfl) ?_
               rintro _ w789 ⟨⟨b792, rfl⟩, hb790⟩
               have hH791 := hH783.call hb790
               refine V (run_pickT (bR (c := true) h786) (v := B _) rfl) ?_
               refine V (aV (B _) rfl) ?_
               refine RL.nil ?_
               refine CW.ret ?_
               exact out1 Tryd.results18 rfl ⟨⟨_, rfl, fun h => by first | (cases h; done) | exact hok⟩, hH791.below⟩
              ·refine RL.gF rfl rfl (bR (c := false) h786) rfl ?_
               refine RL.gF rfl rfl (bR (c := false) h786) rfl ?_
               refine RL.gF rfl rfl (bR (c := false) h786) rfl ?_
               refine V (run_pickF (bR (c := false) h786) (v := B false) rfl) ?_
               refine V (aV (B _) rfl) ?_
               refine RL.nil ?_
               refine CW.ret ?_
               exact out1 Tryd.results18 rfl ⟨⟨_, rfl, fun h => by first | (cases h; done) | exact hok⟩, hH783.below⟩
             ·refine CW.skip ?_
              refine SR ?_
              refine V (fA underlying45 7 rfl sizeOf43 e1_13) ?_
              refine V (run_ldSub (sub := nodeL _) underlying43 rfl rfl rfl (hH776.blk (i := 0) rfl) rfl) ?_
              refine RL.callT rfl (c_clearanceref12_zero _  _ (hc.left.mono hH776.kw)) (run_call1 call45 rfl) ?_
              rintro _ w796 ⟨⟨b799, rfl⟩, hb797⟩
              have hH798 := hH776.call hb797
              refine V (mV (B _) rfl) ?_
              refine RL.split (dj := 137) rfl (fun h801 => ?_) (fun h801 => ?_)
              ·refine RL.gT rfl (bR (c := true) h801) ?_
               refine V (fA underlying45 12 rfl sizeOf43 e1_13) ?_
               refine RL.gT rfl (bR (c := true) h801) ?_
               refine V (run_ldSub (sub := nodeL _) underlying43 rfl rfl rfl (hH798.blk (i := 0) rfl) rfl) ?_
               refine RL.gT rfl (bR (c := true) h801) ?_
               refine RL.callT rfl (c_clearanceref12_zero _  _ (hc.right.mono hH798.kw)) (run_call1 call45 rfl) ?_
               rintro _ w804 ⟨⟨b807, rfl⟩, hb805⟩
               have hH806 := hH798.call hb805
               refine V (run_pickT (bR (c := true) h801) (v := B _) rfl) ?_
               refine V (aV (B _) rfl) ?_
               refine RL.nil ?_
               refine CW.ret ?_
               exact out1 Tryd.results18 rfl ⟨⟨_, rfl, fun h => by first | (cases h; done) | exact hok⟩, hH806.below⟩
              ·refine RL.gF rfl rfl (bR (c := false) h801) rfl ?_
               refine RL.gF rfl rfl (bR (c := false) h801) rfl ?_
               refine RL.gF rfl rfl (bR (c := false) h801) rfl ?_
               refine V (run_pickF (bR (c := false) h801) (v := B false) rfl) ?_
               refine V (aV (B _) rfl) ?_
               refine RL.nil ?_
               refine CW.ret ?_
               exact out1 Tryd.results18 rfl ⟨⟨_, rfl, fun h => by first | (cases h; done) | exact hok⟩, hH798.below⟩
          ·refine AK 58 rfl rfl (bR (c := false) h753) (hH750.sub sR) ?_
           refine AK 59 rfl rfl (bR (c := false) h753) (hH750.sub sR) ?_
           refine AK 60 rfl rfl (bR (c := false) h753) (hH750.sub sR) ?_
           refine AK 61 rfl rfl (bR (c := false) h753) (hH750.sub sR) ?_
           refine AG 62 rfl rfl rfl (hH750.sub sR) (fun w hS => run_pickF (bR (c := false) h753) (v := B false) rfl) ?_
           refine AT 63 rfl (hH750.sub sR) (fun w hS => run_pickF rfl (v := B _) rfl) ?_
           refine AD ?_
           refine CW.condF rfl ?_
           refine CW.skip ?_
           refine CW.seq ?_
           refine SR ?_
           have hok : CmdOk c := by
            refine ⟨fun x hx => ?_, fun ho => ?_, fun ho => ?_⟩
            ·have := List.all_eq_true.1 (nf ‹(!wordsR c.names) = false›) x hx; exact this
            ·have h1 := (has_decl ho).1; have h2 := eqB ‹(!(hasF c.op 110 == nameR c.name.text)) = false›; rw [← h2]; exact h1
            ·have h1 := (has_decl ho).2.1; first | (exfalso; have h3 := ‹hasF c.op 119 = false›; rw [h1] at h3; cases h3; done) | omega
           refine V (fA underlying45 0 rfl sizeOf3 e1_13) ?_
           refine V (run_ld underlying3 rfl rfl (hH750.cell (i := 0) rfl (v := I _) rfl)) ?_
           refine RL.callP rfl hH750 (c_clearanceref12_Has _ _  _) (run_call2 call41 rfl (show _ = Value.int .u8 116 from rfl)) ?_
           intro w809 hH810
           refine RL.nil ?_
           refine CW.cond rfl (fun h812 => ?_) (fun h812 => ?_)
           ·refine SR ?_
            refine V (fA underlying45 7 rfl sizeOf43 e1_13) ?_
            refine V (run_ldSub (sub := nodeL _) underlying43 rfl rfl rfl (hH810.blk (i := 0) rfl) rfl) ?_
            refine RL.callT rfl (c_clearanceref10_IsLabel _  _ (hc.left.mono hH810.kw)) (run_call1 call43 rfl) ?_
            rintro _ w815 ⟨⟨b818, rfl⟩, hb816⟩
            have hH817 := hH810.call hb816
            refine V (mV (B _) rfl) ?_
            refine RL.split (dj := 118) rfl (fun h820 => ?_) (fun h820 => ?_)
            ·refine RL.gT rfl (bR (c := true) h820) ?_
             refine V (fA underlying45 12 rfl sizeOf43 e1_13) ?_
             refine RL.gT rfl (bR (c := true) h820) ?_
             refine V (run_ldSub (sub := nodeL _) underlying43 rfl rfl rfl (hH817.blk (i := 0) rfl) rfl) ?_
             refine RL.gT rfl (bR (c := true) h820) ?_
             refine RL.callT rfl (c_clearanceref10_IsLabel _  _ (hc.right.mono hH817.kw)) (run_call1 call43 rfl) ?_
             rintro _ w823 ⟨⟨b826, rfl⟩, hb824⟩
             have hH825 := hH817.call hb824
             refine V (run_pickT (bR (c := true) h820) (v := B _) rfl) ?_
             refine V (aV (B _) rfl) ?_
             refine RL.nil ?_
             refine CW.ret ?_
             exact out1 Tryd.results18 rfl ⟨⟨_, rfl, fun h => by first | (cases h; done) | exact hok⟩, hH825.below⟩
            ·refine RL.gF rfl rfl (bR (c := false) h820) rfl ?_
             refine RL.gF rfl rfl (bR (c := false) h820) rfl ?_
             refine RL.gF rfl rfl (bR (c := false) h820) rfl ?_
             refine V (run_pickF (bR (c := false) h820) (v := B false) rfl) ?_
             refine V (aV (B _) rfl) ?_
             refine RL.nil ?_
             refine CW.ret ?_
             exact out1 Tryd.results18 rfl ⟨⟨_, rfl, fun h => by first | (cases h; done) | exact hok⟩, hH817.below⟩
           ·refine CW.skip ?_
            refine CW.seq ?_
            refine SR ?_
            refine V (fA underlying45 0 rfl sizeOf3 e1_13) ?_
            refine V (run_ld underlying3 rfl rfl (hH810.cell (i := 0) rfl (v := I _) rfl)) ?_
            refine RL.callP rfl hH810 (c_clearanceref12_Has _ _  _) (run_call2 call41 rfl (show _ = Value.int .u8 114 from rfl)) ?_
            intro w828 hH829
            refine RL.nil ?_
            refine CW.cond rfl (fun h831 => ?_) (fun h831 => ?_)
            ·refine SR ?_
             refine V (fA underlying45 7 rfl sizeOf43 e1_13) ?_
             refine V (run_ldSub (sub := nodeL _) underlying43 rfl rfl rfl (hH829.blk (i := 0) rfl) rfl) ?_
             refine RL.callT rfl (c_clearanceref10_IsRow _  _ (hc.left.mono hH829.kw)) (run_call1 call44 rfl) ?_
             rintro _ w834 ⟨⟨b837, rfl⟩, hb835⟩
             have hH836 := hH829.call hb835
             refine V (mV (B _) rfl) ?_
             refine RL.split (dj := 129) rfl (fun h839 => ?_) (fun h839 => ?_)
             ·refine RL.gT rfl (bR (c := true) h839) ?_
              refine V (fA underlying45 12 rfl sizeOf43 e1_13) ?_
              refine RL.gT rfl (bR (c := true) h839) ?_
              refine V (run_ldSub (sub := nodeL _) underlying43 rfl rfl rfl (hH836.blk (i := 0) rfl) rfl) ?_
              refine RL.gT rfl (bR (c := true) h839) ?_
              refine RL.callT rfl (c_clearanceref10_IsRow _  _ (hc.right.mono hH836.kw)) (run_call1 call44 rfl) ?_
              rintro _ w842 ⟨⟨b845, rfl⟩, hb843⟩
              have hH844 := hH836.call hb843
              refine V (run_pickT (bR (c := true) h839) (v := B _) rfl) ?_
              refine V (aV (B _) rfl) ?_
              refine RL.nil ?_
              refine CW.ret ?_
              exact out1 Tryd.results18 rfl ⟨⟨_, rfl, fun h => by first | (cases h; done) | exact hok⟩, hH844.below⟩
             ·refine RL.gF rfl rfl (bR (c := false) h839) rfl ?_
              refine RL.gF rfl rfl (bR (c := false) h839) rfl ?_
              refine RL.gF rfl rfl (bR (c := false) h839) rfl ?_
              refine V (run_pickF (bR (c := false) h839) (v := B false) rfl) ?_
              refine V (aV (B _) rfl) ?_
              refine RL.nil ?_
              refine CW.ret ?_
              exact out1 Tryd.results18 rfl ⟨⟨_, rfl, fun h => by first | (cases h; done) | exact hok⟩, hH836.below⟩
            ·refine CW.skip ?_
             refine SR ?_
             refine V (fA underlying45 7 rfl sizeOf43 e1_13) ?_
             refine V (run_ldSub (sub := nodeL _) underlying43 rfl rfl rfl (hH829.blk (i := 0) rfl) rfl) ?_
             refine RL.callT rfl (c_clearanceref12_zero _  _ (hc.left.mono hH829.kw)) (run_call1 call45 rfl) ?_
             rintro _ w849 ⟨⟨b852, rfl⟩, hb850⟩
             have hH851 := hH829.call hb850
             refine V (mV (B _) rfl) ?_
             refine RL.split (dj := 137) rfl (fun h854 => ?_) (fun h854 => ?_)
             ·refine RL.gT rfl (bR (c := true) h854) ?_
              refine V (fA underlying45 12 rfl sizeOf43 e1_13) ?_
              refine RL.gT rfl (bR (c := true) h854) ?_
              refine V (run_ldSub (sub := nodeL _) underlying43 rfl rfl rfl (hH851.blk (i := 0) rfl) rfl) ?_
              refine RL.gT rfl (bR (c := true) h854) ?_
              refine RL.callT rfl (c_clearanceref12_zero _  _ (hc.right.mono hH851.kw)) (run_call1 call45 rfl) ?_
              rintro _ w857 ⟨⟨b860, rfl⟩, hb858⟩
              have hH859 := hH851.call hb858
              refine V (run_pickT (bR (c := true) h854) (v := B _) rfl) ?_
              refine V (aV (B _) rfl) ?_
              refine RL.nil ?_
              refine CW.ret ?_
              exact out1 Tryd.results18 rfl ⟨⟨_, rfl, fun h => by first | (cases h; done) | exact hok⟩, hH859.below⟩
             ·refine RL.gF rfl rfl (bR (c := false) h854) rfl ?_
              refine RL.gF rfl rfl (bR (c := false) h854) rfl ?_
              refine RL.gF rfl rfl (bR (c := false) h854) rfl ?_
              refine V (run_pickF (bR (c := false) h854) (v := B false) rfl) ?_
              refine V (aV (B _) rfl) ?_
              refine RL.nil ?_
              refine CW.ret ?_
              exact out1 Tryd.results18 rfl ⟨⟨_, rfl, fun h => by first | (cases h; done) | exact hok⟩, hH851.below⟩
        ·refine AK 32 rfl rfl (bR (c := false) h746) (hH45.sub sR) ?_
         refine AK 33 rfl rfl (bR (c := false) h746) (hH45.sub sR) ?_
         refine AK 34 rfl rfl (bR (c := false) h746) (hH45.sub sR) ?_
         refine AK 35 rfl rfl (bR (c := false) h746) (hH45.sub sR) ?_
         refine AG 36 rfl rfl rfl (hH45.sub sR) (fun w hS => run_pickF (bR (c := false) h746) (v := B false) rfl) ?_
         refine AT 37 rfl (hH45.sub sR) (fun w hS => run_pickF rfl (v := B _) rfl) ?_
         refine AT 38 rfl (hH45.sub sR) (fun w hS => mV (B _) rfl) ?_
         refine AG 39 rfl rfl rfl (hH45.sub sR) (fun w hS => mV (B _) rfl) ?_
         refine AG 40 rfl rfl rfl (hH45.sub sR) (fun w hS => run_not (bR (c := false) h514)) ?_
         refine AG 41 rfl rfl rfl (hH45.sub sR) (fun w hS => mV (B _) rfl) ?_
         refine AG 42 rfl rfl rfl (hH45.sub sR) (fun w hS => mV (B _) rfl) ?_
         refine AG 43 rfl rfl rfl (hH45.sub sR) (fun w hS => run_not (bR (c := false) h746)) ?_
         refine AG 44 rfl rfl rfl (hH45.sub sR) (fun w hS => run_pickT rfl (v := B _) rfl) ?_
         refine AG 45 rfl rfl rfl (hH45.sub sR) (fun w hS => mV (B _) rfl) ?_
         refine AG 46 rfl rfl rfl (hH45.sub sR) (fun w hS => fA underlying45 4 rfl sizeOf39 e1_13) ?_
         refine AG 47 rfl rfl rfl (hH45.sub sR) (fun w hS => run_ldV (hc.names.sl.hp hS) underlying39 rfl rfl (hS.cell (i := 0) rfl rfl)) ?_
         refine AG 48 rfl rfl rfl (hH45.sub sR) (fun w hS => run_lenSl (hc.names.sl.hp hS) rfl underlying39 rfl) ?_
         refine AG 49 rfl rfl rfl (hH45.sub sR) (fun w hS => run_gtr rfl rfl) ?_
         refine AG 50 rfl rfl rfl (hH45.sub sR) (fun w hS => run_pickT rfl (v := B _) rfl) ?_
         refine AT 51 rfl (hH45.sub sR) (fun w hS => run_pickF rfl (v := B _) rfl) ?_
         refine AT 52 rfl (hH45.sub sR) (fun w hS => mV (B _) rfl) ?_
         refine AN.splitP (dj := 100) rfl (fun h863 => ?_) (fun h863 => ?_)
         ·refine AK 53 rfl rfl (bT h863) (hH45.sub sR) ?_
          refine AK 54 rfl rfl (bT h863) (hH45.sub sR) ?_
          refine AK 55 rfl rfl (bT h863) (hH45.sub sR) ?_
          refine AK 56 rfl rfl (bT h863) (hH45.sub sR) ?_
          refine AK 57 rfl rfl (bT h863) (hH45.sub sR) ?_
          refine AU 58 rfl rfl rfl (hH45.sub sR) ?_
          refine AU 59 rfl rfl rfl (hH45.sub sR) ?_
          refine AU 60 rfl rfl rfl (hH45.sub sR) ?_
          refine AU 61 rfl rfl rfl (hH45.sub sR) ?_
          refine AK 62 rfl rfl (bT h863) (hH45.sub sR) ?_
          refine AT 63 rfl (hH45.sub sR) (fun w hS => run_pickT (bT h863) (v := B true) rfl) ?_
          refine AD ?_
          refine CW.condT rfl ?_
          refine SR ?_
          refine V (aV (B false) rfl) ?_
          refine RL.nil ?_
          refine CW.ret ?_
          exact out1 Tryd.results18 rfl ⟨⟨_, rfl, fun h => by first | (cases h; done) | exact hok⟩, hH45.below⟩
         ·refine AG 53 rfl rfl (bF h863) (hH45.sub sR) (fun w hS => fA underlying45 0 rfl sizeOf3 e1_13) ?_
          refine AG 54 rfl rfl (bF h863) (hH45.sub sR) (fun w hS => run_ld underlying3 rfl rfl (hS.cell (i := 0) rfl (v := I _) rfl)) ?_
          refine A1 55 ?_
          refine AO.callP rfl (gsome rfl (bF h863)) rfl hH45 sR (c_clearanceref12_Has _ _  _) (run_call2 call41 rfl (show _ = Value.int .u8 112 from rfl)) ?_
          intro w864 hH865
          refine AG 56 rfl rfl (bF h863) (hH865.sub sR) (fun w hS => run_not rfl) ?_
          refine AG 57 rfl rfl (bF h863) (hH865.sub sR) (fun w hS => mV (B _) rfl) ?_
          refine AN.split (dj := 105) rfl (fun h868 => ?_) (fun h868 => ?_)
          ·refine AG 58 rfl rfl (bR (c := true) h868) (hH865.sub sR) (fun w hS => fA underlying45 5 rfl sizeOf40 e1_13) ?_
           refine AG 59 rfl rfl (bR (c := true) h868) (hH865.sub sR) (fun w hS => run_ldV (hc.pairs.sl.hp hS) underlying40 rfl rfl (hS.cell (i := 0) rfl rfl)) ?_
           refine AG 60 rfl rfl (bR (c := true) h868) (hH865.sub sR) (fun w hS => run_lenSl (hc.pairs.sl.hp hS) rfl underlying40 rfl) ?_
           refine AG 61 rfl rfl (bR (c := true) h868) (hH865.sub sR) (fun w hS => run_gtr rfl rfl) ?_
           refine AG 62 rfl rfl (bF h863) (hH865.sub sR) (fun w hS => run_pickT (bR (c := true) h868) (v := B _) rfl) ?_
           refine AT 63 rfl (hH865.sub sR) (fun w hS => run_pickF (bF h863) (v := B _) rfl) ?_
           refine AD ?_
           refine CW.condP rfl (fun h870 => ?_) (fun h870 => ?_)
           ·refine SR ?_
            refine V (aV (B false) rfl) ?_
            refine RL.nil ?_
            refine CW.ret ?_
            exact out1 Tryd.results18 rfl ⟨⟨_, rfl, fun h => by first | (cases h; done) | exact hok⟩, hH865.below⟩
           ·refine CW.skip ?_
            refine CW.seq ?_
            refine SR ?_
            have hok : CmdOk c := by
             refine ⟨fun x hx => ?_, fun ho => ?_, fun ho => ?_⟩
             ·have := List.all_eq_true.1 (nf ‹(!wordsR c.names) = false›) x hx; exact this
             ·have h1 := (has_decl ho).1; have h2 := eqB ‹(!(hasF c.op 110 == nameR c.name.text)) = false›; rw [← h2]; exact h1
             ·have h1 := (has_decl ho).2.1; first | (exfalso; have h3 := ‹hasF c.op 119 = false›; rw [h1] at h3; cases h3; done) | omega
            refine V (fA underlying45 0 rfl sizeOf3 e1_13) ?_
            refine V (run_ld underlying3 rfl rfl (hH865.cell (i := 0) rfl (v := I _) rfl)) ?_
            refine RL.callP rfl hH865 (c_clearanceref12_Has _ _  _) (run_call2 call41 rfl (show _ = Value.int .u8 116 from rfl)) ?_
            intro w871 hH872
            refine RL.nil ?_
            refine CW.cond rfl (fun h874 => ?_) (fun h874 => ?_)
            ·refine SR ?_
             refine V (fA underlying45 7 rfl sizeOf43 e1_13) ?_
             refine V (run_ldSub (sub := nodeL _) underlying43 rfl rfl rfl (hH872.blk (i := 0) rfl) rfl) ?_
             refine RL.callT rfl (c_clearanceref10_IsLabel _  _ (hc.left.mono hH872.kw)) (run_call1 call43 rfl) ?_
             rintro _ w877 ⟨⟨b880, rfl⟩, hb878⟩
             have hH879 := hH872.call hb878
             refine V (mV (B _) rfl) ?_
             refine RL.split (dj := 118) rfl (fun h882 => ?_) (fun h882 => ?_)
             ·refine RL.gT rfl (bR (c := true) h882) ?_
              refine V (fA underlying45 12 rfl sizeOf43 e1_13) ?_
              refine RL.gT rfl (bR (c := true) h882) ?_
              refine V (run_ldSub (sub := nodeL _) underlying43 rfl rfl rfl (hH879.blk (i := 0) rfl) rfl) ?_
              refine RL.gT rfl (bR (c := true) h882) ?_
              refine RL.callT rfl (c_clearanceref10_IsLabel _  _ (hc.right.mono hH879.kw)) (run_call1 call43 rfl) ?_
              rintro _ w885 ⟨⟨b888, rfl⟩, hb886⟩
              have hH887 := hH879.call hb886
              refine V (run_pickT (bR (c := true) h882) (v := B _) rfl) ?_
              refine V (aV (B _) rfl) ?_
              refine RL.nil ?_
              refine CW.ret ?_
              exact out1 Tryd.results18 rfl ⟨⟨_, rfl, fun h => by first | (cases h; done) | exact hok⟩, hH887.below⟩
             ·refine RL.gF rfl rfl (bR (c := false) h882) rfl ?_
              refine RL.gF rfl rfl (bR (c := false) h882) rfl ?_
              refine RL.gF rfl rfl (bR (c := false) h882) rfl ?_
              refine V (run_pickF (bR (c := false) h882) (v := B false) rfl) ?_
              refine V (aV (B _) rfl) ?_
              refine RL.nil ?_
              refine CW.ret ?_
              exact out1 Tryd.results18 rfl ⟨⟨_, rfl, fun h => by first | (cases h; done) | exact hok⟩, hH879.below⟩
            ·refine CW.skip ?_
             refine CW.seq ?_
             refine SR ?_
             refine V (fA underlying45 0 rfl sizeOf3 e1_13) ?_
             refine V (run_ld underlying3 rfl rfl (hH872.cell (i := 0) rfl (v := I _) rfl)) ?_
             refine RL.callP rfl hH872 (c_clearanceref12_Has _ _  _) (run_call2 call41 rfl (show _ = Value.int .u8 114 from rfl)) ?_
             intro w890 hH891
             refine RL.nil ?_
             refine CW.cond rfl (fun h893 => ?_) (fun h893 => ?_)
             ·refine SR ?_
              refine V (fA underlying45 7 rfl sizeOf43 e1_13) ?_
              refine V (run_ldSub (sub := nodeL _) underlying43 rfl rfl rfl (hH891.blk (i := 0) rfl) rfl) ?_
              refine RL.callT rfl (c_clearanceref10_IsRow _  _ (hc.left.mono hH891.kw)) (run_call1 call44 rfl) ?_
              rintro _ w896 ⟨⟨b899, rfl⟩, hb897⟩
              have hH898 := hH891.call hb897
              refine V (mV (B _) rfl) ?_
              refine RL.split (dj := 129) rfl (fun h901 => ?_) (fun h901 => ?_)
              ·refine RL.gT rfl (bR (c := true) h901) ?_
               refine V (fA underlying45 12 rfl sizeOf43 e1_13) ?_
               refine RL.gT rfl (bR (c := true) h901) ?_
               refine V (run_ldSub (sub := nodeL _) underlying43 rfl rfl rfl (hH898.blk (i := 0) rfl) rfl) ?_
               refine RL.gT rfl (bR (c := true) h901) ?_
               refine RL.callT rfl (c_clearanceref10_IsRow _  _ (hc.right.mono hH898.kw)) (run_call1 call44 rfl) ?_
               rintro _ w904 ⟨⟨b907, rfl⟩, hb905⟩
               have hH906 := hH898.call hb905
               refine V (run_pickT (bR (c := true) h901) (v := B _) rfl) ?_
               refine V (aV (B _) rfl) ?_
               refine RL.nil ?_
               refine CW.ret ?_
               exact out1 Tryd.results18 rfl ⟨⟨_, rfl, fun h => by first | (cases h; done) | exact hok⟩, hH906.below⟩
              ·refine RL.gF rfl rfl (bR (c := false) h901) rfl ?_
               refine RL.gF rfl rfl (bR (c := false) h901) rfl ?_
               refine RL.gF rfl rfl (bR (c := false) h901) rfl ?_
               refine V (run_pickF (bR (c := false) h901) (v := B false) rfl) ?_
               refine V (aV (B _) rfl) ?_
               refine RL.nil ?_
               refine CW.ret ?_
               exact out1 Tryd.results18 rfl ⟨⟨_, rfl, fun h => by first | (cases h; done) | exact hok⟩, hH898.below⟩
             ·refine CW.skip ?_
              refine SR ?_
              refine V (fA underlying45 7 rfl sizeOf43 e1_13) ?_
              refine V (run_ldSub (sub := nodeL _) underlying43 rfl rfl rfl (hH891.blk (i := 0) rfl) rfl) ?_
              refine RL.callT rfl (c_clearanceref12_zero _  _ (hc.left.mono hH891.kw)) (run_call1 call45 rfl) ?_
              rintro _ w911 ⟨⟨b914, rfl⟩, hb912⟩
              have hH913 := hH891.call hb912
              refine V (mV (B _) rfl) ?_
              refine RL.split (dj := 137) rfl (fun h916 => ?_) (fun h916 => ?_)
              ·refine RL.gT rfl (bR (c := true) h916) ?_
               refine V (fA underlying45 12 rfl sizeOf43 e1_13) ?_
               refine RL.gT rfl (bR (c := true) h916) ?_
               refine V (run_ldSub (sub := nodeL _) underlying43 rfl rfl rfl (hH913.blk (i := 0) rfl) rfl) ?_
               refine RL.gT rfl (bR (c := true) h916) ?_
               refine RL.callT rfl (c_clearanceref12_zero _  _ (hc.right.mono hH913.kw)) (run_call1 call45 rfl) ?_
               rintro _ w919 ⟨⟨b922, rfl⟩, hb920⟩
               have hH921 := hH913.call hb920
               refine V (run_pickT (bR (c := true) h916) (v := B _) rfl) ?_
               refine V (aV (B _) rfl) ?_
               refine RL.nil ?_
               refine CW.ret ?_
               exact out1 Tryd.results18 rfl ⟨⟨_, rfl, fun h => by first | (cases h; done) | exact hok⟩, hH921.below⟩
              ·refine RL.gF rfl rfl (bR (c := false) h916) rfl ?_
               refine RL.gF rfl rfl (bR (c := false) h916) rfl ?_
               refine RL.gF rfl rfl (bR (c := false) h916) rfl ?_
               refine V (run_pickF (bR (c := false) h916) (v := B false) rfl) ?_
               refine V (aV (B _) rfl) ?_
               refine RL.nil ?_
               refine CW.ret ?_
               exact out1 Tryd.results18 rfl ⟨⟨_, rfl, fun h => by first | (cases h; done) | exact hok⟩, hH913.below⟩
          ·refine AK 58 rfl rfl (bR (c := false) h868) (hH865.sub sR) ?_
           refine AK 59 rfl rfl (bR (c := false) h868) (hH865.sub sR) ?_
           refine AK 60 rfl rfl (bR (c := false) h868) (hH865.sub sR) ?_
           refine AK 61 rfl rfl (bR (c := false) h868) (hH865.sub sR) ?_
           refine AG 62 rfl rfl (bF h863) (hH865.sub sR) (fun w hS => run_pickF (bR (c := false) h868) (v := B false) rfl) ?_
           refine AT 63 rfl (hH865.sub sR) (fun w hS => run_pickF (bF h863) (v := B _) rfl) ?_
           refine AD ?_
           refine CW.condF rfl ?_
           refine CW.skip ?_
           refine CW.seq ?_
           refine SR ?_
           have hok : CmdOk c := by
            refine ⟨fun x hx => ?_, fun ho => ?_, fun ho => ?_⟩
            ·have := List.all_eq_true.1 (nf ‹(!wordsR c.names) = false›) x hx; exact this
            ·have h1 := (has_decl ho).1; have h2 := eqB ‹(!(hasF c.op 110 == nameR c.name.text)) = false›; rw [← h2]; exact h1
            ·have h1 := (has_decl ho).2.1; first | (exfalso; have h3 := ‹hasF c.op 119 = false›; rw [h1] at h3; cases h3; done) | omega
           refine V (fA underlying45 0 rfl sizeOf3 e1_13) ?_
           refine V (run_ld underlying3 rfl rfl (hH865.cell (i := 0) rfl (v := I _) rfl)) ?_
           refine RL.callP rfl hH865 (c_clearanceref12_Has _ _  _) (run_call2 call41 rfl (show _ = Value.int .u8 116 from rfl)) ?_
           intro w924 hH925
           refine RL.nil ?_
           refine CW.cond rfl (fun h927 => ?_) (fun h927 => ?_)
           ·refine SR ?_
            refine V (fA underlying45 7 rfl sizeOf43 e1_13) ?_
            refine V (run_ldSub (sub := nodeL _) underlying43 rfl rfl rfl (hH925.blk (i := 0) rfl) rfl) ?_
            refine RL.callT rfl (c_clearanceref10_IsLabel _  _ (hc.left.mono hH925.kw)) (run_call1 call43 rfl) ?_
            rintro _ w930 ⟨⟨b933, rfl⟩, hb931⟩
            have hH932 := hH925.call hb931
            refine V (mV (B _) rfl) ?_
            refine RL.split (dj := 118) rfl (fun h935 => ?_) (fun h935 => ?_)
            ·refine RL.gT rfl (bR (c := true) h935) ?_
             refine V (fA underlying45 12 rfl sizeOf43 e1_13) ?_
             refine RL.gT rfl (bR (c := true) h935) ?_
             refine V (run_ldSub (sub := nodeL _) underlying43 rfl rfl rfl (hH932.blk (i := 0) rfl) rfl) ?_
             refine RL.gT rfl (bR (c := true) h935) ?_
             refine RL.callT rfl (c_clearanceref10_IsLabel _  _ (hc.right.mono hH932.kw)) (run_call1 call43 rfl) ?_
             rintro _ w938 ⟨⟨b941, rfl⟩, hb939⟩
             have hH940 := hH932.call hb939
             refine V (run_pickT (bR (c := true) h935) (v := B _) rfl) ?_
             refine V (aV (B _) rfl) ?_
             refine RL.nil ?_
             refine CW.ret ?_
             exact out1 Tryd.results18 rfl ⟨⟨_, rfl, fun h => by first | (cases h; done) | exact hok⟩, hH940.below⟩
            ·refine RL.gF rfl rfl (bR (c := false) h935) rfl ?_
             refine RL.gF rfl rfl (bR (c := false) h935) rfl ?_
             refine RL.gF rfl rfl (bR (c := false) h935) rfl ?_
             refine V (run_pickF (bR (c := false) h935) (v := B false) rfl) ?_
             refine V (aV (B _) rfl) ?_
             refine RL.nil ?_
             refine CW.ret ?_
             exact out1 Tryd.results18 rfl ⟨⟨_, rfl, fun h => by first | (cases h; done) | exact hok⟩, hH932.below⟩
           ·refine CW.skip ?_
            refine CW.seq ?_
            refine SR ?_
            refine V (fA underlying45 0 rfl sizeOf3 e1_13) ?_
            refine V (run_ld underlying3 rfl rfl (hH925.cell (i := 0) rfl (v := I _) rfl)) ?_
            refine RL.callP rfl hH925 (c_clearanceref12_Has _ _  _) (run_call2 call41 rfl (show _ = Value.int .u8 114 from rfl)) ?_
            intro w943 hH944
            refine RL.nil ?_
            refine CW.cond rfl (fun h946 => ?_) (fun h946 => ?_)
            ·refine SR ?_
             refine V (fA underlying45 7 rfl sizeOf43 e1_13) ?_
             refine V (run_ldSub (sub := nodeL _) underlying43 rfl rfl rfl (hH944.blk (i := 0) rfl) rfl) ?_
             refine RL.callT rfl (c_clearanceref10_IsRow _  _ (hc.left.mono hH944.kw)) (run_call1 call44 rfl) ?_
             rintro _ w949 ⟨⟨b952, rfl⟩, hb950⟩
             have hH951 := hH944.call hb950
             refine V (mV (B _) rfl) ?_
             refine RL.split (dj := 129) rfl (fun h954 => ?_) (fun h954 => ?_)
             ·refine RL.gT rfl (bR (c := true) h954) ?_
              refine V (fA underlying45 12 rfl sizeOf43 e1_13) ?_
              refine RL.gT rfl (bR (c := true) h954) ?_
              refine V (run_ldSub (sub := nodeL _) underlying43 rfl rfl rfl (hH951.blk (i := 0) rfl) rfl) ?_
              refine RL.gT rfl (bR (c := true) h954) ?_
              refine RL.callT rfl (c_clearanceref10_IsRow _  _ (hc.right.mono hH951.kw)) (run_call1 call44 rfl) ?_
              rintro _ w957 ⟨⟨b960, rfl⟩, hb958⟩
              have hH959 := hH951.call hb958
              refine V (run_pickT (bR (c := true) h954) (v := B _) rfl) ?_
              refine V (aV (B _) rfl) ?_
              refine RL.nil ?_
              refine CW.ret ?_
              exact out1 Tryd.results18 rfl ⟨⟨_, rfl, fun h => by first | (cases h; done) | exact hok⟩, hH959.below⟩
             ·refine RL.gF rfl rfl (bR (c := false) h954) rfl ?_
              refine RL.gF rfl rfl (bR (c := false) h954) rfl ?_
              refine RL.gF rfl rfl (bR (c := false) h954) rfl ?_
              refine V (run_pickF (bR (c := false) h954) (v := B false) rfl) ?_
              refine V (aV (B _) rfl) ?_
              refine RL.nil ?_
              refine CW.ret ?_
              exact out1 Tryd.results18 rfl ⟨⟨_, rfl, fun h => by first | (cases h; done) | exact hok⟩, hH951.below⟩
            ·refine CW.skip ?_
             refine SR ?_
             refine V (fA underlying45 7 rfl sizeOf43 e1_13) ?_
             refine V (run_ldSub (sub := nodeL _) underlying43 rfl rfl rfl (hH944.blk (i := 0) rfl) rfl) ?_
             refine RL.callT rfl (c_clearanceref12_zero _  _ (hc.left.mono hH944.kw)) (run_call1 call45 rfl) ?_
             rintro _ w964 ⟨⟨b967, rfl⟩, hb965⟩
             have hH966 := hH944.call hb965
             refine V (mV (B _) rfl) ?_
             refine RL.split (dj := 137) rfl (fun h969 => ?_) (fun h969 => ?_)
             ·refine RL.gT rfl (bR (c := true) h969) ?_
              refine V (fA underlying45 12 rfl sizeOf43 e1_13) ?_
              refine RL.gT rfl (bR (c := true) h969) ?_
              refine V (run_ldSub (sub := nodeL _) underlying43 rfl rfl rfl (hH966.blk (i := 0) rfl) rfl) ?_
              refine RL.gT rfl (bR (c := true) h969) ?_
              refine RL.callT rfl (c_clearanceref12_zero _  _ (hc.right.mono hH966.kw)) (run_call1 call45 rfl) ?_
              rintro _ w972 ⟨⟨b975, rfl⟩, hb973⟩
              have hH974 := hH966.call hb973
              refine V (run_pickT (bR (c := true) h969) (v := B _) rfl) ?_
              refine V (aV (B _) rfl) ?_
              refine RL.nil ?_
              refine CW.ret ?_
              exact out1 Tryd.results18 rfl ⟨⟨_, rfl, fun h => by first | (cases h; done) | exact hok⟩, hH974.below⟩
             ·refine RL.gF rfl rfl (bR (c := false) h969) rfl ?_
              refine RL.gF rfl rfl (bR (c := false) h969) rfl ?_
              refine RL.gF rfl rfl (bR (c := false) h969) rfl ?_
              refine V (run_pickF (bR (c := false) h969) (v := B false) rfl) ?_
              refine V (aV (B _) rfl) ?_
              refine RL.nil ?_
              refine CW.ret ?_
              exact out1 Tryd.results18 rfl ⟨⟨_, rfl, fun h => by first | (cases h; done) | exact hok⟩, hH966.below⟩

theorem c_clearancelaw13_ScopeLives (s : Scp) (c : CmdR) (w : World) (hs : ScpV (Kw w) s) (hc : CmdV (Kw w) c) (hT : Tab w) : Calls Tryd.prog 6 #[.agg (scpC s), .agg (cmdL c).toArray] w (Pure (B true) w) := by
 have hm1 := hs.lats.small
 have hm2 := hs.vars.small
 have hm3 := hc.names.small
 unfold maxLen at hm1 hm2 hm3
 refine enter Tryd.func6 rfl Tryd.ntmps6 rfl ?_
 have hH := Hp.start w
 refine SR ?_
 refine RL.new rfl hH (f := fun b => (.pointer (some ⟨b, 0, none⟩))) (run_box (v := .agg _) rfl) ?_
 intro b3 w1 hH2
 refine RL.new rfl hH2 (f := fun b => (.pointer (some ⟨b, 0, none⟩))) (run_box (v := .agg _) rfl) ?_
 intro b6 w4 hH5
 refine V (aV (B false) rfl) ?_
 refine RL.nil ?_
 refine CW.seq ?_
 refine SR ?_
 refine V (run_ldA (cs := scpL _) underlying25 rfl rfl rfl (rangeAt_cells (hH5.blk (i := 1) rfl))) ?_
 refine RL.callP rfl hH5 (c_clearancelaw13_Big _  _ (hs.mono hH5.kw)) (run_call1 call7 rfl) ?_
 intro w7 hH8
 refine V (mV (B _) rfl) ?_
 refine RL.split (dj := 14) rfl (fun h10 => ?_) (fun h10 => ?_)
 ·refine RL.gF rfl rfl (bR (c := true) h10) rfl ?_
  refine RL.gF rfl rfl (bR (c := true) h10) rfl ?_
  refine V (run_pickT (bR (c := true) h10) (v := B true) rfl) ?_
  refine V (mV (B _) rfl) ?_
  refine RL.gF rfl rfl rfl rfl ?_
  refine RL.gF rfl rfl rfl rfl ?_
  refine RL.gF rfl rfl rfl rfl ?_
  refine V (run_pickT rfl (v := B true) rfl) ?_
  refine V (mV (B _) rfl) ?_
  refine RL.gF rfl rfl rfl rfl ?_
  refine RL.gF rfl rfl rfl rfl ?_
  refine RL.gF rfl rfl rfl rfl ?_
  refine V (run_pickT rfl (v := B true) rfl) ?_
  refine V (mV (B _) rfl) ?_
  refine RL.gF rfl rfl rfl rfl ?_
  refine RL.gF rfl rfl rfl rfl ?_
  refine RL.gF rfl rfl rfl rfl ?_
  refine V (run_pickT rfl (v := B true) rfl) ?_
  refine V (mV (B _) rfl) ?_
  refine RL.gF rfl rfl rfl rfl ?_
  refine RL.gF rfl rfl rfl rfl ?_
  refine RL.gF rfl rfl rfl rfl ?_
  refine V (run_pickT rfl (v := B true) rfl) ?_
  refine V (mV (B _) rfl) ?_
  refine RL.gF rfl rfl rfl rfl ?_
  refine RL.gF rfl rfl rfl rfl ?_
  refine RL.gF rfl rfl rfl rfl ?_
  refine RL.gF rfl rfl rfl rfl ?_
  refine RL.gF rfl rfl rfl rfl ?_
  refine V (run_pickT rfl (v := B true) rfl) ?_
  refine RL.nil ?_
  refine CW.condT rfl ?_
  refine SR ?_
  refine RL.callP rfl hH8 (c_clearancelaw13_alive   _ (hT.hp hH8)) (run_call0 call8) ?_
  intro w11 hH12
  refine V (aV (B _) rfl) ?_
  refine RL.nil ?_
  refine CW.ret ?_
  refine outP1 Tryd.results6 (congrArg B ?_) hH12.below
  rfl
 ·refine RL.gT rfl (bR (c := false) h10) ?_
  refine V (run_ldA (cs := cmdL _) underlying45 rfl rfl rfl (rangeAt_cells (hH8.blk (i := 0) rfl))) ?_
  refine RL.gT rfl (bR (c := false) h10) ?_
  refine RL.callT rfl (c_clearancelaw12_Big _  _ (hc.mono hH8.kw)) (run_call1 call14 rfl) ?_
  rintro _ w16 ⟨⟨b19, rfl, hb20⟩, hb17⟩
  have hH18 := hH8.call hb17
  refine V (run_pickF (bR (c := false) h10) (v := B _) rfl) ?_
  refine V (mV (B _) rfl) ?_
  refine RL.split (dj := 18) rfl (fun h22 => ?_) (fun h22 => ?_)
  ·refine RL.gF rfl rfl (bR (c := true) h22) rfl ?_
   refine RL.gF rfl rfl (bR (c := true) h22) rfl ?_
   refine RL.gF rfl rfl (bR (c := true) h22) rfl ?_
   refine V (run_pickT (bR (c := true) h22) (v := B true) rfl) ?_
   refine V (mV (B _) rfl) ?_
   refine RL.gF rfl rfl rfl rfl ?_
   refine RL.gF rfl rfl rfl rfl ?_
   refine RL.gF rfl rfl rfl rfl ?_
   refine V (run_pickT rfl (v := B true) rfl) ?_
   refine V (mV (B _) rfl) ?_
   refine RL.gF rfl rfl rfl rfl ?_
   refine RL.gF rfl rfl rfl rfl ?_
   refine RL.gF rfl rfl rfl rfl ?_
   refine V (run_pickT rfl (v := B true) rfl) ?_
   refine V (mV (B _) rfl) ?_
   refine RL.gF rfl rfl rfl rfl ?_
   refine RL.gF rfl rfl rfl rfl ?_
   refine RL.gF rfl rfl rfl rfl ?_
   refine V (run_pickT rfl (v := B true) rfl) ?_
   refine V (mV (B _) rfl) ?_
   refine RL.gF rfl rfl rfl rfl ?_
   refine RL.gF rfl rfl rfl rfl ?_
   refine RL.gF rfl rfl rfl rfl ?_
   refine RL.gF rfl rfl rfl rfl ?_
   refine RL.gF rfl rfl rfl rfl ?_
   refine V (run_pickT rfl (v := B true) rfl) ?_
   refine RL.nil ?_
   refine CW.condT rfl ?_
   refine SR ?_
   refine RL.callP rfl hH18 (c_clearancelaw13_alive   _ (hT.hp hH18)) (run_call0 call8) ?_
   intro w23 hH24
   refine V (aV (B _) rfl) ?_
   refine RL.nil ?_
   refine CW.ret ?_
   refine outP1 Tryd.results6 (congrArg B ?_) hH24.below
   rfl
  ·refine RL.gT rfl (bR (c := false) h22) ?_
   refine V (run_ldA (cs := scpL _) underlying25 rfl rfl rfl (rangeAt_cells (hH18.blk (i := 1) rfl))) ?_
   refine RL.gT rfl (bR (c := false) h22) ?_
   refine RL.callP rfl hH18 (c_scope_Right _  _ (hs.mono hH18.kw) (hT.hp hH18)) (run_call1 call17 rfl) ?_
   intro w26 hH27
   refine RL.gT rfl (bR (c := false) h22) ?_
   refine V (run_not rfl) ?_
   refine V (run_pickF (bR (c := false) h22) (v := B _) rfl) ?_
   refine V (mV (B _) rfl) ?_
   refine RL.split (dj := 23) rfl (fun h30 => ?_) (fun h30 => ?_)
   ·refine RL.gF rfl rfl (bR (c := true) h30) rfl ?_
    refine RL.gF rfl rfl (bR (c := true) h30) rfl ?_
    refine RL.gF rfl rfl (bR (c := true) h30) rfl ?_
    refine V (run_pickT (bR (c := true) h30) (v := B true) rfl) ?_
    refine V (mV (B _) rfl) ?_
    refine RL.gF rfl rfl rfl rfl ?_
    refine RL.gF rfl rfl rfl rfl ?_
    refine RL.gF rfl rfl rfl rfl ?_
    refine V (run_pickT rfl (v := B true) rfl) ?_
    refine V (mV (B _) rfl) ?_
    refine RL.gF rfl rfl rfl rfl ?_
    refine RL.gF rfl rfl rfl rfl ?_
    refine RL.gF rfl rfl rfl rfl ?_
    refine V (run_pickT rfl (v := B true) rfl) ?_
    refine V (mV (B _) rfl) ?_
    refine RL.gF rfl rfl rfl rfl ?_
    refine RL.gF rfl rfl rfl rfl ?_
    refine RL.gF rfl rfl rfl rfl ?_
    refine RL.gF rfl rfl rfl rfl ?_
    refine RL.gF rfl rfl rfl rfl ?_
    refine V (run_pickT rfl (v := B true) rfl) ?_
    refine RL.nil ?_
    refine CW.condT rfl ?_
    refine SR ?_
    refine RL.callP rfl hH27 (c_clearancelaw13_alive   _ (hT.hp hH27)) (run_call0 call8) ?_
    intro w31 hH32
    refine V (aV (B _) rfl) ?_
    refine RL.nil ?_
    refine CW.ret ?_
    refine outP1 Tryd.results6 (congrArg B ?_) hH32.below
    rfl
   ·refine RL.gT rfl (bR (c := false) h30) ?_
    refine V (run_ldA (cs := cmdL _) underlying45 rfl rfl rfl (rangeAt_cells (hH27.blk (i := 0) rfl))) ?_
    refine RL.gT rfl (bR (c := false) h30) ?_
    refine RL.callT rfl (c_clearanceref12_Right _  _ (hc.mono hH27.kw)) (run_call1 call18 rfl) ?_
    rintro _ w36 ⟨⟨b39, rfl, hb40⟩, hb37⟩
    have hH38 := hH27.call hb37
    refine RL.gT rfl (bR (c := false) h30) ?_
    refine V (run_not rfl) ?_
    refine V (run_pickF (bR (c := false) h30) (v := B _) rfl) ?_
    refine V (mV (B _) rfl) ?_
    refine RL.split (dj := 28) rfl (fun h43 => ?_) (fun h43 => ?_)
    ·refine RL.gF rfl rfl (bR (c := true) h43) rfl ?_
     refine RL.gF rfl rfl (bR (c := true) h43) rfl ?_
     refine RL.gF rfl rfl (bR (c := true) h43) rfl ?_
     refine V (run_pickT (bR (c := true) h43) (v := B true) rfl) ?_
     refine V (mV (B _) rfl) ?_
     refine RL.gF rfl rfl rfl rfl ?_
     refine RL.gF rfl rfl rfl rfl ?_
     refine RL.gF rfl rfl rfl rfl ?_
     refine V (run_pickT rfl (v := B true) rfl) ?_
     refine V (mV (B _) rfl) ?_
     refine RL.gF rfl rfl rfl rfl ?_
     refine RL.gF rfl rfl rfl rfl ?_
     refine RL.gF rfl rfl rfl rfl ?_
     refine RL.gF rfl rfl rfl rfl ?_
     refine RL.gF rfl rfl rfl rfl ?_
     refine V (run_pickT rfl (v := B true) rfl) ?_
     refine RL.nil ?_
     refine CW.condT rfl ?_
     refine SR ?_
     refine RL.callP rfl hH38 (c_clearancelaw13_alive   _ (hT.hp hH38)) (run_call0 call8) ?_
     intro w44 hH45
     refine V (aV (B _) rfl) ?_
     refine RL.nil ?_
     refine CW.ret ?_
     refine outP1 Tryd.results6 (congrArg B ?_) hH45.below
     rfl
    ·refine RL.gT rfl (bR (c := false) h43) ?_
     refine V (fA underlying45 0 rfl sizeOf3 rfl) ?_
     refine RL.gT rfl (bR (c := false) h43) ?_
     refine V (run_ld underlying3 rfl rfl (hH38.cell (i := 0) rfl (v := I _) rfl)) ?_
     refine RL.gT rfl (bR (c := false) h43) ?_
     refine V (run_lss rfl rfl) ?_
     refine V (run_pickF (bR (c := false) h43) (v := B _) rfl) ?_
     refine V (mV (B _) rfl) ?_
     refine RL.splitP (dj := 33) rfl (fun h48 => ?_) (fun h48 => ?_)
     ·refine RL.gF rfl rfl (bT h48) rfl ?_
      refine RL.gF rfl rfl (bT h48) rfl ?_
      refine RL.gF rfl rfl (bT h48) rfl ?_
      refine V (run_pickT (bT h48) (v := B true) rfl) ?_
      refine V (mV (B _) rfl) ?_
      refine RL.gF rfl rfl rfl rfl ?_
      refine RL.gF rfl rfl rfl rfl ?_
      refine RL.gF rfl rfl rfl rfl ?_
      refine RL.gF rfl rfl rfl rfl ?_
      refine RL.gF rfl rfl rfl rfl ?_
      refine V (run_pickT rfl (v := B true) rfl) ?_
      refine RL.nil ?_
      refine CW.condT rfl ?_
      refine SR ?_
      refine RL.callP rfl hH38 (c_clearancelaw13_alive   _ (hT.hp hH38)) (run_call0 call8) ?_
      intro w49 hH50
      refine V (aV (B _) rfl) ?_
      refine RL.nil ?_
      refine CW.ret ?_
      refine outP1 Tryd.results6 (congrArg B ?_) hH50.below
      rfl
     ·refine RL.gT rfl (bF h48) ?_
      refine V (fA underlying45 0 rfl sizeOf3 rfl) ?_
      refine RL.gT rfl (bF h48) ?_
      refine V (run_ld underlying3 rfl rfl (hH38.cell (i := 0) rfl (v := I _) rfl)) ?_
      refine RL.gT rfl (bF h48) ?_
      refine V (run_gtr rfl rfl) ?_
      refine V (run_pickF (bF h48) (v := B _) rfl) ?_
      refine V (mV (B _) rfl) ?_
      refine RL.splitP (dj := 38) rfl (fun h53 => ?_) (fun h53 => ?_)
      ·refine RL.gF rfl rfl (bT h53) rfl ?_
       refine RL.gF rfl rfl (bT h53) rfl ?_
       refine RL.gF rfl rfl (bT h53) rfl ?_
       refine RL.gF rfl rfl (bT h53) rfl ?_
       refine RL.gF rfl rfl (bT h53) rfl ?_
       refine V (run_pickT (bT h53) (v := B true) rfl) ?_
       refine RL.nil ?_
       refine CW.condT rfl ?_
       refine SR ?_
       refine RL.callP rfl hH38 (c_clearancelaw13_alive   _ (hT.hp hH38)) (run_call0 call8) ?_
       intro w54 hH55
       refine V (aV (B _) rfl) ?_
       refine RL.nil ?_
       refine CW.ret ?_
       refine outP1 Tryd.results6 (congrArg B ?_) hH55.below
       rfl
      ·refine RL.gT rfl (bF h53) ?_
       refine V (run_ldA (cs := scpL _) underlying25 rfl rfl rfl (rangeAt_cells (hH38.blk (i := 1) rfl))) ?_
       refine RL.gT rfl (bF h53) ?_
       refine V (run_ldA (cs := cmdL _) underlying45 rfl rfl rfl (rangeAt_cells (hH38.blk (i := 0) rfl))) ?_
       refine RL.gT rfl (bF h53) ?_
       refine RL.callP rfl hH38 (c_scope_Fault _ _ (sm_of ‹bigScp s = false› (hb20 ‹_›)) _ (hs.mono hH38.kw) (hc.mono hH38.kw) (hT.hp hH38)) (run_call2 call15 rfl rfl) ?_
       intro w57 hH58
       refine RL.gT rfl (bF h53) ?_
       refine V (run_bld (vs := []) rfl (built_fltL0)) ?_
       refine RL.gT rfl (bF h53) ?_
       refine V (run_neqT (eq_flt _ _) rfl rfl) ?_
       refine V (run_pickF (bF h53) (v := B _) rfl) ?_
       refine RL.nil ?_
       refine CW.cond rfl (fun h60 => ?_) (fun h60 => ?_)
       ·refine SR ?_
        refine RL.callP rfl hH58 (c_clearancelaw13_alive   _ (hT.hp hH58)) (run_call0 call8) ?_
        intro w61 hH62
        refine V (aV (B _) rfl) ?_
        refine RL.nil ?_
        refine CW.ret ?_
        refine outP1 Tryd.results6 (congrArg B ?_) hH62.below
        rfl
       ·refine CW.skip ?_
        refine SR ?_
        refine V (run_ldA (cs := scpL _) underlying25 rfl rfl rfl (rangeAt_cells (hH58.blk (i := 1) rfl))) ?_
        refine V (run_ldA (cs := cmdL _) underlying45 rfl rfl rfl (rangeAt_cells (hH58.blk (i := 0) rfl))) ?_
        refine RL.callF rfl hH58 (c_scope_Add (Kw w) s c (sm_of ‹bigScp s = false› (hb20 ‹_›)) _ hH58.kw hs hc (hT.hp hH58)) (run_call2 call19 rfl rfl) ?_
        intro v66 w67 Z69 hH68 hp70
        have hH71 : Hp _ w67 (_ :: _ :: Z69) := hH68.zin0 (L := [_, _])
        obtain ⟨q72, rfl, qsc73, qv74⟩ := hp70
        refine RL.new rfl hH71 (f := fun b => (.pointer (some ⟨b, 0, none⟩))) (run_alloc Tryd.zeroValue25) ?_
        intro b77 w75 hH76
        refine RL.set hH76 (i := 0) rfl (run_stW (c' := (scpL q72).toArray) rfl rfl rfl (scpL_one qv74) (hH76.blk (i := 0) rfl) rfl) ?_
        intro w78 hH79
        simp only [z0, z1] at hH79
        refine RL.nil ?_
        refine SR ?_
        have hf := ndF ‹(!decide (faultF s c = flt0)) = false›
        have hsr := nf ‹(!rightS s) = false›
        have hok := hb40 (nf ‹_›)
        refine V (run_ldA (cs := scpL _) underlying25 rfl rfl rfl (rangeAt_cells (hH79.blk (i := 0) rfl))) ?_
        refine V (fA underlying45 2 rfl sizeOf38 rfl) ?_
        refine V (fA underlying38 0 rfl sizeOf9 rfl) ?_
        refine V (run_ld underlying9 rfl rfl (hH79.cell (i := 1) rfl (v := .string _) rfl)) ?_
        refine RL.callP rfl hH79 (c_scope_Find _ _  _ (qv74.mono (hH79.kz (Le.refl _) (fun x hx => (mT (mT (mT hx))))))) (run_call2 call9 rfl rfl) ?_
        intro w80 hH81
        refine V (run_move (by conv => lhs; whnf)) ?_
        refine V (run_extract rfl (v := I _) rfl) ?_
        refine V (run_extract rfl (v := I _) rfl) ?_
        refine V (aV (I _) rfl) ?_
        refine V (aV (I _) rfl) ?_
        refine RL.nil ?_
        refine CW.seq ?_
        refine SR ?_
        refine V (fA underlying45 0 rfl sizeOf3 rfl) ?_
        refine V (run_ld underlying3 rfl rfl (hH81.cell (i := 1) rfl (v := I _) rfl)) ?_
        refine V (run_leq rfl rfl) ?_
        refine RL.nil ?_
        refine CW.condP rfl (fun h83 => ?_) (fun h83 => ?_)
        ·refine CW.seq ?_
         obtain ⟨hA, hA2, hB, hC, hD⟩ := lives_lat qsc73 hsr hok hf ⟨by omega, ‹_›⟩
         refine CW.regionD (by kernel_rfl) hH81 ?_
         intro w84 hH85
         refine AT 0 rfl (hH85.sub sR) (fun w hS => mV (I _) rfl) ?_
         refine AT 1 rfl (hH85.sub sR) (fun w hS => fA underlying25 0 rfl sizeOf22 rfl) ?_
         refine AT 2 rfl (hH85.sub sR) (fun w hS => run_ldV (hs.lats.sl.hp hS) underlying22 rfl rfl (hS.cell (i := 2) rfl rfl)) ?_
         refine AT 3 rfl (hH85.sub sR) (fun w hS => run_lenSl (hs.lats.sl.hp hS) rfl underlying22 rfl) ?_
         refine AT 4 rfl (hH85.sub sR) (fun w hS => run_eql rfl rfl) ?_
         refine AT 5 rfl (hH85.sub sR) (fun w hS => mV (B _) rfl) ?_
         refine AG 6 rfl rfl (bT (hA)) (hH85.sub sR) (fun w hS => fA underlying25 0 rfl sizeOf22 rfl) ?_
         refine AG 7 rfl rfl (bT (hA)) (hH85.sub sR) (fun w hS => run_ldV (qv74.lats.mono (hS.kz (Le.refl _) (fun x hx => (mT (mT (mT hx)))))).sl underlying22 rfl rfl (hS.cell (i := 0) rfl rfl)) ?_
         refine AG 8 rfl rfl (bT (hA)) (hH85.sub sR) (fun w hS => mV (I _) rfl) ?_
         refine AG 9 rfl rfl (bT (hA)) (hH85.sub sR) (fun w hS => run_indexAddrS (qv74.lats.mono (hS.kz (Le.refl _) (fun x hx => (mT (mT (mT hx)))))).sl underlying22 sizeOf56 rfl rfl (by first | omega | (have := (hV k h0 ‹k < _›).1; omega))) ?_
         refine AG 10 rfl rfl (bT (hA)) (hH85.sub sR) (fun w hS => fA underlying56 1 rfl sizeOf54 rfl) ?_
         refine AG 11 rfl rfl (bT (hA)) (hH85.sub sR) (fun w hS => run_ldEA (dv := lat0) (off := 1) (cs := shpL _) latL_len (qv74.lats.mono (hS.kz (Le.refl _) (fun x hx => (mT (mT (mT hx)))))).sl underlying54 rfl rfl rfl (by first | omega | (have := (hV k h0 ‹k < _›).1; omega)) (lat_shp _)) ?_
         refine A1 12 ?_
         refine AO.callP rfl (gsome rfl (bT (hA))) rfl hH85 sR (c_shape_Right _  _ ((qv74.at (by first | omega | (have := (hV k h0 ‹k < _›).1; omega)) (by first | omega | (have := (hV k h0 ‹k < _›).1; omega))).mono (hH85.kz (Le.refl _) (fun x hx => (mT (mT (mT hx)))))) (hT.hp hH85)) (run_call1 call21 rfl) ?_
         intro w87 hH88
         refine AT 13 rfl (hH88.sub sR) (fun w hS => run_pickT (bT (hA)) (v := B _) rfl) ?_
         refine AT 14 rfl (hH88.sub sR) (fun w hS => mV (B _) rfl) ?_
         refine AG 15 rfl rfl (bR (c := true) ((by rw [hA, Int.toNat_natCast, hB]; exact hC))) (hH88.sub sR) (fun w hS => fA underlying25 0 rfl sizeOf22 rfl) ?_
         refine AG 16 rfl rfl (bR (c := true) ((by rw [hA, Int.toNat_natCast, hB]; exact hC))) (hH88.sub sR) (fun w hS => run_ldV (qv74.lats.mono (hS.kz (Le.refl _) (fun x hx => (mT (mT (mT hx)))))).sl underlying22 rfl rfl (hS.cell (i := 0) rfl rfl)) ?_
         refine AG 17 rfl rfl (bR (c := true) ((by rw [hA, Int.toNat_natCast, hB]; exact hC))) (hH88.sub sR) (fun w hS => mV (I _) rfl) ?_
         refine AG 18 rfl rfl (bR (c := true) ((by rw [hA, Int.toNat_natCast, hB]; exact hC))) (hH88.sub sR) (fun w hS => run_indexAddrS (qv74.lats.mono (hS.kz (Le.refl _) (fun x hx => (mT (mT (mT hx)))))).sl underlying22 sizeOf56 rfl rfl (by first | omega | (have := (hV k h0 ‹k < _›).1; omega))) ?_
         refine AG 19 rfl rfl (bR (c := true) ((by rw [hA, Int.toNat_natCast, hB]; exact hC))) (hH88.sub sR) (fun w hS => fA underlying56 1 rfl sizeOf54 rfl) ?_
         refine AG 20 rfl rfl (bR (c := true) ((by rw [hA, Int.toNat_natCast, hB]; exact hC))) (hH88.sub sR) (fun w hS => run_ldEA (dv := lat0) (off := 1) (cs := shpL _) latL_len (qv74.lats.mono (hS.kz (Le.refl _) (fun x hx => (mT (mT (mT hx)))))).sl underlying54 rfl rfl rfl (by first | omega | (have := (hV k h0 ‹k < _›).1; omega)) (lat_shp _)) ?_
         refine AG 21 rfl rfl (bR (c := true) ((by rw [hA, Int.toNat_natCast, hB]; exact hC))) (hH88.sub sR) (fun w hS => run_ldA (cs := scpL _) underlying25 rfl rfl rfl (rangeAt_cells (hS.blk (i := 2) rfl))) ?_
         refine AG 22 rfl rfl (bR (c := true) ((by rw [hA, Int.toNat_natCast, hB]; exact hC))) (hH88.sub sR) (fun w hS => run_ldA (cs := cmdL _) underlying45 rfl rfl rfl (rangeAt_cells (hS.blk (i := 1) rfl))) ?_
         refine A1 23 ?_
         refine AO.callF rfl (gsome rfl (bR (c := true) ((by rw [hA, Int.toNat_natCast, hB]; exact hC)))) rfl hH88 sR (c_scope_Shape (Kw w) s c (sm_of ‹bigScp s = false› (hb20 ‹_›)) _ hH88.kw hs hc) (run_call2 call23 rfl rfl) ?_
         intro v92 w93 Z95 hH94 hp96
         have hH97 : Hp _ w93 (_ :: _ :: _ :: (Z95 ++ Z69)) := hH94.zin (L := [_, _, _]) (L' := Z69)
         obtain ⟨p98, rfl, psh99, pv100⟩ := hp96
         refine A1 24 ?_
         refine AO.callP rfl (gsome rfl (bR (c := true) ((by rw [hA, Int.toNat_natCast, hB]; exact hC)))) rfl hH97 (sP (sP (sP (sA sR)))) (c_shape_Same _ _  _ ((qv74.at (by first | omega | (have := (hV k h0 ‹k < _›).1; omega)) (by first | omega | (have := (hV k h0 ‹k < _›).1; omega))).mono (hH97.kz (Le.refl _) (fun x hx => (mT (mT (mT (List.mem_append_right _ hx))))))) (pv100.mono (hH97.kz (Le.refl _) (fun x hx => (mT (mT (mT (List.mem_append_left _ hx)))))))) (run_call2 call22 rfl rfl) ?_
         intro w101 hH102
         refine AT 25 rfl (hH102.sub (sP (sP (sP (sA sR))))) (fun w hS => run_pickT (bR (c := true) ((by rw [hA, Int.toNat_natCast, hB]; exact hC))) (v := B _) rfl) ?_
         refine AT 26 rfl (hH102.sub (sP (sP (sP (sA sR))))) (fun w hS => mV (B _) rfl) ?_
         refine AG 27 rfl rfl (bR (c := true) ((by rw [hA, Int.toNat_natCast, hB, psh99]; exact sameS_refl _))) (hH102.sub (sP (sP (sP (sA sR))))) (fun w hS => fA underlying25 1 rfl sizeOf23 rfl) ?_
         refine AG 28 rfl rfl (bR (c := true) ((by rw [hA, Int.toNat_natCast, hB, psh99]; exact sameS_refl _))) (hH102.sub (sP (sP (sP (sA sR))))) (fun w hS => run_ldV (qv74.vars.mono (hS.kz (Le.refl _) (fun x hx => (mT (mT (mT hx)))))).sl underlying23 rfl rfl (hS.cell (i := 0) rfl rfl)) ?_
         refine AG 29 rfl rfl (bR (c := true) ((by rw [hA, Int.toNat_natCast, hB, psh99]; exact sameS_refl _))) (hH102.sub (sP (sP (sP (sA sR))))) (fun w hS => run_lenSl (qv74.vars.mono (hS.kz (Le.refl _) (fun x hx => (mT (mT (mT hx)))))).sl rfl underlying23 rfl) ?_
         refine AG 30 rfl rfl (bR (c := true) ((by rw [hA, Int.toNat_natCast, hB, psh99]; exact sameS_refl _))) (hH102.sub (sP (sP (sP (sA sR))))) (fun w hS => fA underlying25 1 rfl sizeOf23 rfl) ?_
         refine AG 31 rfl rfl (bR (c := true) ((by rw [hA, Int.toNat_natCast, hB, psh99]; exact sameS_refl _))) (hH102.sub (sP (sP (sP (sA sR))))) (fun w hS => run_ldV (hs.vars.sl.hp hS) underlying23 rfl rfl (hS.cell (i := 2) rfl rfl)) ?_
         refine AG 32 rfl rfl (bR (c := true) ((by rw [hA, Int.toNat_natCast, hB, psh99]; exact sameS_refl _))) (hH102.sub (sP (sP (sP (sA sR))))) (fun w hS => run_lenSl (hs.vars.sl.hp hS) rfl underlying23 rfl) ?_
         refine AG 33 rfl rfl (bR (c := true) ((by rw [hA, Int.toNat_natCast, hB, psh99]; exact sameS_refl _))) (hH102.sub (sP (sP (sP (sA sR))))) (fun w hS => run_eql rfl rfl) ?_
         refine AT 34 rfl (hH102.sub (sP (sP (sP (sA sR))))) (fun w hS => run_pickT (bR (c := true) ((by rw [hA, Int.toNat_natCast, hB, psh99]; exact sameS_refl _))) (v := B _) rfl) ?_
         refine AT 35 rfl (hH102.sub (sP (sP (sP (sA sR))))) (fun w hS => mV (B _) rfl) ?_
         refine A1 36 ?_
         refine AO.callP rfl (gsome rfl (bT ((by omega)))) rfl hH102 (sP (sP (sP (sA sR)))) (c_clearancelaw13_alive   _ (hT.hp hH102)) (run_call0 call8) ?_
         intro w105 hH106
         refine AT 37 rfl (hH106.sub (sP (sP (sP (sA sR))))) (fun w hS => run_pickT (bT ((by omega))) (v := B _) rfl) ?_
         refine AT 38 rfl (hH106.sub (sP (sP (sP (sA sR))))) (fun w hS => aV (B _) rfl) ?_
         refine AD ?_
         refine CW.ret ?_
         refine outP1 Tryd.results6 (congrArg B ?_) hH106.below
         rfl
        ·refine CW.skip ?_
         refine CW.seq ?_
         refine SR ?_
         have hv80 := (show Sm s c from sm_of ‹bigScp s = false› (hb20 ‹_›)).vl
         have hv100 := (show Sm s c from sm_of ‹bigScp s = false› (hb20 ‹_›)).nl
         obtain ⟨hA, hA2, hA3, hV⟩ := lives_var qsc73 hf (by omega)
         refine V (fA underlying45 4 rfl sizeOf39 rfl) ?_
         refine V (run_ldV (hc.names.sl.hp hH81) underlying39 rfl rfl (hH81.cell (i := 1) rfl rfl)) ?_
         refine V (run_lenSl (hc.names.sl.hp hH81) rfl underlying39 rfl) ?_
         refine V (mV (I 0) rfl) ?_
         refine RL.nil ?_
         refine CW.block ?_
         refine CW.loop (G := (Int)) (fun (k : Int) s' w' => (Fr [4, 8, 9, 10, 11, 101, 102, 103, 104, 105, 106, 107, 108, 109, 110, 111, 112, 113, 114, 115, 116, 117, 118, 119, 120, 121, 122, 123, 124, 125, 126, 127, 128, 129, 130, 131, 132, 133, 134, 135, 136, 137, 138, 139, 140, 141, 142, 143] _ s') ∧ (Hp w w' _) ∧ (s' 101 = I k) ∧ (0 ≤ k) ∧ (k ≤ c.names.length)) (fun (k : Int) => (c.names.length - k).toNat) (0) ⟨Fr.refl _ _, hH81, rfl, (by omega), (by omega)⟩ ?_
         rintro k sg108 w108 ⟨fr108, hH108, e101_108, h0, hk⟩
         have e2_108 : sg108 2 = Pn _ _ := (fr108 2 rfl).trans rfl
         have e3_108 : sg108 3 = Pn _ _ := (fr108 3 rfl).trans rfl
         have e5_108 : sg108 5 = Pn _ _ := (fr108 5 rfl).trans rfl
         have e6_108 : sg108 6 = I _ := (fr108 6 rfl).trans rfl
         have e99_108 := (fr108 99 rfl).trans (by conv => lhs; whnf)
         have e100_108 : sg108 100 = I _ := (fr108 100 rfl).trans rfl
         refine SR ?_
         refine V (run_lss e101_108 e100_108) ?_
         refine RL.nil ?_
         refine CW.seq ?_
         refine CW.condP rfl (fun h110 => ?_) (fun h110 => ?_)
         ·refine CW.skip ?_
          refine CW.seq ?_
          refine CW.block ?_
          refine SR ?_
          refine V (run_move e101_108) ?_
          refine V (run_indexAddrS (hc.names.sl.hp hH108) underlying39 sizeOf38 e99_108 e101_108 (by first | omega | (have := (hV k h0 ‹k < _›).1; omega))) ?_
          refine V (run_ldE (dv := wd0) wdL_len (hc.names.sl.hp hH108) underlying38 rfl rfl rfl (by first | omega | (have := (hV k h0 ‹k < _›).1; omega))) ?_
          refine RL.new rfl hH108 (f := fun b => (.pointer (some ⟨b, 0, none⟩))) (run_alloc Tryd.zeroValue38) ?_
          intro b113 w111 hH112
          refine V (aV (I _) rfl) ?_
          refine RL.set hH112 (i := 0) rfl (run_stW (c' := (wdL _).toArray) rfl rfl rfl (by simp [wdL, Value.oneCell']) (hH112.blk (i := 0) rfl) rfl) ?_
          intro w114 hH115
          simp only [z0, z1] at hH115
          refine RL.nil ?_
          refine SR ?_
          refine V (run_ldA (cs := scpL _) underlying25 rfl rfl e5_108 (rangeAt_cells (hH115.blk (i := 1) rfl))) ?_
          refine V (fA underlying38 0 rfl sizeOf9 rfl) ?_
          refine V (run_ld underlying9 rfl rfl (hH115.cell (i := 0) rfl (v := .string _) rfl)) ?_
          refine RL.callP rfl hH115 (c_scope_Find _ _  _ (qv74.mono (hH115.kz (Le.refl _) (fun x hx => (mT (mT (mT (mT hx)))))))) (run_call2 call9 rfl rfl) ?_
          intro w116 hH117
          refine V (run_move (by conv => lhs; whnf)) ?_
          refine V (run_extract rfl (v := I _) rfl) ?_
          refine V (run_extract rfl (v := I _) rfl) ?_
          refine V (aV (I _) rfl) ?_
          refine V (aV (I _) rfl) ?_
          refine RL.nil ?_
          refine CW.seq ?_
          refine CW.regionD (by kernel_rfl) hH117 ?_
          intro w118 hH119
          refine AT 0 rfl (hH119.sub sR) (fun w hS => mV (I _) rfl) ?_
          refine AT 1 rfl (hH119.sub sR) (fun w hS => fA underlying25 1 rfl sizeOf23 e2_108) ?_
          refine AT 2 rfl (hH119.sub sR) (fun w hS => run_ldV (hs.vars.sl.hp hS) underlying23 rfl rfl (hS.cell (i := 3) rfl rfl)) ?_
          refine AT 3 rfl (hH119.sub sR) (fun w hS => run_lenSl (hs.vars.sl.hp hS) rfl underlying23 rfl) ?_
          refine AT 4 rfl (hH119.sub sR) (fun w hS => mV (I _) rfl) ?_
          refine AT 5 rfl (hH119.sub sR) (fun w hS => run_add rfl rfl (by omega)) ?_
          refine AT 6 rfl (hH119.sub sR) (fun w hS => run_neq rfl rfl) ?_
          refine AT 7 rfl (hH119.sub sR) (fun w hS => mV (B _) rfl) ?_
          refine AG 8 rfl rfl (bF ((fun h => h (hV k h0 ‹k < _›).1))) (hH119.sub sR) (fun w hS => fA underlying25 1 rfl sizeOf23 e5_108) ?_
          refine AG 9 rfl rfl (bF ((fun h => h (hV k h0 ‹k < _›).1))) (hH119.sub sR) (fun w hS => run_ldV (qv74.vars.mono (hS.kz (Le.refl _) (fun x hx => (mT (mT (mT (mT hx))))))).sl underlying23 rfl rfl (hS.cell (i := 1) rfl rfl)) ?_
          refine AG 10 rfl rfl (bF ((fun h => h (hV k h0 ‹k < _›).1))) (hH119.sub sR) (fun w hS => mV (I _) rfl) ?_
          refine AG 11 rfl rfl (bF ((fun h => h (hV k h0 ‹k < _›).1))) (hH119.sub sR) (fun w hS => run_indexAddrS (qv74.vars.mono (hS.kz (Le.refl _) (fun x hx => (mT (mT (mT (mT hx))))))).sl underlying23 sizeOf60 rfl rfl (by first | omega | (have := (hV k h0 ‹k < _›).1; omega))) ?_
          refine AG 12 rfl rfl (bF ((fun h => h (hV k h0 ‹k < _›).1))) (hH119.sub sR) (fun w hS => fA underlying60 2 rfl sizeOf3 rfl) ?_
          refine AG 13 rfl rfl (bF ((fun h => h (hV k h0 ‹k < _›).1))) (hH119.sub sR) (fun w hS => run_ldE1 (dv := var0) (off := 2) varL_len (qv74.vars.mono (hS.kz (Le.refl _) (fun x hx => (mT (mT (mT (mT hx))))))).sl underlying3 rfl rfl (by first | omega | (have := (hV k h0 ‹k < _›).1; omega)) rfl) ?_
          refine AG 14 rfl rfl (bF ((fun h => h (hV k h0 ‹k < _›).1))) (hH119.sub sR) (fun w hS => run_move e6_108) ?_
          refine AG 15 rfl rfl (bF ((fun h => h (hV k h0 ‹k < _›).1))) (hH119.sub sR) (fun w hS => run_neq rfl rfl) ?_
          refine AT 16 rfl (hH119.sub sR) (fun w hS => run_pickF (bF ((fun h => h (hV k h0 ‹k < _›).1))) (v := B _) rfl) ?_
          refine AT 17 rfl (hH119.sub sR) (fun w hS => mV (B _) rfl) ?_
          refine AG 18 rfl rfl (bF ((fun h => h (by rw [(hV k h0 ‹k < _›).1, (hV k h0 ‹k < _›).2, hA])))) (hH119.sub sR) (fun w hS => fA underlying25 1 rfl sizeOf23 e5_108) ?_
          refine AG 19 rfl rfl (bF ((fun h => h (by rw [(hV k h0 ‹k < _›).1, (hV k h0 ‹k < _›).2, hA])))) (hH119.sub sR) (fun w hS => run_ldV (qv74.vars.mono (hS.kz (Le.refl _) (fun x hx => (mT (mT (mT (mT hx))))))).sl underlying23 rfl rfl (hS.cell (i := 1) rfl rfl)) ?_
          refine AG 20 rfl rfl (bF ((fun h => h (by rw [(hV k h0 ‹k < _›).1, (hV k h0 ‹k < _›).2, hA])))) (hH119.sub sR) (fun w hS => mV (I _) rfl) ?_
          refine AG 21 rfl rfl (bF ((fun h => h (by rw [(hV k h0 ‹k < _›).1, (hV k h0 ‹k < _›).2, hA])))) (hH119.sub sR) (fun w hS => run_indexAddrS (qv74.vars.mono (hS.kz (Le.refl _) (fun x hx => (mT (mT (mT (mT hx))))))).sl underlying23 sizeOf60 rfl rfl (by first | omega | (have := (hV k h0 ‹k < _›).1; omega))) ?_
          refine AG 22 rfl rfl (bF ((fun h => h (by rw [(hV k h0 ‹k < _›).1, (hV k h0 ‹k < _›).2, hA])))) (hH119.sub sR) (fun w hS => fA underlying60 1 rfl sizeOf3 rfl) ?_
          refine AG 23 rfl rfl (bF ((fun h => h (by rw [(hV k h0 ‹k < _›).1, (hV k h0 ‹k < _›).2, hA])))) (hH119.sub sR) (fun w hS => run_ldE1 (dv := var0) (off := 1) varL_len (qv74.vars.mono (hS.kz (Le.refl _) (fun x hx => (mT (mT (mT (mT hx))))))).sl underlying3 rfl rfl (by first | omega | (have := (hV k h0 ‹k < _›).1; omega)) rfl) ?_
          refine AG 24 rfl rfl (bF ((fun h => h (by rw [(hV k h0 ‹k < _›).1, (hV k h0 ‹k < _›).2, hA])))) (hH119.sub sR) (fun w hS => run_eql rfl rfl) ?_
          refine AG 25 rfl rfl (bF ((fun h => h (by rw [(hV k h0 ‹k < _›).1, (hV k h0 ‹k < _›).2, hA])))) (hH119.sub sR) (fun w hS => fA underlying45 0 rfl sizeOf3 e3_108) ?_
          refine AG 26 rfl rfl (bF ((fun h => h (by rw [(hV k h0 ‹k < _›).1, (hV k h0 ‹k < _›).2, hA])))) (hH119.sub sR) (fun w hS => run_ld underlying3 rfl rfl (hS.cell (i := 2) rfl (v := I _) rfl)) ?_
          refine AG 27 rfl rfl (bF ((fun h => h (by rw [(hV k h0 ‹k < _›).1, (hV k h0 ‹k < _›).2, hA])))) (hH119.sub sR) (fun w hS => run_eql rfl rfl) ?_
          refine AG 28 rfl rfl (bF ((fun h => h (by rw [(hV k h0 ‹k < _›).1, (hV k h0 ‹k < _›).2, hA])))) (hH119.sub sR) (fun w hS => run_neqB underlying4 rfl rfl) ?_
          refine AT 29 rfl (hH119.sub sR) (fun w hS => run_pickF (bF ((fun h => h (by rw [(hV k h0 ‹k < _›).1, (hV k h0 ‹k < _›).2, hA])))) (v := B _) rfl) ?_
          refine AD ?_
          refine CW.condF (bR (c := false) ((by rw [(hV k h0 ‹k < _›).1, (hV k h0 ‹k < _›).2]; exact kind_no c))) ?_
          refine CW.skip ?_
          refine CW.region ?_
          refine V (run_add e101_108 rfl (by omega)) ?_
          refine V (mV (I _) rfl) ?_
          refine RL.nil ?_
          refine ⟨k + 1, ?_, fr108.u4.u4.u4.u4.u4.u4.u4.u4.u4.u4.u4.u1.u1.u1, (hH119.sub (sQ sR)), (congrArg I (by first | rfl | omega)), ?_, ?_⟩
          ·((try dsimp only); omega)
          ·omega
          ·omega
         ·refine CW.exit (id := 0) rfl ?_
          refine SR ?_
          refine V (fA underlying25 0 rfl sizeOf22 e5_108) ?_
          refine V (run_ldV (qv74.lats.mono (hH108.kz (Le.refl _) (fun x hx => (mT (mT (mT hx)))))).sl underlying22 rfl rfl (hH108.cell (i := 0) rfl rfl)) ?_
          refine V (run_lenSl (qv74.lats.mono (hH108.kz (Le.refl _) (fun x hx => (mT (mT (mT hx)))))).sl rfl underlying22 rfl) ?_
          refine V (fA underlying25 0 rfl sizeOf22 e2_108) ?_
          refine V (run_ldV (hs.lats.sl.hp hH108) underlying22 rfl rfl (hH108.cell (i := 2) rfl rfl)) ?_
          refine V (run_lenSl (hs.lats.sl.hp hH108) rfl underlying22 rfl) ?_
          refine V (run_eql rfl rfl) ?_
          refine V (mV (B _) rfl) ?_
          refine RL.gT rfl (bT ((by omega))) ?_
          refine RL.callP rfl hH108 (c_clearancelaw13_alive   _ (hT.hp hH108)) (run_call0 call8) ?_
          intro w126 hH127
          refine V (run_pickT (bT ((by omega))) (v := B _) rfl) ?_
          refine V (aV (B _) rfl) ?_
          refine RL.nil ?_
          refine CW.ret ?_
          refine outP1 Tryd.results6 (congrArg B ?_) hH127.below
          rfl

end Go.Proofs.YtiaifdnlkdcbiaaDoor.W
