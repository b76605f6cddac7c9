/-
  The walks of the functions that the laws of this seat reach, part 2: each returns what its plain counterpart tells, and turns nothing that was there.
-/
import Derived.Test.YtiaifdnlkdcbiaaDoorProg
import Derived.Test.YtiaifdnlkdcbiaaDoorEnv
import Derived.Test.YtiaifdnlkdcbiaaDoorPlain
import Derived.Test.YtiaifdnlkdcbiaaDoorBase
import Derived.Test.YtiaifdnlkdcbiaaDoorOrd
import Derived.Test.YtiaifdnlkdcbiaaDoorRel
import Derived.Test.YtiaifdnlkdcbiaaDoorClo
import Derived.Test.YtiaifdnlkdcbiaaDoorCov
import Derived.Test.YtiaifdnlkdcbiaaDoorArr
import Derived.Test.YtiaifdnlkdcbiaaDoorHas
import Derived.Test.YtiaifdnlkdcbiaaDoorGrd
import Derived.Test.YtiaifdnlkdcbiaaDoorStr
import Derived.Test.YtiaifdnlkdcbiaaDoorVu
import Derived.Test.YtiaifdnlkdcbiaaDoorShp
import Derived.Test.YtiaifdnlkdcbiaaDoorShl
import Derived.Test.YtiaifdnlkdcbiaaDoorShq
import Derived.Test.YtiaifdnlkdcbiaaDoorShr
import Derived.Test.YtiaifdnlkdcbiaaDoorCut
import Derived.Test.YtiaifdnlkdcbiaaDoorRec
import Derived.Test.YtiaifdnlkdcbiaaDoorScp
import Derived.Test.YtiaifdnlkdcbiaaDoorScq
import Derived.Test.YtiaifdnlkdcbiaaDoorScj
import Derived.Test.YtiaifdnlkdcbiaaDoorJdg
import Derived.Test.YtiaifdnlkdcbiaaDoorFlt
import Derived.Test.YtiaifdnlkdcbiaaDoorAdd
import Derived.Test.YtiaifdnlkdcbiaaDoorRgt
import Derived.Test.YtiaifdnlkdcbiaaDoorAlv
import Derived.Test.YtiaifdnlkdcbiaaDoorKee
import Derived.Test.YtiaifdnlkdcbiaaDoorMin
import Derived.Test.YtiaifdnlkdcbiaaDoorScopeFindsPacesA
namespace Go.Proofs.YtiaifdnlkdcbiaaDoor.W
open Go Go.RowKit Go.Proofs.YtiaifdnlkdcbiaaDoor.E Go.Proofs.YtiaifdnlkdcbiaaDoor.M
set_option linter.unusedVariables false
set_option linter.unusedSimpArgs false
set_option maxRecDepth 100000
open Tryd

theorem c_scope_Shape (K : Vu) (s : Scp) (c : CmdR) (hsm : Sm s c) (w : World) (hK : Le K (Kw w)) (hs : ScpV K s) (hc : CmdV K c) : Calls Tryd.prog 23 #[.agg (scpC s), .agg (cmdL c).toArray] w (PureF K (fun K' u => ∃ p : Shp, u = .agg (shpC p) ∧ p.sh = shapeF s c ∧ ShpV K' p) w) := by
 have hnl := hsm.nl
 have hpl := hsm.pl
 refine enter Tryd.func23 rfl Tryd.ntmps23 rfl ?_
 have hH := Hp.start w
 refine SR ?_
 refine RL.new rfl hH (f := fun b => (.pointer (some ⟨b, 0, none⟩))) (run_box (v := .agg _) rfl) ?_
 intro b3 w1 hH2
 refine RL.new rfl hH2 (f := fun b => (.pointer (some ⟨b, 0, none⟩))) (run_box (v := .agg _) rfl) ?_
 intro b6 w4 hH5
 refine RL.new rfl hH5 (f := fun b => (.pointer (some ⟨b, 0, none⟩))) (run_alloc Tryd.zeroValue54) ?_
 intro b9 w7 hH8
 refine RL.nil ?_
 refine SR ?_
 refine V (fA underlying45 4 rfl sizeOf39 rfl) ?_
 refine V (run_ldV ((hc.mono hK).names.sl.hp hH8) underlying39 rfl rfl (hH8.cell (i := 1) rfl rfl)) ?_
 refine RL.callR rfl hH8 (c_scope_texts _ c.names (by omega) _ ((hc.mono hK).names.sl.hp hH8)) (run_call1 call50 rfl) ?_
 intro v12 w10 hH11
 -- the names are frozen
 obtain ⟨Z13, hz14, hv15, -⟩ := hH11.frz (K)
 have hH16 : Hp _ w10 (_ :: _ :: _ :: Z13) := hz14.zin0 (L := [_, _, _])
 refine V (run_bld (vs := [(1, _)]) rfl (built_facN (one_slice hv15).2 (textsF c.names))) ?_
 refine RL.new rfl hH16 (f := fun b => (.pointer (some ⟨b, 0, none⟩))) (run_alloc zero_fac) ?_
 intro b19 w17 hH18
 refine RL.set hH18 (i := 0) rfl (run_stFac (⟨hv15⟩ : FacV _ ⟨0, v12, textsF c.names, Rl.none⟩) rfl rfl rfl (hH18.blk (i := 0) rfl)) ?_
 intro w20 hH21
 simp only [z0, z1] at hH21
 refine RL.nil ?_
 refine CW.seq ?_
 refine SR ?_
 refine V (fA underlying45 0 rfl sizeOf3 rfl) ?_
 refine V (run_ld underlying3 rfl rfl (hH21.cell (i := 2) rfl (v := I _) rfl)) ?_
 refine RL.nil ?_
 refine CW.block ?_
 refine SR ?_
 refine V (run_eql rfl rfl) ?_
 refine V (aV (B _) rfl) ?_
 refine RL.nil ?_
 refine CW.condP rfl (fun h23 => ?_) (fun h23 => ?_)
 ·refine CW.region ?_
  refine V (fA underlying84 0 rfl sizeOf3 rfl) ?_
  refine RL.set hH21 (i := 0) rfl (run_st rfl rfl (v := I 1) rfl rfl rfl (hH21.blk (i := 0) rfl) (by simp [facL_len])) ?_
  intro w24 hH25
  simp only [z0, z1] at hH25
  rw [facC_set0] at hH25
  refine RL.nil ?_
  refine SR ?_
  refine V (run_ldFac underlying84 rfl rfl rfl (hH25.blk (i := 0) rfl)) ?_
  refine RL.callF rfl hH25 (c_shape_One _ ⟨1, v12, textsF c.names, Rl.none⟩ (by show (textsF c.names).length ≤ 1000; rw [texts_len]; have := hsm.nl; omega) _ (hH25.kz hK fun x hx => (mT (mT (mT (mT hx))))) (FacV.set (⟨hv15⟩ : FacV _ ⟨0, v12, textsF c.names, Rl.none⟩) 1 Rl.none : FacV _ ⟨1, v12, textsF c.names, Rl.none⟩)) (run_call1 call53 rfl) ?_
  intro v28 w29 Z31 hH30 hp32
  have hH33 : Hp _ w29 (_ :: _ :: _ :: _ :: (Z31 ++ Z13)) := hH30.zin (L := [_, _, _, _]) (L' := Z13)
  obtain ⟨p34, rfl, psh35, pv36⟩ := hp32
  refine RL.set hH33 (i := 1) rfl (run_stShp pv36 rfl rfl rfl (hH33.blk (i := 1) rfl) rfl) ?_
  intro w37 hH38
  simp only [z0, z1] at hH38
  refine RL.nil ?_
  refine CW.ret ?_
  refine outCg Tryd.results23 rfl hH38 (i := 1) rfl underlying54 rfl rfl ⟨(Z31 ++ Z13), (hH38.sub (sQ (sQ (sQ (sQ sR))))), p34, rfl, ?_, ?_⟩
  ·rw [psh35]; first | exact (shape_1 ‹c.op = 1›).symm | exact (shape_2 ‹c.op = 2›).symm | exact (shape_4 ‹c.op = 4›).symm | exact (shape_5 ‹c.op = 5›).symm | exact (shape_3 ‹c.op = 3›).symm | exact (shape_0 ‹¬ c.op = 1› ‹¬ c.op = 2› ‹¬ c.op = 4› ‹¬ c.op = 5› ‹¬ c.op = 3›).symm
  ·exact pv36.mono Le.kk
 ·refine SR ?_
  refine V (run_eql rfl rfl) ?_
  refine V (aV (B _) rfl) ?_
  refine RL.nil ?_
  refine CW.condP rfl (fun h40 => ?_) (fun h40 => ?_)
  ·refine CW.region ?_
   refine V (fA underlying84 0 rfl sizeOf3 rfl) ?_
   refine RL.set hH21 (i := 0) rfl (run_st rfl rfl (v := I 2) rfl rfl rfl (hH21.blk (i := 0) rfl) (by simp [facL_len])) ?_
   intro w41 hH42
   simp only [z0, z1] at hH42
   rw [facC_set0] at hH42
   refine RL.nil ?_
   refine SR ?_
   refine V (run_ldFac underlying84 rfl rfl rfl (hH42.blk (i := 0) rfl)) ?_
   refine RL.callF rfl hH42 (c_shape_One _ ⟨2, v12, textsF c.names, Rl.none⟩ (by show (textsF c.names).length ≤ 1000; rw [texts_len]; have := hsm.nl; omega) _ (hH42.kz hK fun x hx => (mT (mT (mT (mT hx))))) (FacV.set (⟨hv15⟩ : FacV _ ⟨0, v12, textsF c.names, Rl.none⟩) 2 Rl.none : FacV _ ⟨2, v12, textsF c.names, Rl.none⟩)) (run_call1 call53 rfl) ?_
   intro v45 w46 Z48 hH47 hp49
   have hH50 : Hp _ w46 (_ :: _ :: _ :: _ :: (Z48 ++ Z13)) := hH47.zin (L := [_, _, _, _]) (L' := Z13)
   obtain ⟨p51, rfl, psh52, pv53⟩ := hp49
   refine RL.set hH50 (i := 1) rfl (run_stShp pv53 rfl rfl rfl (hH50.blk (i := 1) rfl) rfl) ?_
   intro w54 hH55
   simp only [z0, z1] at hH55
   refine RL.nil ?_
   refine CW.ret ?_
   refine outCg Tryd.results23 rfl hH55 (i := 1) rfl underlying54 rfl rfl ⟨(Z48 ++ Z13), (hH55.sub (sQ (sQ (sQ (sQ sR))))), p51, rfl, ?_, ?_⟩
   ·rw [psh52]; first | exact (shape_1 ‹c.op = 1›).symm | exact (shape_2 ‹c.op = 2›).symm | exact (shape_4 ‹c.op = 4›).symm | exact (shape_5 ‹c.op = 5›).symm | exact (shape_3 ‹c.op = 3›).symm | exact (shape_0 ‹¬ c.op = 1› ‹¬ c.op = 2› ‹¬ c.op = 4› ‹¬ c.op = 5› ‹¬ c.op = 3›).symm
   ·exact pv53.mono Le.kk
  ·refine SR ?_
   refine V (run_eql rfl rfl) ?_
   refine V (aV (B _) rfl) ?_
   refine RL.nil ?_
   refine CW.condP rfl (fun h57 => ?_) (fun h57 => ?_)
   ·refine CW.region ?_
    refine V (run_ldA (cs := cmdL _) underlying45 rfl rfl rfl (rangeAt_cells (hH21.blk (i := 2) rfl))) ?_
    refine RL.callP rfl hH21 (c_scope_related c (by omega) (by omega) _ ((hc.mono hK).mono hH21.kw)) (run_call1 call51 rfl) ?_
    intro w58 hH59
    refine V (fA underlying84 0 rfl sizeOf3 rfl) ?_
    refine RL.set hH59 (i := 0) rfl (run_st rfl rfl (v := I 3) rfl rfl rfl (hH59.blk (i := 0) rfl) (by simp [facL_len])) ?_
    intro w60 hH61
    simp only [z0, z1] at hH61
    rw [facC_set0] at hH61
    refine V (fA underlying84 2 rfl sizeOf73 rfl) ?_
    refine RL.set hH61 (i := 0) rfl (run_stFacR rfl rfl rfl (hH61.blk (i := 0) rfl)) ?_
    intro w62 hH63
    simp only [z0, z1] at hH63
    refine RL.nil ?_
    refine SR ?_
    refine V (run_ldFac underlying84 rfl rfl rfl (hH63.blk (i := 0) rfl)) ?_
    refine RL.callF rfl hH63 (c_shape_One _ ⟨3, v12, textsF c.names, (relatedF c)⟩ (by show (textsF c.names).length ≤ 1000; rw [texts_len]; have := hsm.nl; omega) _ (hH63.kz hK fun x hx => (mT (mT (mT (mT hx))))) (FacV.set (FacV.set (⟨hv15⟩ : FacV _ ⟨0, v12, textsF c.names, Rl.none⟩) 3 Rl.none : FacV _ ⟨3, v12, textsF c.names, Rl.none⟩) 3 (relatedF c) : FacV _ ⟨3, v12, textsF c.names, (relatedF c)⟩)) (run_call1 call53 rfl) ?_
    intro v66 w67 Z69 hH68 hp70
    have hH71 : Hp _ w67 (_ :: _ :: _ :: _ :: (Z69 ++ Z13)) := hH68.zin (L := [_, _, _, _]) (L' := Z13)
    obtain ⟨p72, rfl, psh73, pv74⟩ := hp70
    refine RL.set hH71 (i := 1) rfl (run_stShp pv74 rfl rfl rfl (hH71.blk (i := 1) rfl) rfl) ?_
    intro w75 hH76
    simp only [z0, z1] at hH76
    refine RL.nil ?_
    refine CW.ret ?_
    refine outCg Tryd.results23 rfl hH76 (i := 1) rfl underlying54 rfl rfl ⟨(Z69 ++ Z13), (hH76.sub (sQ (sQ (sQ (sQ sR))))), p72, rfl, ?_, ?_⟩
    ·rw [psh73]; first | exact (shape_1 ‹c.op = 1›).symm | exact (shape_2 ‹c.op = 2›).symm | exact (shape_4 ‹c.op = 4›).symm | exact (shape_5 ‹c.op = 5›).symm | exact (shape_3 ‹c.op = 3›).symm | exact (shape_0 ‹¬ c.op = 1› ‹¬ c.op = 2› ‹¬ c.op = 4› ‹¬ c.op = 5› ‹¬ c.op = 3›).symm
    ·exact pv74.mono Le.kk
   ·refine SR ?_
    refine V (run_eql rfl rfl) ?_
    refine V (aV (B _) rfl) ?_
    refine RL.nil ?_
    refine CW.condP rfl (fun h78 => ?_) (fun h78 => ?_)
    ·refine CW.region ?_
     refine V (run_ldA (cs := cmdL _) underlying45 rfl rfl rfl (rangeAt_cells (hH21.blk (i := 2) rfl))) ?_
     refine RL.callP rfl hH21 (c_scope_related c (by omega) (by omega) _ ((hc.mono hK).mono hH21.kw)) (run_call1 call51 rfl) ?_
     intro w79 hH80
     refine V (fA underlying84 0 rfl sizeOf3 rfl) ?_
     refine RL.set hH80 (i := 0) rfl (run_st rfl rfl (v := I 4) rfl rfl rfl (hH80.blk (i := 0) rfl) (by simp [facL_len])) ?_
     intro w81 hH82
     simp only [z0, z1] at hH82
     rw [facC_set0] at hH82
     refine V (fA underlying84 2 rfl sizeOf73 rfl) ?_
     refine RL.set hH82 (i := 0) rfl (run_stFacR rfl rfl rfl (hH82.blk (i := 0) rfl)) ?_
     intro w83 hH84
     simp only [z0, z1] at hH84
     refine RL.nil ?_
     refine SR ?_
     refine V (run_ldFac underlying84 rfl rfl rfl (hH84.blk (i := 0) rfl)) ?_
     refine RL.callF rfl hH84 (c_shape_One _ ⟨4, v12, textsF c.names, (relatedF c)⟩ (by show (textsF c.names).length ≤ 1000; rw [texts_len]; have := hsm.nl; omega) _ (hH84.kz hK fun x hx => (mT (mT (mT (mT hx))))) (FacV.set (FacV.set (⟨hv15⟩ : FacV _ ⟨0, v12, textsF c.names, Rl.none⟩) 4 Rl.none : FacV _ ⟨4, v12, textsF c.names, Rl.none⟩) 4 (relatedF c) : FacV _ ⟨4, v12, textsF c.names, (relatedF c)⟩)) (run_call1 call53 rfl) ?_
     intro v87 w88 Z90 hH89 hp91
     have hH92 : Hp _ w88 (_ :: _ :: _ :: _ :: (Z90 ++ Z13)) := hH89.zin (L := [_, _, _, _]) (L' := Z13)
     obtain ⟨p93, rfl, psh94, pv95⟩ := hp91
     refine RL.set hH92 (i := 1) rfl (run_stShp pv95 rfl rfl rfl (hH92.blk (i := 1) rfl) rfl) ?_
     intro w96 hH97
     simp only [z0, z1] at hH97
     refine RL.nil ?_
     refine CW.ret ?_
     refine outCg Tryd.results23 rfl hH97 (i := 1) rfl underlying54 rfl rfl ⟨(Z90 ++ Z13), (hH97.sub (sQ (sQ (sQ (sQ sR))))), p93, rfl, ?_, ?_⟩
     ·rw [psh94]; first | exact (shape_1 ‹c.op = 1›).symm | exact (shape_2 ‹c.op = 2›).symm | exact (shape_4 ‹c.op = 4›).symm | exact (shape_5 ‹c.op = 5›).symm | exact (shape_3 ‹c.op = 3›).symm | exact (shape_0 ‹¬ c.op = 1› ‹¬ c.op = 2› ‹¬ c.op = 4› ‹¬ c.op = 5› ‹¬ c.op = 3›).symm
     ·exact pv95.mono Le.kk
    ·refine SR ?_
     refine V (run_eql rfl rfl) ?_
     refine V (aV (B _) rfl) ?_
     refine RL.nil ?_
     refine CW.condP rfl (fun h99 => ?_) (fun h99 => ?_)
     ·refine SR ?_
      refine V (run_ldA (cs := scpL _) underlying25 rfl rfl rfl (rangeAt_cells (hH21.blk (i := 3) rfl))) ?_
      refine V (run_ldA (cs := cmdL _) underlying45 rfl rfl rfl (rangeAt_cells (hH21.blk (i := 2) rfl))) ?_
      refine RL.callF rfl hH21 (c_scope_product K s c (by omega) (fun a ha => by have := hsm.fn a ha; omega) (fun a ha f hf => by have := hsm.nn a ha f hf; omega) _ (hK.trans hH21.kw) hs hc) (run_call2 call52 rfl rfl) ?_
      intro v102 w103 Z105 hH104 hp106
      have hH107 : Hp _ w103 (_ :: _ :: _ :: _ :: (Z105 ++ Z13)) := hH104.zin (L := [_, _, _, _]) (L' := Z13)
      obtain ⟨p108, rfl, psh109, pv110⟩ := hp106
      refine RL.set hH107 (i := 1) rfl (run_stShp pv110 rfl rfl rfl (hH107.blk (i := 1) rfl) rfl) ?_
      intro w111 hH112
      simp only [z0, z1] at hH112
      refine RL.nil ?_
      refine CW.ret ?_
      refine outCg Tryd.results23 rfl hH112 (i := 1) rfl underlying54 rfl rfl ⟨(Z105 ++ Z13), (hH112.sub (sQ (sQ (sQ (sQ sR))))), p108, rfl, ?_, ?_⟩
      ·rw [psh109]; first | exact (shape_1 ‹c.op = 1›).symm | exact (shape_2 ‹c.op = 2›).symm | exact (shape_4 ‹c.op = 4›).symm | exact (shape_5 ‹c.op = 5›).symm | exact (shape_3 ‹c.op = 3›).symm | exact (shape_0 ‹¬ c.op = 1› ‹¬ c.op = 2› ‹¬ c.op = 4› ‹¬ c.op = 5› ‹¬ c.op = 3›).symm
      ·exact pv110.mono Le.zout
     ·refine SR ?_
      refine V (run_bld (vs := []) rfl built_shpE) ?_
      refine RL.set hH21 (i := 1) rfl (run_stShp (ShpV.none K) rfl rfl rfl (hH21.blk (i := 1) rfl) rfl) ?_
      intro w113 hH114
      simp only [z0, z1] at hH114
      refine RL.nil ?_
      refine CW.ret ?_
      refine outCg Tryd.results23 rfl hH114 (i := 1) rfl underlying54 rfl rfl ⟨Z13, (hH114.sub (sQ (sQ (sQ (sQ sR))))), ⟨false, .slice none 0 0, []⟩, rfl, ?_, ?_⟩
      ·first | exact (shape_1 ‹c.op = 1›).symm | exact (shape_2 ‹c.op = 2›).symm | exact (shape_4 ‹c.op = 4›).symm | exact (shape_5 ‹c.op = 5›).symm | exact (shape_3 ‹c.op = 3›).symm | exact (shape_0 ‹¬ c.op = 1› ‹¬ c.op = 2› ‹¬ c.op = 4› ‹¬ c.op = 5› ‹¬ c.op = 3›).symm
      ·exact ShpV.none _

theorem c_scope_judge_tell (W0 : World) (b : Nat) (s : Scp) (c : CmdR) (v : Value) (l : List Flt) (L : List Ent) (is : Bool) (k a : Int) (w : World) (hs : ScpV (Kw W0) s) (hc : CmdV (Kw W0) c) (hH : Hp W0 w (.row v 33 2 (l).length ((l).flatMap fltL) :: .blk b (.cells (judL s c v).toArray 66 (0, 0)) :: L)) (hlen : l.length ≤ 5000) : Calls Tryd.prog 56 #[.pointer (some ⟨b, 0, none⟩), B is, I k, I a] w (Ret fun u w' => u = .tuple #[] ∧ ∃ v' l', l' = l ++ tellF is k a ∧ l'.length ≤ l.length + 1 ∧ Hp W0 w' (.row v' 33 2 (l').length ((l').flatMap fltL) :: .blk b (.cells (judL s c v').toArray 66 (0, 0)) :: L)) := by
 refine enter Tryd.func56 rfl Tryd.ntmps56 rfl ?_
 refine SR ?_
 refine V (mV (B _) rfl) ?_
 refine RL.nil ?_
 refine CW.cond rfl (fun h2 => ?_) (fun h2 => ?_)
 ·refine CW.region ?_
  refine V (mV (Pn _ _) rfl) ?_
  refine V (mV (Pn _ _) rfl) ?_
  refine V (run_nilCheck rfl) ?_
  refine V (fA underlying66 19 rfl sizeOf26 rfl) ?_
  refine V (run_ld underlying26 rfl rfl (hH.cell (i := 1) rfl rfl)) ?_
  refine V (mV (I _) rfl) ?_
  refine V (mV (I _) rfl) ?_
  refine V (run_bld (vs := [(0, I _), (1, I _)]) rfl (built_fltL _ _)) ?_
  refine RL.new rfl hH (f := fun b => (.slice (some ⟨b, 0, none⟩) 1 1)) (run_mkRecs fltL_len underlying26 rfl rfl rfl (l := [(⟨k, a⟩ : Flt)]) rfl (by decide) (by decide) rfl) ?_
  intro b5 w3 hH4
  refine RL.app rfl hH4 (i := 1) rfl (Hp.slFlat fltL_len hH4 (i := 0) (l := [(⟨k, a⟩ : Flt)]) rfl (by simp [maxLen])) rfl rfl underlying26 rfl rfl (size := 2) (bytes := 16) rfl rfl rfl (by decide) (by simp [fltL, Value.oneCell']) (by simp only [List.length_cons, List.length_nil]; omega) (by simp only [maxLen, List.length_cons, List.length_nil]; omega) ?_
  intro v6 w7 hH8
  simp only [z0, z1] at hH8
  refine V (run_nilCheck rfl) ?_
  refine V (fA underlying66 19 rfl sizeOf26 rfl) ?_
  refine RL.set hH8 (i := 2) rfl (run_st rfl rfl (v := v6) rfl (row_cells (hH8.get (i := 1) rfl)).1 (row_cells (hH8.get (i := 1) rfl)).2 (hH8.blk (i := 2) rfl) (by first | (show 19 < 20; decide) | decide | (simp only [List.size_toArray, judL_len]; decide) | simp)) ?_
  intro w9 hH10
  simp only [z0, z1] at hH10
  rw [judL_set] at hH10
  refine RL.nil ?_
  exact out0 Tryd.results56 ⟨rfl, v6, (l ++ [⟨k, a⟩]), by simp [tellF, *], by simp, Hp.conv ((hH10.perm (((pC pR).trans pS).trans (pC (((pC pR).trans pS).trans (pC pR))))).sub (sP (sP (sQ sR)))) (by first | rfl | simp)⟩
 ·refine CW.skip ?_
  exact out0 Tryd.results56 ⟨rfl, v, l, by simp [tellF, *], by simp, Hp.conv (hH.sub sR) (by first | rfl | simp)⟩

theorem c_scope_judge_live (b : Nat) (s : Scp) (c : CmdR) (v : Value) (t : Tx) (w : World) (hb : w.heap[b]? = some (.cells (judL s c v).toArray 66 (0, 0))) (hs : ScpV (Kw w) s) : Calls Tryd.prog 55 #[.pointer (some ⟨b, 0, none⟩), S t] w (Pure (.tuple #[B (isF s t), B (livesF s t)]) w) := by
 refine enter Tryd.func55 rfl Tryd.ntmps55 rfl ?_
 have hH := Hp.start w
 refine SR ?_
 refine V (aV (B false) rfl) ?_
 refine V (aV (B false) rfl) ?_
 refine RL.nil ?_
 refine SR ?_
 refine V (mV (Pn _ _) rfl) ?_
 refine V (run_nilCheck rfl) ?_
 refine V (fA underlying66 0 rfl sizeOf25 rfl) ?_
 refine V (run_ldSub (sub := scpL _) underlying25 rfl rfl rfl (hH.ext hb) rfl) ?_
 refine V (mV (.string _) rfl) ?_
 refine RL.callP rfl hH (c_scope_Find _ _  _ (hs.mono hH.kw)) (run_call2 call9 rfl rfl) ?_
 intro w1 hH2
 refine V (run_move (by conv => lhs; whnf)) ?_
 refine V (run_extract rfl (v := I _) rfl) ?_
 refine V (run_extract rfl (v := I _) rfl) ?_
 refine V (aV (I _) rfl) ?_
 refine V (aV (I _) rfl) ?_
 refine RL.nil ?_
 refine SR ?_
 refine V (mV (I _) rfl) ?_
 refine V (run_geq rfl rfl) ?_
 refine V (mV (I _) rfl) ?_
 refine V (run_geq rfl rfl) ?_
 refine V (mV (B _) rfl) ?_
 refine RL.splitP (dj := 21) rfl (fun h5 => ?_) (fun h5 => ?_)
 ·refine RL.gF rfl rfl (bT h5) rfl ?_
  refine RL.gF rfl rfl (bT h5) rfl ?_
  refine V (run_pickT (bT h5) (v := B true) rfl) ?_
  refine V (aV (B _) rfl) ?_
  refine V (aV (B _) rfl) ?_
  refine RL.nil ?_
  refine CW.ret ?_
  refine outP2 Tryd.results55 (congrArg B ?_) (congrArg B ?_) hH2.below
  all_goals (simp [isF, livesF, *])
 ·refine RL.gT rfl (bF h5) ?_
  refine V (mV (I _) rfl) ?_
  refine RL.gT rfl (bF h5) ?_
  refine V (run_geq rfl rfl) ?_
  refine V (run_pickF (bF h5) (v := B _) rfl) ?_
  refine V (aV (B _) rfl) ?_
  refine V (aV (B _) rfl) ?_
  refine RL.nil ?_
  refine CW.ret ?_
  refine outP2 Tryd.results55 (congrArg B ?_) (congrArg B ?_) hH2.below
  all_goals (simp [isF, livesF, *])

theorem c_scope_judge_head (W0 : World) (b : Nat) (s : Scp) (c : CmdR) (v : Value) (l : List Flt) (L : List Ent) (w : World) (hs : ScpV (Kw W0) s) (hc : CmdV (Kw W0) c) (hH : Hp W0 w (.row v 33 2 (l).length ((l).flatMap fltL) :: .blk b (.cells (judL s c v).toArray 66 (0, 0)) :: L)) (hlen : l.length ≤ 1000) : Calls Tryd.prog 29 #[.pointer (some ⟨b, 0, none⟩)] w (Ret fun u w' => u = .tuple #[] ∧ ∃ v' l', l' = l ++ headF s c ∧ l'.length ≤ l.length + 2 ∧ Hp W0 w' (.row v' 33 2 (l').length ((l').flatMap fltL) :: .blk b (.cells (judL s c v').toArray 66 (0, 0)) :: L)) := by
 refine enter Tryd.func29 rfl Tryd.ntmps29 rfl ?_
 refine SR ?_
 refine V (mV (Pn _ _) rfl) ?_
 refine V (mV (Pn _ _) rfl) ?_
 refine V (run_nilCheck rfl) ?_
 refine V (fA underlying66 2 rfl sizeOf45 rfl) ?_
 refine V (fA underlying45 2 rfl sizeOf38 rfl) ?_
 refine V (fA underlying38 0 rfl sizeOf9 rfl) ?_
 refine V (run_ld underlying9 rfl rfl (hH.cell (i := 1) rfl (v := .string _) rfl)) ?_
 refine RL.callP rfl hH (c_scope_judge_live _ s c _ _ _ (hH.blk (i := 1) rfl) (hs.mono hH.kw)) (run_call2 call55 rfl rfl) ?_
 intro w1 hH2
 refine V (run_move (by conv => lhs; whnf)) ?_
 refine V (run_extract rfl (v := B _) rfl) ?_
 refine V (run_extract rfl (v := B _) rfl) ?_
 refine V (aV (B _) rfl) ?_
 refine V (aV (B _) rfl) ?_
 refine RL.nil ?_
 refine SR ?_
 refine V (mV (Pn _ _) rfl) ?_
 refine V (run_nilCheck rfl) ?_
 refine V (fA underlying66 2 rfl sizeOf45 rfl) ?_
 refine V (fA underlying45 2 rfl sizeOf38 rfl) ?_
 refine V (fA underlying38 1 rfl sizeOf3 rfl) ?_
 refine V (run_ld underlying3 rfl rfl (hH2.cell (i := 1) rfl (v := I _) rfl)) ?_
 refine V (aV (I _) rfl) ?_
 refine RL.nil ?_
 refine CW.seq ?_
 refine SR ?_
 refine V (mV (Pn _ _) rfl) ?_
 refine V (run_nilCheck rfl) ?_
 refine V (fA underlying66 2 rfl sizeOf45 rfl) ?_
 refine V (fA underlying45 0 rfl sizeOf3 rfl) ?_
 refine V (run_ld underlying3 rfl rfl (hH2.cell (i := 1) rfl (v := I _) rfl)) ?_
 refine RL.callP rfl hH2 (c_scope_lattice _  _) (run_call1 call27 rfl) ?_
 intro w5 hH6
 refine RL.nil ?_
 refine CW.condP rfl (fun h9 => ?_) (fun h9 => ?_)
 ·refine SR ?_
  refine V (mV (Pn _ _) rfl) ?_
  refine V (mV (B _) rfl) ?_
  refine V (mV (I _) rfl) ?_
  refine RL.callT rfl (c_scope_judge_tell _ _ _ _ _ _ _ _ _ _ _ hs hc hH6 (by first | omega | (simp only [List.length_nil] at *; omega))) (run_call4 call56 rfl rfl (show _ = I 3 from rfl) rfl) ?_
  rintro _ w13 ⟨rfl, v12, l16, e17, hn18, h14⟩
  have hH15 := h14
  refine RL.nil ?_
  refine CW.ret ?_
  exact out0 Tryd.results29 ⟨rfl, v12, l16, by rw [e17]; simp [headF, *], by omega, Hp.conv (hH15.sub sR) (by first | rfl | simp)⟩
 ·refine CW.skip ?_
  refine SR ?_
  refine V (mV (Pn _ _) rfl) ?_
  refine V (mV (B _) rfl) ?_
  refine V (run_not rfl) ?_
  refine V (mV (I _) rfl) ?_
  refine RL.callT rfl (c_scope_judge_tell _ _ _ _ _ _ _ _ _ _ _ hs hc hH6 (by first | omega | (simp only [List.length_nil] at *; omega))) (run_call4 call56 rfl rfl (show _ = I 3 from rfl) rfl) ?_
  rintro _ w22 ⟨rfl, v21, l25, e26, hn27, h23⟩
  have hH24 := h23
  refine RL.nil ?_
  refine CW.region ?_
  refine V (mV (Pn _ _) rfl) ?_
  refine V (mV (B _) rfl) ?_
  refine V (mV (B _) rfl) ?_
  refine RL.split (dj := 39) rfl (fun h28 => ?_) (fun h28 => ?_)
  ·refine RL.gT rfl (bR (c := true) h28) ?_
   refine V (mV (B _) rfl) ?_
   refine RL.gT rfl (bR (c := true) h28) ?_
   refine V (run_not rfl) ?_
   refine V (run_pickT (bR (c := true) h28) (v := B _) rfl) ?_
   refine V (mV (I _) rfl) ?_
   refine RL.callT rfl (c_scope_judge_tell _ _ _ _ _ _ _ _ _ _ _ hs hc hH24 (by first | omega | (simp only [List.length_nil] at *; omega))) (run_call4 call56 rfl rfl (show _ = I 4 from rfl) rfl) ?_
   rintro _ w32 ⟨rfl, v31, l35, e36, hn37, h33⟩
   have hH34 := h33
   refine RL.nil ?_
   exact out0 Tryd.results29 ⟨rfl, v31, l35, by rw [e36, e26]; simp [headF, *], by omega, Hp.conv (hH34.sub sR) (by first | rfl | simp)⟩
  ·refine RL.gF rfl rfl (bR (c := false) h28) rfl ?_
   refine RL.gF rfl rfl (bR (c := false) h28) rfl ?_
   refine V (run_pickF (bR (c := false) h28) (v := B false) rfl) ?_
   refine V (mV (I _) rfl) ?_
   refine RL.callT rfl (c_scope_judge_tell _ _ _ _ _ _ _ _ _ _ _ hs hc hH24 (by first | omega | (simp only [List.length_nil] at *; omega))) (run_call4 call56 rfl rfl (show _ = I 4 from rfl) rfl) ?_
   rintro _ w41 ⟨rfl, v40, l44, e45, hn46, h42⟩
   have hH43 := h42
   refine RL.nil ?_
   exact out0 Tryd.results29 ⟨rfl, v40, l44, by rw [e45, e26]; simp [headF, *], by omega, Hp.conv (hH43.sub sR) (by first | rfl | simp)⟩

theorem c_scope_judge_names (W0 : World) (b : Nat) (s : Scp) (c : CmdR) (v : Value) (l : List Flt) (L : List Ent) (hnl : c.names.length ≤ 1000) (w : World) (hs : ScpV (Kw W0) s) (hc : CmdV (Kw W0) c) (hH : Hp W0 w (.row v 33 2 (l).length ((l).flatMap fltL) :: .blk b (.cells (judL s c v).toArray 66 (0, 0)) :: L)) (hlen : l.length ≤ 1000) : Calls Tryd.prog 30 #[.pointer (some ⟨b, 0, none⟩)] w (Ret fun u w' => u = .tuple #[] ∧ ∃ v' l', l' = l ++ namesTo s c c.names.length ∧ l'.length ≤ l.length + 2 * c.names.length ∧ Hp W0 w' (.row v' 33 2 (l').length ((l').flatMap fltL) :: .blk b (.cells (judL s c v').toArray 66 (0, 0)) :: L)) := by
 have hm1 := hc.names.sl.small
 have hm2 := hc.pairs.sl.small
 unfold maxLen at hm1 hm2
 refine enter Tryd.func30 rfl Tryd.ntmps30 rfl ?_
 refine SR ?_
 refine V (mV (Pn _ _) rfl) ?_
 refine V (run_nilCheck rfl) ?_
 refine V (fA underlying66 2 rfl sizeOf45 rfl) ?_
 refine V (fA underlying45 4 rfl sizeOf39 rfl) ?_
 refine V (run_ldV (hc.names.sl.hp hH) underlying39 rfl rfl (hH.cell (i := 1) rfl rfl)) ?_
 refine RL.callR rfl hH (c_scope_texts _ c.names (by omega) _ (hc.names.sl.hp hH)) (run_call1 call50 rfl) ?_
 intro v3 w1 hH2
 refine V (run_assign (by conv => lhs; whnf)) ?_
 refine RL.nil ?_
 refine SR ?_
 refine V (mV (Pn _ _) rfl) ?_
 refine V (run_nilCheck rfl) ?_
 refine V (fA underlying66 2 rfl sizeOf45 rfl) ?_
 refine V (fA underlying45 4 rfl sizeOf39 rfl) ?_
 refine V (run_ldV (hc.names.sl.hp hH2) underlying39 rfl rfl (hH2.cell (i := 2) rfl rfl)) ?_
 refine V (run_lenSl (hc.names.sl.hp hH2) rfl underlying39 rfl) ?_
 refine V (mV (I 0) rfl) ?_
 refine RL.nil ?_
 refine CW.block ?_
 refine CW.loop (G := (Int) × (Value) × (List Flt)) (fun (⟨k, v1, l1⟩ : (Int) × (Value) × (List Flt)) s' w' => (Fr [3, 4, 5, 6, 7, 20, 21, 22, 23, 24, 25, 26, 27, 28, 29, 30, 31, 32, 33, 34, 35, 36, 37, 38, 39, 40, 41, 42, 43, 44, 45, 46, 47, 48, 49, 50, 51, 52, 53, 54, 55, 56, 57, 58, 59, 60, 61, 62, 63, 64, 65, 66, 67, 68, 69, 70, 71, 72, 73, 74, 75, 76] _ s') ∧ (Hp W0 w' (_ :: .row v1 33 2 (l1.length) (l1.flatMap fltL) :: .blk b (.cells ((judL s c v1).toArray) 66 (0, 0)) :: _)) ∧ (s' 20 = I k) ∧ (0 ≤ k) ∧ (k ≤ c.names.length) ∧ (l1 = l ++ namesTo s c k) ∧ (l1.length ≤ l.length + 2 * k.toNat)) (fun (⟨k, v1, l1⟩ : (Int) × (Value) × (List Flt)) => (c.names.length - k).toNat) ((0, (v : Value), l)) ⟨Fr.refl _ _, hH2, rfl, (by omega), (by omega), (List.append_nil l).symm, (by omega)⟩ ?_
 rintro ⟨k, v1, l1⟩ sg4 w4 ⟨fr4, hH4, e20_4, h0, hk, hm, hl⟩
 have e0_4 : sg4 0 = Pn _ _ := (fr4 0 rfl).trans rfl
 have e2_4 := (fr4 2 rfl).trans (by conv => lhs; whnf)
 have e18_4 := (fr4 18 rfl).trans (by conv => lhs; whnf)
 have e19_4 : sg4 19 = I _ := (fr4 19 rfl).trans rfl
 refine SR ?_
 refine V (run_lss e20_4 e19_4) ?_
 refine RL.nil ?_
 refine CW.seq ?_
 refine CW.condP rfl (fun h6 => ?_) (fun h6 => ?_)
 ·refine CW.skip ?_
  refine CW.seq ?_
  refine CW.block ?_
  refine SR ?_
  refine V (run_move e20_4) ?_
  refine V (run_indexAddrS (hc.names.sl.hp hH4) underlying39 sizeOf38 e18_4 e20_4 (by first | omega | (simp only [texts_len]; omega))) ?_
  refine V (run_ldE (dv := wd0) wdL_len (hc.names.sl.hp hH4) underlying38 rfl rfl rfl (by first | omega | (simp only [texts_len]; omega))) ?_
  refine RL.new rfl hH4 (f := fun b => (.pointer (some ⟨b, 0, none⟩))) (run_alloc Tryd.zeroValue38) ?_
  intro b9 w7 hH8
  refine V (aV (I _) rfl) ?_
  refine RL.set hH8 (i := 0) rfl (run_stW (c' := (wdL _).toArray) rfl rfl rfl (by simp [wdL, Value.oneCell']) (hH8.blk (i := 0) rfl) rfl) ?_
  intro w10 hH11
  simp only [z0, z1] at hH11
  refine RL.nil ?_
  refine SR ?_
  refine V (run_move e0_4) ?_
  refine V (fA underlying38 0 rfl sizeOf9 rfl) ?_
  refine V (run_ld underlying9 rfl rfl (hH11.cell (i := 0) rfl (v := .string _) rfl)) ?_
  refine RL.callP rfl hH11 (c_scope_judge_live _ s c _ _ _ (hH11.blk (i := 3) rfl) (hs.mono hH11.kw)) (run_call2 call55 rfl rfl) ?_
  intro w12 hH13
  refine V (run_move (by conv => lhs; whnf)) ?_
  refine V (run_extract rfl (v := B _) rfl) ?_
  refine V (run_extract rfl (v := B _) rfl) ?_
  refine V (aV (B _) rfl) ?_
  refine V (aV (B _) rfl) ?_
  refine RL.nil ?_
  refine CW.seq ?_
  refine SR ?_
  refine V (run_move e0_4) ?_
  refine V (run_nilCheck rfl) ?_
  refine V (fA underlying66 2 rfl sizeOf45 rfl) ?_
  refine V (fA underlying45 0 rfl sizeOf3 rfl) ?_
  refine V (run_ld underlying3 rfl rfl (hH13.cell (i := 3) rfl (v := I _) rfl)) ?_
  refine V (run_eql rfl rfl) ?_
  refine RL.nil ?_
  refine CW.condP rfl (fun h17 => ?_) (fun h17 => ?_)
  ·refine SR ?_
   refine V (run_move e0_4) ?_
   refine V (mV (B _) rfl) ?_
   refine V (run_not rfl) ?_
   refine V (fA underlying38 1 rfl sizeOf3 rfl) ?_
   refine V (run_ld underlying3 rfl rfl (hH13.cell (i := 0) rfl (v := I _) rfl)) ?_
   refine RL.callT rfl (c_scope_judge_tell _ _ _ _ _ _ _ _ _ _ _ hs hc (hH13.perm (((pC ((pC pR).trans pS)).trans pS).trans (pC (((pC ((pC pR).trans pS)).trans pS).trans (pC pR))))) (by first | omega | (simp only [List.length_nil] at *; omega))) (run_call4 call56 rfl rfl (show _ = I 3 from rfl) rfl) ?_
   rintro _ w21 ⟨rfl, v20, l24, e25, hn26, h22⟩
   have hH23 := h22.perm (((pC ((pC pR).trans pS)).trans pS).trans (pC (((pC ((pC pR).trans pS)).trans pS).trans (pC pR))))
   refine RL.nil ?_
   refine SR ?_
   refine V (run_move e0_4) ?_
   refine V (mV (B _) rfl) ?_
   refine V (mV (B _) rfl) ?_
   refine RL.split (dj := 46) rfl (fun h27 => ?_) (fun h27 => ?_)
   ·refine RL.gT rfl (bR (c := true) h27) ?_
    refine V (mV (B _) rfl) ?_
    refine RL.gT rfl (bR (c := true) h27) ?_
    refine V (run_not rfl) ?_
    refine V (run_pickT (bR (c := true) h27) (v := B _) rfl) ?_
    refine V (fA underlying38 1 rfl sizeOf3 rfl) ?_
    refine V (run_ld underlying3 rfl rfl (hH23.cell (i := 0) rfl (v := I _) rfl)) ?_
    refine RL.callT rfl (c_scope_judge_tell _ _ _ _ _ _ _ _ _ _ _ hs hc (hH23.perm (((pC ((pC pR).trans pS)).trans pS).trans (pC (((pC ((pC pR).trans pS)).trans pS).trans (pC pR))))) (by first | omega | (simp only [List.length_nil] at *; omega))) (run_call4 call56 rfl rfl (show _ = I 4 from rfl) rfl) ?_
    rintro _ w31 ⟨rfl, v30, l34, e35, hn36, h32⟩
    have hH33 := h32.perm (((pC ((pC pR).trans pS)).trans pS).trans (pC (((pC ((pC pR).trans pS)).trans pS).trans (pC pR))))
    refine RL.nil ?_
    refine CW.exit (id := 1) rfl ?_
    refine CW.region ?_
    refine V (run_add e20_4 rfl (by omega)) ?_
    refine V (mV (I _) rfl) ?_
    refine RL.nil ?_
    refine ⟨(k + 1, v30, l34), ?_, fr4.u4.u4.u4.u4.u4.u4.u4.u4.u4.u1.u1, (Hp.conv (hH33.sub (sQ sR)) (by first | rfl | simp)), (congrArg I (by first | rfl | omega)), ?_, ?_, ?_, ?_⟩
    ·((try dsimp only); omega)
    ·omega
    ·omega
    ·have e := ahead_is h0 ‹k < _›; (rw [names_next h0, nameAt]; generalize c.names.getD k.toNat wd0 = x at *; simp [*])
    ·omega
   ·refine RL.gF rfl rfl (bR (c := false) h27) rfl ?_
    refine RL.gF rfl rfl (bR (c := false) h27) rfl ?_
    refine V (run_pickF (bR (c := false) h27) (v := B false) rfl) ?_
    refine V (fA underlying38 1 rfl sizeOf3 rfl) ?_
    refine V (run_ld underlying3 rfl rfl (hH23.cell (i := 0) rfl (v := I _) rfl)) ?_
    refine RL.callT rfl (c_scope_judge_tell _ _ _ _ _ _ _ _ _ _ _ hs hc (hH23.perm (((pC ((pC pR).trans pS)).trans pS).trans (pC (((pC ((pC pR).trans pS)).trans pS).trans (pC pR))))) (by first | omega | (simp only [List.length_nil] at *; omega))) (run_call4 call56 rfl rfl (show _ = I 4 from rfl) rfl) ?_
    rintro _ w40 ⟨rfl, v39, l43, e44, hn45, h41⟩
    have hH42 := h41.perm (((pC ((pC pR).trans pS)).trans pS).trans (pC (((pC ((pC pR).trans pS)).trans pS).trans (pC pR))))
    refine RL.nil ?_
    refine CW.exit (id := 1) rfl ?_
    refine CW.region ?_
    refine V (run_add e20_4 rfl (by omega)) ?_
    refine V (mV (I _) rfl) ?_
    refine RL.nil ?_
    refine ⟨(k + 1, v39, l43), ?_, fr4.u4.u4.u4.u4.u4.u4.u4.u4.u4.u1.u1, (Hp.conv (hH42.sub (sQ sR)) (by first | rfl | simp)), (congrArg I (by first | rfl | omega)), ?_, ?_, ?_, ?_⟩
    ·((try dsimp only); omega)
    ·omega
    ·omega
    ·have e := ahead_is h0 ‹k < _›; (rw [names_next h0, nameAt]; generalize c.names.getD k.toNat wd0 = x at *; simp [*])
    ·omega
  ·refine CW.skip ?_
   refine CW.seq ?_
   refine CW.regionD (by kernel_rfl) hH13 ?_
   intro w46 hH47
   refine AT 0 rfl (hH47.sub sR) (fun w hS => run_move e2_4) ?_
   refine AT 1 rfl (hH47.sub sR) (fun w hS => mV (I _) rfl) ?_
   refine AT 3 rfl (hH47.sub sR) (fun w hS => fA underlying38 0 rfl sizeOf9 rfl) ?_
   refine AT 4 rfl (hH47.sub sR) (fun w hS => run_ld underlying9 rfl rfl (hS.cell (i := 0) rfl (v := .string _) rfl)) ?_
   refine A1 2 ?_
   refine AO.read rfl gnone rfl hH47 sR (run_cut (hH47.sl (i := 1) rfl) underlying75 sizeOf9 rfl rfl (by first | omega | (simp only [texts_len]; omega))) ?_
   refine A1 5 ?_
   refine AO.callP rfl gnone rfl hH47 sR (c_name_Find _ _ _  _ ((hH47.sl (i := 1) rfl).cutT (by first | omega | (simp only [texts_len]; omega)))) (run_call2 call57 rfl rfl) ?_
   intro w50 hH51
   refine AT 6 rfl (hH51.sub sR) (fun w hS => run_geq rfl rfl) ?_
   refine AT 7 rfl (hH51.sub sR) (fun w hS => aV (B _) rfl) ?_
   refine AD ?_
   refine CW.regionS (by kernel_rfl) hH51 (sP (sP (sQ (sQ sR)))) ?_
   intro w53 hH54
   refine AT 0 rfl (hH54.sub (sP (sP (sQ (sQ sR))))) (fun w hS => run_move e0_4) ?_
   refine AT 1 rfl (hH54.sub (sP (sP (sQ (sQ sR))))) (fun w hS => mV (B _) rfl) ?_
   refine AT 2 rfl (hH54.sub (sP (sP (sQ (sQ sR))))) (fun w hS => mV (B _) rfl) ?_
   refine AN.splitP (dj := 62) rfl (fun h55 => ?_) (fun h55 => ?_)
   ·refine AK 3 rfl rfl (bT h55) (hH54.sub (sP (sP (sQ (sQ sR))))) ?_
    refine AK 4 rfl rfl (bT h55) (hH54.sub (sP (sP (sQ (sQ sR))))) ?_
    refine AK 5 rfl rfl (bT h55) (hH54.sub (sP (sP (sQ (sQ sR))))) ?_
    refine AK 6 rfl rfl (bT h55) (hH54.sub (sP (sP (sQ (sQ sR))))) ?_
    refine AK 7 rfl rfl (bT h55) (hH54.sub (sP (sP (sQ (sQ sR))))) ?_
    refine AK 8 rfl rfl (bT h55) (hH54.sub (sP (sP (sQ (sQ sR))))) ?_
    refine AK 9 rfl rfl (bT h55) (hH54.sub (sP (sP (sQ (sQ sR))))) ?_
    refine AU 10 rfl rfl rfl (hH54.sub (sP (sP (sQ (sQ sR))))) ?_
    refine AK 11 rfl rfl (bT h55) (hH54.sub (sP (sP (sQ (sQ sR))))) ?_
    refine AT 12 rfl (hH54.sub (sP (sP (sQ (sQ sR))))) (fun w hS => run_pickT (bT h55) (v := B true) rfl) ?_
    refine AT 13 rfl (hH54.sub (sP (sP (sQ (sQ sR))))) (fun w hS => fA underlying38 1 rfl sizeOf3 rfl) ?_
    refine AT 14 rfl (hH54.sub (sP (sP (sQ (sQ sR))))) (fun w hS => run_ld underlying3 rfl rfl (hS.cell (i := 0) rfl (v := I _) rfl)) ?_
    refine A1 15 ?_
    refine AO.callT rfl gnone rfl (c_scope_judge_tell _ _ _ _ _ _ _ _ _ _ _ hs hc (hH54.perm (((pC ((pC pR).trans pS)).trans pS).trans (pC (((pC ((pC pR).trans pS)).trans pS).trans (pC pR))))) (by first | omega | (simp only [List.length_nil] at *; omega))) (run_call4 call56 rfl rfl (show _ = I 3 from rfl) rfl) (fun u w' ⟨_, _, _, _, _, h⟩ => (h.sub (sQ (sQ sR)))) ?_
    rintro _ w59 ⟨rfl, v58, l62, e63, hn64, h60⟩
    have hH61 := h60.perm (((pC ((pC pR).trans pS)).trans pS).trans (pC (((pC ((pC pR).trans pS)).trans pS).trans (pC pR))))
    refine AD ?_
    refine CW.region ?_
    refine V (run_add e20_4 rfl (by omega)) ?_
    refine V (mV (I _) rfl) ?_
    refine RL.nil ?_
    refine ⟨(k + 1, v58, l62), ?_, fr4.u4.u4.u4.u4.u4.u4.u4.u4.u4.u4.u4.u1.u1.u1, (Hp.conv (hH61.sub (sQ sR)) (by first | rfl | simp)), (congrArg I (by first | rfl | omega)), ?_, ?_, ?_, ?_⟩
    ·((try dsimp only); omega)
    ·omega
    ·omega
    ·have e := ahead_is h0 ‹k < _›; (rw [names_next h0, nameAt]; generalize c.names.getD k.toNat wd0 = x at *; simp [*])
    ·omega
   ·refine AG 3 rfl rfl (bF h55) (hH54.sub (sP (sP (sQ (sQ sR))))) (fun w hS => run_move e0_4) ?_
    refine AG 4 rfl rfl (bF h55) (hH54.sub (sP (sP (sQ (sQ sR))))) (fun w hS => run_nilCheck rfl) ?_
    refine AG 5 rfl rfl (bF h55) (hH54.sub (sP (sP (sQ (sQ sR))))) (fun w hS => fA underlying66 2 rfl sizeOf45 rfl) ?_
    refine AG 6 rfl rfl (bF h55) (hH54.sub (sP (sP (sQ (sQ sR))))) (fun w hS => fA underlying45 0 rfl sizeOf3 rfl) ?_
    refine AT 13 rfl (hH54.sub (sP (sP (sQ (sQ sR))))) (fun w hS => fA underlying38 1 rfl sizeOf3 rfl) ?_
    refine AT 14 rfl (hH54.sub (sP (sP (sQ (sQ sR))))) (fun w hS => run_ld underlying3 rfl rfl (hS.cell (i := 0) rfl (v := I _) rfl)) ?_
    refine A1 7 ?_
    refine AO.read rfl (gsome rfl (bF h55)) rfl hH54 (sP (sP (sQ (sQ sR)))) (run_ld underlying3 rfl rfl (hH54.cell (i := 3) rfl (v := I _) rfl)) ?_
    refine A1 8 ?_
    refine AO.callP rfl (gsome rfl (bF h55)) rfl hH54 (sP (sP (sQ (sQ sR)))) (c_scope_variables _  _) (run_call1 call28 rfl) ?_
    intro w67 hH68
    refine AG 9 rfl rfl (bF h55) (hH68.sub (sP (sP (sQ (sQ sR))))) (fun w hS => mV (B _) rfl) ?_
    refine AN.splitP (dj := 69) rfl (fun h71 => ?_) (fun h71 => ?_)
    ·refine AG 10 rfl rfl (bT h71) (hH68.sub (sP (sP (sQ (sQ sR))))) (fun w hS => mV (B _) rfl) ?_
     refine AG 11 rfl rfl (bF h55) (hH68.sub (sP (sP (sQ (sQ sR))))) (fun w hS => run_pickT (bT h71) (v := B _) rfl) ?_
     refine AT 12 rfl (hH68.sub (sP (sP (sQ (sQ sR))))) (fun w hS => run_pickF (bF h55) (v := B _) rfl) ?_
     refine A1 15 ?_
     refine AO.callT rfl gnone rfl (c_scope_judge_tell _ _ _ _ _ _ _ _ _ _ _ hs hc (hH68.perm (((pC ((pC pR).trans pS)).trans pS).trans (pC (((pC ((pC pR).trans pS)).trans pS).trans (pC pR))))) (by first | omega | (simp only [List.length_nil] at *; omega))) (run_call4 call56 rfl rfl (show _ = I 3 from rfl) rfl) (fun u w' ⟨_, _, _, _, _, h⟩ => (h.sub (sQ (sQ sR)))) ?_
     rintro _ w75 ⟨rfl, v74, l78, e79, hn80, h76⟩
     have hH77 := h76.perm (((pC ((pC pR).trans pS)).trans pS).trans (pC (((pC ((pC pR).trans pS)).trans pS).trans (pC pR))))
     refine AD ?_
     refine CW.region ?_
     refine V (run_add e20_4 rfl (by omega)) ?_
     refine V (mV (I _) rfl) ?_
     refine RL.nil ?_
     refine ⟨(k + 1, v74, l78), ?_, fr4.u4.u4.u4.u4.u4.u4.u4.u4.u4.u4.u4.u1.u1.u1, (Hp.conv (hH77.sub (sQ sR)) (by first | rfl | simp)), (congrArg I (by first | rfl | omega)), ?_, ?_, ?_, ?_⟩
     ·((try dsimp only); omega)
     ·omega
     ·omega
     ·have e := ahead_is h0 ‹k < _›; (rw [names_next h0, nameAt]; generalize c.names.getD k.toNat wd0 = x at *; simp [*])
     ·omega
    ·refine AK 10 rfl rfl (bF h71) (hH68.sub (sP (sP (sQ (sQ sR))))) ?_
     refine AG 11 rfl rfl (bF h55) (hH68.sub (sP (sP (sQ (sQ sR))))) (fun w hS => run_pickF (bF h71) (v := B false) rfl) ?_
     refine AT 12 rfl (hH68.sub (sP (sP (sQ (sQ sR))))) (fun w hS => run_pickF (bF h55) (v := B _) rfl) ?_
     refine A1 15 ?_
     refine AO.callT rfl gnone rfl (c_scope_judge_tell _ _ _ _ _ _ _ _ _ _ _ hs hc (hH68.perm (((pC ((pC pR).trans pS)).trans pS).trans (pC (((pC ((pC pR).trans pS)).trans pS).trans (pC pR))))) (by first | omega | (simp only [List.length_nil] at *; omega))) (run_call4 call56 rfl rfl (show _ = I 3 from rfl) rfl) (fun u w' ⟨_, _, _, _, _, h⟩ => (h.sub (sQ (sQ sR)))) ?_
     rintro _ w84 ⟨rfl, v83, l87, e88, hn89, h85⟩
     have hH86 := h85.perm (((pC ((pC pR).trans pS)).trans pS).trans (pC (((pC ((pC pR).trans pS)).trans pS).trans (pC pR))))
     refine AD ?_
     refine CW.region ?_
     refine V (run_add e20_4 rfl (by omega)) ?_
     refine V (mV (I _) rfl) ?_
     refine RL.nil ?_
     refine ⟨(k + 1, v83, l87), ?_, fr4.u4.u4.u4.u4.u4.u4.u4.u4.u4.u4.u4.u1.u1.u1, (Hp.conv (hH86.sub (sQ sR)) (by first | rfl | simp)), (congrArg I (by first | rfl | omega)), ?_, ?_, ?_, ?_⟩
     ·((try dsimp only); omega)
     ·omega
     ·omega
     ·have e := ahead_is h0 ‹k < _›; (rw [names_next h0, nameAt]; generalize c.names.getD k.toNat wd0 = x at *; simp [*])
     ·omega
 ·refine CW.exit (id := 0) rfl ?_
  exact out0 Tryd.results30 ⟨rfl, v1, l1, by (rw [hm]; congr 2; omega), by omega, Hp.conv ((hH4.perm (((pC pR).trans pS).trans (pC (((pC pR).trans pS).trans (pC pR))))).sub (sP (sP (sQ sR)))) (by first | rfl | simp)⟩

theorem c_scope_judge_pairs_1 (W0 : World) (b : Nat) (s : Scp) (c : CmdR) (v : Value) (l : List Flt) (L : List Ent) (bj bn : Nat) (vn : Value) (x : Wd) (hnl : c.names.length ≤ 1000) (w : World) (hs : ScpV (Kw W0) s) (hc : CmdV (Kw W0) c) (hH : Hp W0 w (.row v 33 2 (l).length ((l).flatMap fltL) :: .blk b (.cells (judL s c v).toArray 66 (0, 0)) :: .row vn 9 1 (textsF c.names).length (txL (textsF c.names)) :: .blk bj (.cells #[.pointer (some ⟨b, 0, none⟩)] 64 (0, 0)) :: .blk bn (.cells #[vn] 75 (0, 0)) :: L)) (hlen : l.length ≤ 4000) : Calls Tryd.prog 58 #[.agg (wdL x).toArray, .pointer (some ⟨bj, 0, none⟩), .pointer (some ⟨bn, 0, none⟩)] w (Ret fun u w' => u = .tuple #[] ∧ ∃ v' l', l' = l ++ missF c x ∧ l'.length ≤ l.length + 1 ∧ Hp W0 w' (.row v' 33 2 (l').length ((l').flatMap fltL) :: .blk b (.cells (judL s c v').toArray 66 (0, 0)) :: .row vn 9 1 (textsF c.names).length (txL (textsF c.names)) :: .blk bj (.cells #[.pointer (some ⟨b, 0, none⟩)] 64 (0, 0)) :: .blk bn (.cells #[vn] 75 (0, 0)) :: L)) := by
 refine enter Tryd.func58 rfl Tryd.ntmps58 rfl ?_
 refine SR ?_
 refine RL.new rfl hH (f := fun b => (.pointer (some ⟨b, 0, none⟩))) (run_box (v := .agg _) rfl) ?_
 intro b3 w1 hH2
 refine RL.nil ?_
 refine CW.regionS (by kernel_rfl) hH2 (sP (sQ (sQ sR))) ?_
 intro w4 hH5
 refine AT 0 rfl (hH5.sub (sP (sQ (sQ sR)))) (fun w hS => run_ld underlying64 rfl rfl (hS.cell (i := 2) rfl (v := Pn _ _) rfl)) ?_
 refine AT 1 rfl (hH5.sub (sP (sQ (sQ sR)))) (fun w hS => run_ld underlying75 rfl rfl (hS.cell (i := 3) rfl rfl)) ?_
 refine AT 2 rfl (hH5.sub (sP (sQ (sQ sR)))) (fun w hS => fA underlying38 0 rfl sizeOf9 rfl) ?_
 refine AT 3 rfl (hH5.sub (sP (sQ (sQ sR)))) (fun w hS => run_ld underlying9 rfl rfl (hS.cell (i := 0) rfl (v := .string _) rfl)) ?_
 refine AT 6 rfl (hH5.sub (sP (sQ (sQ sR)))) (fun w hS => fA underlying38 1 rfl sizeOf3 rfl) ?_
 refine AT 7 rfl (hH5.sub (sP (sQ (sQ sR)))) (fun w hS => run_ld underlying3 rfl rfl (hS.cell (i := 0) rfl (v := I _) rfl)) ?_
 refine A1 4 ?_
 refine AO.callP rfl gnone rfl hH5 (sP (sQ (sQ sR))) (c_name_Find _ _ _  _ (hH5.sl (i := 3) rfl)) (run_call2 call57 rfl rfl) ?_
 intro w6 hH7
 refine AT 5 rfl (hH7.sub (sP (sQ (sQ sR)))) (fun w hS => run_lss rfl rfl) ?_
 refine A1 8 ?_
 refine AO.callT rfl gnone rfl (c_scope_judge_tell _ _ _ _ _ _ _ _ _ _ _ hs hc (hH7.perm (((pC pR).trans pS).trans (pC (((pC pR).trans pS).trans (pC pR))))) (by first | omega | (simp only [List.length_nil] at *; omega))) (run_call4 call56 rfl rfl (show _ = I 3 from rfl) rfl) (fun u w' ⟨_, _, _, _, _, h⟩ => (h.sub (sQ (sQ sR)))) ?_
 rintro _ w12 ⟨rfl, v11, l15, e16, hn17, h13⟩
 have hH14 := h13.perm (((pC ((pC pR).trans pS)).trans pS).trans (pC pR))
 refine AD ?_
 exact out0 Tryd.results58 ⟨rfl, v11, l15, by rw [e16]; rfl, by omega, Hp.conv ((hH14.perm (((pC pR).trans pS).trans (pC (((pC pR).trans pS).trans (pC (((pC pR).trans pS).trans (pC (((pC pR).trans pS).trans (pC (((pC pR).trans pS).trans (pC pR))))))))))).sub (sP (sP (sP (sP (sP (sQ sR))))))) (by first | rfl | simp)⟩

theorem c_scope_judge_pairs (W0 : World) (b : Nat) (s : Scp) (c : CmdR) (v : Value) (l : List Flt) (L : List Ent) (hnl : c.names.length ≤ 1000) (hpl : c.pairs.length ≤ 1000) (w : World) (hs : ScpV (Kw W0) s) (hc : CmdV (Kw W0) c) (hH : Hp W0 w (.row v 33 2 (l).length ((l).flatMap fltL) :: .blk b (.cells (judL s c v).toArray 66 (0, 0)) :: L)) (hlen : l.length ≤ 1000) (hT : Tab W0) : Calls Tryd.prog 31 #[.pointer (some ⟨b, 0, none⟩)] w (Ret fun u w' => u = .tuple #[] ∧ ∃ v' l', l' = l ++ (pairsTo c c.pairs.length ++ orderF c) ∧ l'.length ≤ l.length + (2 * c.pairs.length + 1) ∧ Hp W0 w' (.row v' 33 2 (l').length ((l').flatMap fltL) :: .blk b (.cells (judL s c v').toArray 66 (0, 0)) :: L)) := by
 have hm1 := hc.names.sl.small
 have hm2 := hc.pairs.sl.small
 unfold maxLen at hm1 hm2
 refine enter Tryd.func31 rfl Tryd.ntmps31 rfl ?_
 refine SR ?_
 refine RL.new rfl hH (f := fun b => (.pointer (some ⟨b, 0, none⟩))) (run_box (v := Pn _ _) rfl) ?_
 intro b3 w1 hH2
 refine RL.nil ?_
 refine SR ?_
 refine V (run_ld underlying64 rfl rfl (hH2.cell (i := 0) rfl (v := Pn _ _) rfl)) ?_
 refine V (run_nilCheck rfl) ?_
 refine V (fA underlying66 2 rfl sizeOf45 rfl) ?_
 refine V (fA underlying45 4 rfl sizeOf39 rfl) ?_
 refine V (run_ldV (hc.names.sl.hp hH2) underlying39 rfl rfl (hH2.cell (i := 2) rfl rfl)) ?_
 refine RL.callR rfl hH2 (c_scope_texts _ c.names (by omega) _ (hc.names.sl.hp hH2)) (run_call1 call50 rfl) ?_
 intro v6 w4 hH5
 refine RL.new rfl hH5 (f := fun b => (.pointer (some ⟨b, 0, none⟩))) (run_alloc Tryd.zeroValue75) ?_
 intro b9 w7 hH8
 refine RL.set hH8 (i := 0) rfl (run_st rfl rfl (by conv => lhs; whnf) (row_cells (hH8.get (i := 1) rfl)).1 (row_cells (hH8.get (i := 1) rfl)).2 (hH8.blk (i := 0) rfl) (by first | decide | simp)) ?_
 intro w10 hH11
 simp only [z0, z1] at hH11
 refine RL.nil ?_
 refine SR ?_
 refine V (run_mkF2 (by conv => lhs; whnf) (by conv => lhs; whnf)) ?_
 refine V (aV (.func _ _ _) rfl) ?_
 refine RL.nil ?_
 refine CW.seq ?_
 refine SR ?_
 refine V (run_ld underlying64 rfl rfl (hH11.cell (i := 2) rfl (v := Pn _ _) rfl)) ?_
 refine V (run_nilCheck rfl) ?_
 refine V (fA underlying66 2 rfl sizeOf45 rfl) ?_
 refine V (fA underlying45 5 rfl sizeOf40 rfl) ?_
 refine V (run_ldV (hc.pairs.sl.hp hH11) underlying40 rfl rfl (hH11.cell (i := 4) rfl rfl)) ?_
 refine V (run_lenSl (hc.pairs.sl.hp hH11) rfl underlying40 rfl) ?_
 refine V (mV (I 0) rfl) ?_
 refine RL.nil ?_
 refine CW.block ?_
 refine CW.loop (G := (Int) × (Value) × (List Flt)) (fun (⟨k, v1, l1⟩ : (Int) × (Value) × (List Flt)) s' w' => (Fr [5, 19, 20, 21, 22, 23, 24, 25, 26, 27, 28, 29, 30, 31] _ s') ∧ (Hp W0 w' (_ :: _ :: _ :: .row v1 33 2 (l1.length) (l1.flatMap fltL) :: .blk b (.cells ((judL s c v1).toArray) 66 (0, 0)) :: _)) ∧ (s' 19 = I k) ∧ (0 ≤ k) ∧ (k ≤ c.pairs.length) ∧ (l1 = l ++ pairsTo c k) ∧ (l1.length ≤ l.length + 2 * k.toNat)) (fun (⟨k, v1, l1⟩ : (Int) × (Value) × (List Flt)) => (c.pairs.length - k).toNat) ((0, (v : Value), l)) ⟨Fr.refl _ _, hH11, rfl, (by omega), (by omega), (List.append_nil l).symm, (by omega)⟩ ?_
 rintro ⟨k, v1, l1⟩ sg12 w12 ⟨fr12, hH12, e19_12, h0, hk, hm, hl⟩
 have e1_12 : sg12 1 = Pn _ _ := (fr12 1 rfl).trans rfl
 have e2_12 : sg12 2 = Pn _ _ := (fr12 2 rfl).trans rfl
 have e3_12 : sg12 3 = .func _ _ _ := (fr12 3 rfl).trans rfl
 have e17_12 := (fr12 17 rfl).trans (by conv => lhs; whnf)
 have e18_12 : sg12 18 = I _ := (fr12 18 rfl).trans rfl
 refine SR ?_
 refine V (run_lss e19_12 e18_12) ?_
 refine RL.nil ?_
 refine CW.seq ?_
 refine CW.condP rfl (fun h14 => ?_) (fun h14 => ?_)
 ·refine CW.skip ?_
  refine CW.seq ?_
  refine CW.block ?_
  refine SR ?_
  refine V (run_indexAddrS (hc.pairs.sl.hp hH12) underlying40 sizeOf79 e17_12 e19_12 (by first | omega | (simp only [texts_len]; omega))) ?_
  refine V (run_ldE (dv := pw0) pwL_len (hc.pairs.sl.hp hH12) underlying79 rfl rfl rfl (by first | omega | (simp only [texts_len]; omega))) ?_
  refine RL.new rfl hH12 (f := fun b => (.pointer (some ⟨b, 0, none⟩))) (run_alloc Tryd.zeroValue79) ?_
  intro b17 w15 hH16
  refine RL.set hH16 (i := 0) rfl (run_stW (c' := (pwL _).toArray) rfl rfl rfl (by simp [pwL, Value.oneCell']) (hH16.blk (i := 0) rfl) rfl) ?_
  intro w18 hH19
  simp only [z0, z1] at hH19
  refine RL.nil ?_
  refine SR ?_
  refine V (run_move e3_12) ?_
  refine V (run_indexAddrA underlying79 sizeOf38 rfl rfl (by first | omega | (simp only [texts_len]; omega))) ?_
  refine V (run_ldSub (sub := wdL _) underlying38 rfl rfl rfl (hH19.blk (i := 0) rfl) rfl) ?_
  refine RL.callT rfl (c_scope_judge_pairs_1 _ _ _ _ _ _ _ _ _ _ _ (by omega) _ hs hc (hH19.perm (((pC ((pC ((pC ((pC pR).trans pS)).trans pS)).trans pS)).trans pS).trans (pC (((pC ((pC ((pC ((pC pR).trans pS)).trans pS)).trans pS)).trans pS).trans (pC (((pC ((pC pR).trans pS)).trans pS).trans (pC (((pC ((pC pR).trans pS)).trans pS).trans (pC (((pC pR).trans pS).trans (pC pR))))))))))) (by omega)) (run_callC1 call58 (cs := [.pointer (some ⟨b3, 0, none⟩), .pointer (some ⟨b9, 0, none⟩)]) rfl rfl) ?_
  rintro _ w23 ⟨rfl, v22, l26, e27, hn28, h24⟩
  have hH25 := h24.perm (((pC ((pC ((pC ((pC ((pC pR).trans pS)).trans pS)).trans pS)).trans pS)).trans pS).trans (pC (((pC ((pC ((pC ((pC pR).trans pS)).trans pS)).trans pS)).trans pS).trans (pC (((pC ((pC pR).trans pS)).trans pS).trans (pC (((pC ((pC pR).trans pS)).trans pS).trans (pC pR))))))))
  refine RL.nil ?_
  refine CW.region ?_
  refine V (run_move e3_12) ?_
  refine V (run_indexAddrA underlying79 sizeOf38 rfl rfl (by first | omega | (simp only [texts_len]; omega))) ?_
  refine V (run_ldSub (sub := wdL _) underlying38 rfl rfl rfl (hH25.blk (i := 0) rfl) rfl) ?_
  refine RL.callT rfl (c_scope_judge_pairs_1 _ _ _ _ _ _ _ _ _ _ _ (by omega) _ hs hc (hH25.perm (((pC ((pC ((pC ((pC pR).trans pS)).trans pS)).trans pS)).trans pS).trans (pC (((pC ((pC ((pC ((pC pR).trans pS)).trans pS)).trans pS)).trans pS).trans (pC (((pC ((pC pR).trans pS)).trans pS).trans (pC (((pC ((pC pR).trans pS)).trans pS).trans (pC (((pC pR).trans pS).trans (pC pR))))))))))) (by omega)) (run_callC1 call58 (cs := [.pointer (some ⟨b3, 0, none⟩), .pointer (some ⟨b9, 0, none⟩)]) rfl rfl) ?_
  rintro _ w32 ⟨rfl, v31, l35, e36, hn37, h33⟩
  have hH34 := h33.perm (((pC ((pC ((pC ((pC ((pC pR).trans pS)).trans pS)).trans pS)).trans pS)).trans pS).trans (pC (((pC ((pC ((pC ((pC pR).trans pS)).trans pS)).trans pS)).trans pS).trans (pC (((pC ((pC pR).trans pS)).trans pS).trans (pC (((pC ((pC pR).trans pS)).trans pS).trans (pC pR))))))))
  refine RL.nil ?_
  refine CW.region ?_
  refine V (run_add e19_12 rfl (by omega)) ?_
  refine V (mV (I _) rfl) ?_
  refine RL.nil ?_
  refine ⟨(k + 1, v31, l35), ?_, fr12.u4.u4.u4.u1.u1, (Hp.conv (hH34.sub (sQ sR)) (by first | rfl | simp)), (congrArg I (by first | rfl | omega)), ?_, ?_, ?_, ?_⟩
  ·((try dsimp only); omega)
  ·omega
  ·omega
  ·(rw [pairs_next h0, pairAt]; generalize c.pairs.getD k.toNat pw0 = x at *; simp [*])
  ·omega
 ·refine CW.exit (id := 0) rfl ?_
  refine SR ?_
  refine V (run_ld underlying64 rfl e1_12 (hH12.cell (i := 2) rfl (v := Pn _ _) rfl)) ?_
  refine V (run_nilCheck rfl) ?_
  refine V (fA underlying66 2 rfl sizeOf45 rfl) ?_
  refine V (fA underlying45 0 rfl sizeOf3 rfl) ?_
  refine V (run_ld underlying3 rfl rfl (hH12.cell (i := 4) rfl (v := I _) rfl)) ?_
  refine V (run_eql rfl rfl) ?_
  refine V (mV (B _) rfl) ?_
  refine RL.splitP (dj := 38) rfl (fun h39 => ?_) (fun h39 => ?_)
  ·refine RL.gT rfl (bT h39) ?_
   refine V (run_ld underlying75 rfl e2_12 (hH12.cell (i := 0) rfl rfl)) ?_
   refine RL.gT rfl (bT h39) ?_
   refine V (run_lenSl (hH12.sl (i := 1) rfl) rfl underlying75 rfl) ?_
   refine RL.gT rfl (bT h39) ?_
   refine V (run_leq rfl rfl) ?_
   refine V (run_pickT (bT h39) (v := B _) rfl) ?_
   refine RL.nil ?_
   refine CW.condP rfl (fun h41 => ?_) (fun h41 => ?_)
   ·refine CW.regionS (by kernel_rfl) hH12 (sP (sP (sP (sQ (sQ sR))))) ?_
    intro w42 hH43
    refine AT 0 rfl (hH43.sub (sP (sP (sP (sQ (sQ sR)))))) (fun w hS => run_ld underlying64 rfl e1_12 (hS.cell (i := 2) rfl (v := Pn _ _) rfl)) ?_
    refine AT 1 rfl (hH43.sub (sP (sP (sP (sQ (sQ sR)))))) (fun w hS => run_ld underlying64 rfl e1_12 (hS.cell (i := 2) rfl (v := Pn _ _) rfl)) ?_
    refine AT 2 rfl (hH43.sub (sP (sP (sP (sQ (sQ sR)))))) (fun w hS => run_nilCheck rfl) ?_
    refine AT 3 rfl (hH43.sub (sP (sP (sP (sQ (sQ sR)))))) (fun w hS => fA underlying66 2 rfl sizeOf45 rfl) ?_
    refine AT 8 rfl (hH43.sub (sP (sP (sP (sQ (sQ sR)))))) (fun w hS => run_ld underlying64 rfl e1_12 (hS.cell (i := 2) rfl (v := Pn _ _) rfl)) ?_
    refine AT 9 rfl (hH43.sub (sP (sP (sP (sQ (sQ sR)))))) (fun w hS => run_nilCheck rfl) ?_
    refine AT 10 rfl (hH43.sub (sP (sP (sP (sQ (sQ sR)))))) (fun w hS => fA underlying66 2 rfl sizeOf45 rfl) ?_
    refine AT 11 rfl (hH43.sub (sP (sP (sP (sQ (sQ sR)))))) (fun w hS => fA underlying45 6 rfl sizeOf3 rfl) ?_
    refine AN.two 4 12 (by kernel_rfl) ?_ ?_
    ·refine AO.read rfl gnone rfl hH43 (sP (sP (sP (sQ (sQ sR))))) (run_ldSub (sub := cmdL _) underlying45 rfl rfl rfl (hH43.blk (i := 4) rfl) rfl) ?_
     refine AN.two 5 12 (by kernel_rfl) ?_ ?_
     ·refine AO.callP rfl gnone rfl hH43 (sP (sP (sP (sQ (sQ sR))))) (c_scope_related c (by omega) (by omega) _ (hc.mono hH43.kw)) (run_call1 call51 rfl) ?_
      intro w46 hH47
      refine AN.two 6 12 (by kernel_rfl) ?_ ?_
      ·refine AO.callP rfl gnone rfl hH47 (sP (sP (sP (sQ (sQ sR))))) (c_hasse_Lattice _  _ (hT.hp hH47)) (run_call1 call59 rfl) ?_
       intro w48 hH49
       refine AT 7 rfl (hH49.sub (sP (sP (sP (sQ (sQ sR)))))) (fun w hS => run_not rfl) ?_
       refine A1 12 ?_
       refine AO.read rfl gnone rfl hH49 (sP (sP (sP (sQ (sQ sR))))) (run_ld underlying3 rfl rfl (hH49.cell (i := 4) rfl (v := I _) rfl)) ?_
       refine A1 13 ?_
       refine AO.callT rfl gnone rfl (c_scope_judge_tell _ _ _ _ _ _ _ _ _ _ _ hs hc (hH49.perm (((pC ((pC ((pC pR).trans pS)).trans pS)).trans pS).trans (pC (((pC ((pC ((pC pR).trans pS)).trans pS)).trans pS).trans (pC pR))))) (by first | omega | (simp only [List.length_nil] at *; omega))) (run_call4 call56 rfl rfl (show _ = I 5 from rfl) rfl) (fun u w' ⟨_, _, _, _, _, h⟩ => (h.sub (sQ (sQ sR)))) ?_
       rintro _ w56 ⟨rfl, v55, l59, e60, hn61, h57⟩
       have hH58 := h57.perm (((pC ((pC pR).trans pS)).trans pS).trans (pC (((pC ((pC pR).trans pS)).trans pS).trans (pC (((pC ((pC pR).trans pS)).trans pS).trans (pC pR))))))
       refine AD ?_
       exact out0 Tryd.results31 ⟨rfl, v55, l59, by first | (rw [order_y ‹c.op = 5› ‹_›, ← List.append_assoc]; have hk2 : k = c.pairs.length := (by omega); subst hk2; rw [e60, hm]; done) | (have hk2 : k = c.pairs.length := (by omega); subst hk2; first | rw [order_n1 ‹¬ c.op = 5›, List.append_nil, hm] | rw [order_n2 ‹_›, List.append_nil, hm]), by omega, Hp.conv ((hH58.perm (((pC ((pC ((pC pR).trans pS)).trans pS)).trans pS).trans (pC (((pC ((pC ((pC pR).trans pS)).trans pS)).trans pS).trans (pC pR))))).sub (sP (sP (sQ (sQ (sQ sR)))))) (by first | rfl | simp)⟩
      ·refine AO.read rfl gnone rfl hH47 (sP (sP (sP (sQ (sQ sR))))) (run_ld underlying3 rfl rfl (hH47.cell (i := 4) rfl (v := I _) rfl)) ?_
       refine A1 6 ?_
       refine AO.callP rfl gnone rfl hH47 (sP (sP (sP (sQ (sQ sR))))) (c_hasse_Lattice _  _ (hT.hp hH47)) (run_call1 call59 rfl) ?_
       intro w64 hH65
       refine AT 7 rfl (hH65.sub (sP (sP (sP (sQ (sQ sR)))))) (fun w hS => run_not rfl) ?_
       refine A1 13 ?_
       refine AO.callT rfl gnone rfl (c_scope_judge_tell _ _ _ _ _ _ _ _ _ _ _ hs hc (hH65.perm (((pC ((pC ((pC pR).trans pS)).trans pS)).trans pS).trans (pC (((pC ((pC ((pC pR).trans pS)).trans pS)).trans pS).trans (pC pR))))) (by first | omega | (simp only [List.length_nil] at *; omega))) (run_call4 call56 rfl rfl (show _ = I 5 from rfl) rfl) (fun u w' ⟨_, _, _, _, _, h⟩ => (h.sub (sQ (sQ sR)))) ?_
       rintro _ w70 ⟨rfl, v69, l73, e74, hn75, h71⟩
       have hH72 := h71.perm (((pC ((pC pR).trans pS)).trans pS).trans (pC (((pC ((pC pR).trans pS)).trans pS).trans (pC (((pC ((pC pR).trans pS)).trans pS).trans (pC pR))))))
       refine AD ?_
       exact out0 Tryd.results31 ⟨rfl, v69, l73, by first | (rw [order_y ‹c.op = 5› ‹_›, ← List.append_assoc]; have hk2 : k = c.pairs.length := (by omega); subst hk2; rw [e74, hm]; done) | (have hk2 : k = c.pairs.length := (by omega); subst hk2; first | rw [order_n1 ‹¬ c.op = 5›, List.append_nil, hm] | rw [order_n2 ‹_›, List.append_nil, hm]), by omega, Hp.conv ((hH72.perm (((pC ((pC ((pC pR).trans pS)).trans pS)).trans pS).trans (pC (((pC ((pC ((pC pR).trans pS)).trans pS)).trans pS).trans (pC pR))))).sub (sP (sP (sQ (sQ (sQ sR)))))) (by first | rfl | simp)⟩
     ·refine AO.read rfl gnone rfl hH43 (sP (sP (sP (sQ (sQ sR))))) (run_ld underlying3 rfl rfl (hH43.cell (i := 4) rfl (v := I _) rfl)) ?_
      refine A1 5 ?_
      refine AO.callP rfl gnone rfl hH43 (sP (sP (sP (sQ (sQ sR))))) (c_scope_related c (by omega) (by omega) _ (hc.mono hH43.kw)) (run_call1 call51 rfl) ?_
      intro w78 hH79
      refine A1 6 ?_
      refine AO.callP rfl gnone rfl hH79 (sP (sP (sP (sQ (sQ sR))))) (c_hasse_Lattice _  _ (hT.hp hH79)) (run_call1 call59 rfl) ?_
      intro w80 hH81
      refine AT 7 rfl (hH81.sub (sP (sP (sP (sQ (sQ sR)))))) (fun w hS => run_not rfl) ?_
      refine A1 13 ?_
      refine AO.callT rfl gnone rfl (c_scope_judge_tell _ _ _ _ _ _ _ _ _ _ _ hs hc (hH81.perm (((pC ((pC ((pC pR).trans pS)).trans pS)).trans pS).trans (pC (((pC ((pC ((pC pR).trans pS)).trans pS)).trans pS).trans (pC pR))))) (by first | omega | (simp only [List.length_nil] at *; omega))) (run_call4 call56 rfl rfl (show _ = I 5 from rfl) rfl) (fun u w' ⟨_, _, _, _, _, h⟩ => (h.sub (sQ (sQ sR)))) ?_
      rintro _ w86 ⟨rfl, v85, l89, e90, hn91, h87⟩
      have hH88 := h87.perm (((pC ((pC pR).trans pS)).trans pS).trans (pC (((pC ((pC pR).trans pS)).trans pS).trans (pC (((pC ((pC pR).trans pS)).trans pS).trans (pC pR))))))
      refine AD ?_
      exact out0 Tryd.results31 ⟨rfl, v85, l89, by first | (rw [order_y ‹c.op = 5› ‹_›, ← List.append_assoc]; have hk2 : k = c.pairs.length := (by omega); subst hk2; rw [e90, hm]; done) | (have hk2 : k = c.pairs.length := (by omega); subst hk2; first | rw [order_n1 ‹¬ c.op = 5›, List.append_nil, hm] | rw [order_n2 ‹_›, List.append_nil, hm]), by omega, Hp.conv ((hH88.perm (((pC ((pC ((pC pR).trans pS)).trans pS)).trans pS).trans (pC (((pC ((pC ((pC pR).trans pS)).trans pS)).trans pS).trans (pC pR))))).sub (sP (sP (sQ (sQ (sQ sR)))))) (by first | rfl | simp)⟩
    ·refine AO.read rfl gnone rfl hH43 (sP (sP (sP (sQ (sQ sR))))) (run_ld underlying3 rfl rfl (hH43.cell (i := 4) rfl (v := I _) rfl)) ?_
     refine A1 4 ?_
     refine AO.read rfl gnone rfl hH43 (sP (sP (sP (sQ (sQ sR))))) (run_ldSub (sub := cmdL _) underlying45 rfl rfl rfl (hH43.blk (i := 4) rfl) rfl) ?_
     refine A1 5 ?_
     refine AO.callP rfl gnone rfl hH43 (sP (sP (sP (sQ (sQ sR))))) (c_scope_related c (by omega) (by omega) _ (hc.mono hH43.kw)) (run_call1 call51 rfl) ?_
     intro w96 hH97
     refine A1 6 ?_
     refine AO.callP rfl gnone rfl hH97 (sP (sP (sP (sQ (sQ sR))))) (c_hasse_Lattice _  _ (hT.hp hH97)) (run_call1 call59 rfl) ?_
     intro w98 hH99
     refine AT 7 rfl (hH99.sub (sP (sP (sP (sQ (sQ sR)))))) (fun w hS => run_not rfl) ?_
     refine A1 13 ?_
     refine AO.callT rfl gnone rfl (c_scope_judge_tell _ _ _ _ _ _ _ _ _ _ _ hs hc (hH99.perm (((pC ((pC ((pC pR).trans pS)).trans pS)).trans pS).trans (pC (((pC ((pC ((pC pR).trans pS)).trans pS)).trans pS).trans (pC pR))))) (by first | omega | (simp only [List.length_nil] at *; omega))) (run_call4 call56 rfl rfl (show _ = I 5 from rfl) rfl) (fun u w' ⟨_, _, _, _, _, h⟩ => (h.sub (sQ (sQ sR)))) ?_
     rintro _ w104 ⟨rfl, v103, l107, e108, hn109, h105⟩
     have hH106 := h105.perm (((pC ((pC pR).trans pS)).trans pS).trans (pC (((pC ((pC pR).trans pS)).trans pS).trans (pC (((pC ((pC pR).trans pS)).trans pS).trans (pC pR))))))
     refine AD ?_
     exact out0 Tryd.results31 ⟨rfl, v103, l107, by first | (rw [order_y ‹c.op = 5› ‹_›, ← List.append_assoc]; have hk2 : k = c.pairs.length := (by omega); subst hk2; rw [e108, hm]; done) | (have hk2 : k = c.pairs.length := (by omega); subst hk2; first | rw [order_n1 ‹¬ c.op = 5›, List.append_nil, hm] | rw [order_n2 ‹_›, List.append_nil, hm]), by omega, Hp.conv ((hH106.perm (((pC ((pC ((pC pR).trans pS)).trans pS)).trans pS).trans (pC (((pC ((pC ((pC pR).trans pS)).trans pS)).trans pS).trans (pC pR))))).sub (sP (sP (sQ (sQ (sQ sR)))))) (by first | rfl | simp)⟩
   ·refine CW.skip ?_
    exact out0 Tryd.results31 ⟨rfl, v1, l1, by first | (rw [order_y ‹c.op = 5› ‹_›, ← List.append_assoc]; have hk2 : k = c.pairs.length := (by omega); subst hk2; rw [hm]; done) | (have hk2 : k = c.pairs.length := (by omega); subst hk2; first | rw [order_n1 ‹¬ c.op = 5›, List.append_nil, hm] | rw [order_n2 ‹_›, List.append_nil, hm]), by omega, Hp.conv ((hH12.perm (((pC ((pC ((pC pR).trans pS)).trans pS)).trans pS).trans (pC (((pC ((pC ((pC pR).trans pS)).trans pS)).trans pS).trans (pC pR))))).sub (sP (sP (sQ (sQ (sQ sR)))))) (by first | rfl | simp)⟩
  ·refine RL.gF rfl rfl (bF h39) rfl ?_
   refine RL.gF rfl rfl (bF h39) rfl ?_
   refine RL.gF rfl rfl (bF h39) rfl ?_
   refine V (run_pickF (bF h39) (v := B false) rfl) ?_
   refine RL.nil ?_
   refine CW.condF rfl ?_
   refine CW.skip ?_
   exact out0 Tryd.results31 ⟨rfl, v1, l1, by first | (rw [order_y ‹c.op = 5› ‹_›, ← List.append_assoc]; have hk2 : k = c.pairs.length := (by omega); subst hk2; rw [hm]; done) | (have hk2 : k = c.pairs.length := (by omega); subst hk2; first | rw [order_n1 ‹¬ c.op = 5›, List.append_nil, hm] | rw [order_n2 ‹_›, List.append_nil, hm]), by omega, Hp.conv ((hH12.perm (((pC ((pC ((pC pR).trans pS)).trans pS)).trans pS).trans (pC (((pC ((pC ((pC pR).trans pS)).trans pS)).trans pS).trans (pC pR))))).sub (sP (sP (sQ (sQ (sQ sR)))))) (by first | rfl | simp)⟩

theorem c_scope_judge_limits (W0 : World) (b : Nat) (s : Scp) (c : CmdR) (v : Value) (l : List Flt) (L : List Ent) (hsm : Sm s c) (w : World) (hs : ScpV (Kw W0) s) (hc : CmdV (Kw W0) c) (hH : Hp W0 w (.row v 33 2 (l).length ((l).flatMap fltL) :: .blk b (.cells (judL s c v).toArray 66 (0, 0)) :: L)) (hlen : l.length ≤ 3000) : Calls Tryd.prog 32 #[.pointer (some ⟨b, 0, none⟩)] w (Ret fun u w' => u = .tuple #[] ∧ ∃ v' l', l' = l ++ limitF s c ∧ l'.length ≤ l.length + 1 ∧ Hp W0 w' (.row v' 33 2 (l').length ((l').flatMap fltL) :: .blk b (.cells (judL s c v').toArray 66 (0, 0)) :: L)) := by
 have hm1 := hsm.nl
 have hm2 := hsm.vl
 have hm3 := hsm.ll
 refine enter Tryd.func32 rfl Tryd.ntmps32 rfl ?_
 refine SR ?_
 refine V (mV (Pn _ _) rfl) ?_
 refine V (run_nilCheck rfl) ?_
 refine V (fA underlying66 2 rfl sizeOf45 rfl) ?_
 refine V (fA underlying45 4 rfl sizeOf39 rfl) ?_
 refine V (run_ldV (hc.names.sl.hp hH) underlying39 rfl rfl (hH.cell (i := 1) rfl rfl)) ?_
 refine V (run_lenSl (hc.names.sl.hp hH) rfl underlying39 rfl) ?_
 refine V (aV (I _) rfl) ?_
 refine V (aV (I 64) rfl) ?_
 refine RL.nil ?_
 refine CW.seq ?_
 refine SR ?_
 refine V (mV (Pn _ _) rfl) ?_
 refine V (run_nilCheck rfl) ?_
 refine V (fA underlying66 2 rfl sizeOf45 rfl) ?_
 refine V (fA underlying45 0 rfl sizeOf3 rfl) ?_
 refine V (run_ld underlying3 rfl rfl (hH.cell (i := 1) rfl (v := I _) rfl)) ?_
 refine RL.nil ?_
 refine CW.block ?_
 refine CW.seq ?_
 refine SR ?_
 refine V (run_eql rfl rfl) ?_
 refine V (aV (B _) rfl) ?_
 refine RL.nil ?_
 refine CW.condP rfl (fun h2 => ?_) (fun h2 => ?_)
 ·refine CW.skip ?_
  refine CW.condT (bT h2) ?_
  refine CW.seq ?_
  refine CW.regionS (by kernel_rfl) hH (sQ (sQ sR)) ?_
  intro w3 hH4
  refine AT 0 rfl (hH4.sub (sQ (sQ sR))) (fun w hS => mV (Pn _ _) rfl) ?_
  refine AT 1 rfl (hH4.sub (sQ (sQ sR))) (fun w hS => mV (I _) rfl) ?_
  refine AT 2 rfl (hH4.sub (sQ (sQ sR))) (fun w hS => mV (Pn _ _) rfl) ?_
  refine AT 3 rfl (hH4.sub (sQ (sQ sR))) (fun w hS => run_nilCheck rfl) ?_
  refine AT 4 rfl (hH4.sub (sQ (sQ sR))) (fun w hS => fA underlying66 0 rfl sizeOf25 rfl) ?_
  refine AT 5 rfl (hH4.sub (sQ (sQ sR))) (fun w hS => fA underlying25 1 rfl sizeOf23 rfl) ?_
  refine AT 10 rfl (hH4.sub (sQ (sQ sR))) (fun w hS => mV (Pn _ _) rfl) ?_
  refine AT 11 rfl (hH4.sub (sQ (sQ sR))) (fun w hS => run_nilCheck rfl) ?_
  refine AT 12 rfl (hH4.sub (sQ (sQ sR))) (fun w hS => fA underlying66 2 rfl sizeOf45 rfl) ?_
  refine AT 13 rfl (hH4.sub (sQ (sQ sR))) (fun w hS => fA underlying45 1 rfl sizeOf3 rfl) ?_
  refine AN.two 6 14 (by kernel_rfl) ?_ ?_
  ·refine AO.read rfl gnone rfl hH4 (sQ (sQ sR)) (run_ldV (hs.vars.sl.hp hH4) underlying23 rfl rfl (hH4.cell (i := 1) rfl rfl)) ?_
   refine AT 7 rfl (hH4.sub (sQ (sQ sR))) (fun w hS => run_lenSl (hs.vars.sl.hp hS) rfl underlying23 rfl) ?_
   refine AT 8 rfl (hH4.sub (sQ (sQ sR))) (fun w hS => run_sub rfl rfl (by omega)) ?_
   refine AT 9 rfl (hH4.sub (sQ (sQ sR))) (fun w hS => run_gtr rfl rfl) ?_
   refine A1 14 ?_
   refine AO.read rfl gnone rfl hH4 (sQ (sQ sR)) (run_ld underlying3 rfl rfl (hH4.cell (i := 1) rfl (v := I _) rfl)) ?_
   refine A1 15 ?_
   refine AO.callT rfl gnone rfl (c_scope_judge_tell _ _ _ _ _ _ _ _ _ _ _ hs hc hH4 (by first | omega | (simp only [List.length_nil] at *; omega))) (run_call4 call56 rfl rfl (show _ = I 7 from rfl) rfl) (fun u w' ⟨_, _, _, _, _, h⟩ => (h.sub (sQ (sQ sR)))) ?_
   rintro _ w13 ⟨rfl, v12, l16, e17, hn18, h14⟩
   have hH15 := h14
   refine AD ?_
   refine CW.ret ?_
   exact out0 Tryd.results32 ⟨rfl, v12, l16, by first | (rw [e17]; simp [*, limitF]; done) | (rw [e17]; have hpl := sh_facs_len ‹Shp.sh _ = (⟨true, prodF (prodL s c.names)⟩ : Sh)›; first | rw [limit_p1 ‹c.op = 3› (by omega)] | (rw [limit_p2 ‹c.op = 3› (by omega)]; try simp [*])), by omega, Hp.conv (hH15.sub sR) (by first | rfl | simp)⟩
  ·refine AO.read rfl gnone rfl hH4 (sQ (sQ sR)) (run_ld underlying3 rfl rfl (hH4.cell (i := 1) rfl (v := I _) rfl)) ?_
   refine A1 6 ?_
   refine AO.read rfl gnone rfl hH4 (sQ (sQ sR)) (run_ldV (hs.vars.sl.hp hH4) underlying23 rfl rfl (hH4.cell (i := 1) rfl rfl)) ?_
   refine AT 7 rfl (hH4.sub (sQ (sQ sR))) (fun w hS => run_lenSl (hs.vars.sl.hp hS) rfl underlying23 rfl) ?_
   refine AT 8 rfl (hH4.sub (sQ (sQ sR))) (fun w hS => run_sub rfl rfl (by omega)) ?_
   refine AT 9 rfl (hH4.sub (sQ (sQ sR))) (fun w hS => run_gtr rfl rfl) ?_
   refine A1 15 ?_
   refine AO.callT rfl gnone rfl (c_scope_judge_tell _ _ _ _ _ _ _ _ _ _ _ hs hc hH4 (by first | omega | (simp only [List.length_nil] at *; omega))) (run_call4 call56 rfl rfl (show _ = I 7 from rfl) rfl) (fun u w' ⟨_, _, _, _, _, h⟩ => (h.sub (sQ (sQ sR)))) ?_
   rintro _ w27 ⟨rfl, v26, l30, e31, hn32, h28⟩
   have hH29 := h28
   refine AD ?_
   refine CW.ret ?_
   exact out0 Tryd.results32 ⟨rfl, v26, l30, by first | (rw [e31]; simp [*, limitF]; done) | (rw [e31]; have hpl := sh_facs_len ‹Shp.sh _ = (⟨true, prodF (prodL s c.names)⟩ : Sh)›; first | rw [limit_p1 ‹c.op = 3› (by omega)] | (rw [limit_p2 ‹c.op = 3› (by omega)]; try simp [*])), by omega, Hp.conv (hH29.sub sR) (by first | rfl | simp)⟩
 ·refine CW.region ?_
  refine V (run_eql rfl rfl) ?_
  refine V (aV (B _) rfl) ?_
  refine RL.nil ?_
  refine CW.condP rfl (fun h34 => ?_) (fun h34 => ?_)
  ·refine CW.seq ?_
   refine CW.regionS (by kernel_rfl) hH (sQ (sQ sR)) ?_
   intro w35 hH36
   refine AT 0 rfl (hH36.sub (sQ (sQ sR))) (fun w hS => mV (Pn _ _) rfl) ?_
   refine AT 1 rfl (hH36.sub (sQ (sQ sR))) (fun w hS => mV (I _) rfl) ?_
   refine AT 2 rfl (hH36.sub (sQ (sQ sR))) (fun w hS => mV (Pn _ _) rfl) ?_
   refine AT 3 rfl (hH36.sub (sQ (sQ sR))) (fun w hS => run_nilCheck rfl) ?_
   refine AT 4 rfl (hH36.sub (sQ (sQ sR))) (fun w hS => fA underlying66 0 rfl sizeOf25 rfl) ?_
   refine AT 5 rfl (hH36.sub (sQ (sQ sR))) (fun w hS => fA underlying25 1 rfl sizeOf23 rfl) ?_
   refine AT 10 rfl (hH36.sub (sQ (sQ sR))) (fun w hS => mV (Pn _ _) rfl) ?_
   refine AT 11 rfl (hH36.sub (sQ (sQ sR))) (fun w hS => run_nilCheck rfl) ?_
   refine AT 12 rfl (hH36.sub (sQ (sQ sR))) (fun w hS => fA underlying66 2 rfl sizeOf45 rfl) ?_
   refine AT 13 rfl (hH36.sub (sQ (sQ sR))) (fun w hS => fA underlying45 1 rfl sizeOf3 rfl) ?_
   refine AN.two 6 14 (by kernel_rfl) ?_ ?_
   ·refine AO.read rfl gnone rfl hH36 (sQ (sQ sR)) (run_ldV (hs.vars.sl.hp hH36) underlying23 rfl rfl (hH36.cell (i := 1) rfl rfl)) ?_
    refine AT 7 rfl (hH36.sub (sQ (sQ sR))) (fun w hS => run_lenSl (hs.vars.sl.hp hS) rfl underlying23 rfl) ?_
    refine AT 8 rfl (hH36.sub (sQ (sQ sR))) (fun w hS => run_sub rfl rfl (by omega)) ?_
    refine AT 9 rfl (hH36.sub (sQ (sQ sR))) (fun w hS => run_gtr rfl rfl) ?_
    refine A1 14 ?_
    refine AO.read rfl gnone rfl hH36 (sQ (sQ sR)) (run_ld underlying3 rfl rfl (hH36.cell (i := 1) rfl (v := I _) rfl)) ?_
    refine A1 15 ?_
    refine AO.callT rfl gnone rfl (c_scope_judge_tell _ _ _ _ _ _ _ _ _ _ _ hs hc hH36 (by first | omega | (simp only [List.length_nil] at *; omega))) (run_call4 call56 rfl rfl (show _ = I 7 from rfl) rfl) (fun u w' ⟨_, _, _, _, _, h⟩ => (h.sub (sQ (sQ sR)))) ?_
    rintro _ w45 ⟨rfl, v44, l48, e49, hn50, h46⟩
    have hH47 := h46
    refine AD ?_
    refine CW.ret ?_
    exact out0 Tryd.results32 ⟨rfl, v44, l48, by first | (rw [e49]; simp [*, limitF]; done) | (rw [e49]; have hpl := sh_facs_len ‹Shp.sh _ = (⟨true, prodF (prodL s c.names)⟩ : Sh)›; first | rw [limit_p1 ‹c.op = 3› (by omega)] | (rw [limit_p2 ‹c.op = 3› (by omega)]; try simp [*])), by omega, Hp.conv (hH47.sub sR) (by first | rfl | simp)⟩
   ·refine AO.read rfl gnone rfl hH36 (sQ (sQ sR)) (run_ld underlying3 rfl rfl (hH36.cell (i := 1) rfl (v := I _) rfl)) ?_
    refine A1 6 ?_
    refine AO.read rfl gnone rfl hH36 (sQ (sQ sR)) (run_ldV (hs.vars.sl.hp hH36) underlying23 rfl rfl (hH36.cell (i := 1) rfl rfl)) ?_
    refine AT 7 rfl (hH36.sub (sQ (sQ sR))) (fun w hS => run_lenSl (hs.vars.sl.hp hS) rfl underlying23 rfl) ?_
    refine AT 8 rfl (hH36.sub (sQ (sQ sR))) (fun w hS => run_sub rfl rfl (by omega)) ?_
    refine AT 9 rfl (hH36.sub (sQ (sQ sR))) (fun w hS => run_gtr rfl rfl) ?_
    refine A1 15 ?_
    refine AO.callT rfl gnone rfl (c_scope_judge_tell _ _ _ _ _ _ _ _ _ _ _ hs hc hH36 (by first | omega | (simp only [List.length_nil] at *; omega))) (run_call4 call56 rfl rfl (show _ = I 7 from rfl) rfl) (fun u w' ⟨_, _, _, _, _, h⟩ => (h.sub (sQ (sQ sR)))) ?_
    rintro _ w59 ⟨rfl, v58, l62, e63, hn64, h60⟩
    have hH61 := h60
    refine AD ?_
    refine CW.ret ?_
    exact out0 Tryd.results32 ⟨rfl, v58, l62, by first | (rw [e63]; simp [*, limitF]; done) | (rw [e63]; have hpl := sh_facs_len ‹Shp.sh _ = (⟨true, prodF (prodL s c.names)⟩ : Sh)›; first | rw [limit_p1 ‹c.op = 3› (by omega)] | (rw [limit_p2 ‹c.op = 3› (by omega)]; try simp [*])), by omega, Hp.conv (hH61.sub sR) (by first | rfl | simp)⟩
  ·refine SR ?_
   refine V (run_eql rfl rfl) ?_
   refine V (aV (B _) rfl) ?_
   refine RL.nil ?_
   refine CW.condP rfl (fun h66 => ?_) (fun h66 => ?_)
   ·refine CW.region ?_
    refine V (aV (I 8) rfl) ?_
    refine RL.nil ?_
    refine CW.regionS (by kernel_rfl) hH (sQ (sQ sR)) ?_
    intro w67 hH68
    refine AT 0 rfl (hH68.sub (sQ (sQ sR))) (fun w hS => mV (Pn _ _) rfl) ?_
    refine AT 1 rfl (hH68.sub (sQ (sQ sR))) (fun w hS => mV (I _) rfl) ?_
    refine AT 2 rfl (hH68.sub (sQ (sQ sR))) (fun w hS => mV (I _) rfl) ?_
    refine AT 3 rfl (hH68.sub (sQ (sQ sR))) (fun w hS => run_gtr rfl rfl) ?_
    refine AT 4 rfl (hH68.sub (sQ (sQ sR))) (fun w hS => mV (B _) rfl) ?_
    refine AN.splitP (dj := 53) rfl (fun h70 => ?_) (fun h70 => ?_)
    ·refine AK 5 rfl rfl (bT h70) (hH68.sub (sQ (sQ sR))) ?_
     refine AK 6 rfl rfl (bT h70) (hH68.sub (sQ (sQ sR))) ?_
     refine AK 7 rfl rfl (bT h70) (hH68.sub (sQ (sQ sR))) ?_
     refine AK 8 rfl rfl (bT h70) (hH68.sub (sQ (sQ sR))) ?_
     refine AK 9 rfl rfl (bT h70) (hH68.sub (sQ (sQ sR))) ?_
     refine AK 10 rfl rfl (bT h70) (hH68.sub (sQ (sQ sR))) ?_
     refine AK 11 rfl rfl (bT h70) (hH68.sub (sQ (sQ sR))) ?_
     refine AT 12 rfl (hH68.sub (sQ (sQ sR))) (fun w hS => run_pickT (bT h70) (v := B true) rfl) ?_
     refine AT 13 rfl (hH68.sub (sQ (sQ sR))) (fun w hS => mV (Pn _ _) rfl) ?_
     refine AT 14 rfl (hH68.sub (sQ (sQ sR))) (fun w hS => run_nilCheck rfl) ?_
     refine AT 15 rfl (hH68.sub (sQ (sQ sR))) (fun w hS => fA underlying66 2 rfl sizeOf45 rfl) ?_
     refine AT 16 rfl (hH68.sub (sQ (sQ sR))) (fun w hS => fA underlying45 1 rfl sizeOf3 rfl) ?_
     refine A1 17 ?_
     refine AO.read rfl gnone rfl hH68 (sQ (sQ sR)) (run_ld underlying3 rfl rfl (hH68.cell (i := 1) rfl (v := I _) rfl)) ?_
     refine A1 18 ?_
     refine AO.callT rfl gnone rfl (c_scope_judge_tell _ _ _ _ _ _ _ _ _ _ _ hs hc hH68 (by first | omega | (simp only [List.length_nil] at *; omega))) (run_call4 call56 rfl rfl (show _ = I 7 from rfl) rfl) (fun u w' ⟨_, _, _, _, _, h⟩ => (h.sub (sQ (sQ sR)))) ?_
     rintro _ w76 ⟨rfl, v75, l79, e80, hn81, h77⟩
     have hH78 := h77
     refine AD ?_
     exact out0 Tryd.results32 ⟨rfl, v75, l79, by first | (rw [e80]; simp [*, limitF]; done) | (rw [e80]; have hpl := sh_facs_len ‹Shp.sh _ = (⟨true, prodF (prodL s c.names)⟩ : Sh)›; first | rw [limit_p1 ‹c.op = 3› (by omega)] | (rw [limit_p2 ‹c.op = 3› (by omega)]; try simp [*])), by omega, Hp.conv (hH78.sub sR) (by first | rfl | simp)⟩
    ·refine AG 5 rfl rfl (bF h70) (hH68.sub (sQ (sQ sR))) (fun w hS => mV (Pn _ _) rfl) ?_
     refine AG 6 rfl rfl (bF h70) (hH68.sub (sQ (sQ sR))) (fun w hS => run_nilCheck rfl) ?_
     refine AG 7 rfl rfl (bF h70) (hH68.sub (sQ (sQ sR))) (fun w hS => fA underlying66 0 rfl sizeOf25 rfl) ?_
     refine AG 8 rfl rfl (bF h70) (hH68.sub (sQ (sQ sR))) (fun w hS => fA underlying25 0 rfl sizeOf22 rfl) ?_
     refine AT 13 rfl (hH68.sub (sQ (sQ sR))) (fun w hS => mV (Pn _ _) rfl) ?_
     refine AT 14 rfl (hH68.sub (sQ (sQ sR))) (fun w hS => run_nilCheck rfl) ?_
     refine AT 15 rfl (hH68.sub (sQ (sQ sR))) (fun w hS => fA underlying66 2 rfl sizeOf45 rfl) ?_
     refine AT 16 rfl (hH68.sub (sQ (sQ sR))) (fun w hS => fA underlying45 1 rfl sizeOf3 rfl) ?_
     refine AN.two 9 17 (by kernel_rfl) ?_ ?_
     ·refine AO.read rfl (gsome rfl (bF h70)) rfl hH68 (sQ (sQ sR)) (run_ldV (hs.lats.sl.hp hH68) underlying22 rfl rfl (hH68.cell (i := 1) rfl rfl)) ?_
      refine AG 10 rfl rfl (bF h70) (hH68.sub (sQ (sQ sR))) (fun w hS => run_lenSl (hs.lats.sl.hp hS) rfl underlying22 rfl) ?_
      refine AG 11 rfl rfl (bF h70) (hH68.sub (sQ (sQ sR))) (fun w hS => run_geq rfl rfl) ?_
      refine AT 12 rfl (hH68.sub (sQ (sQ sR))) (fun w hS => run_pickF (bF h70) (v := B _) rfl) ?_
      refine A1 17 ?_
      refine AO.read rfl gnone rfl hH68 (sQ (sQ sR)) (run_ld underlying3 rfl rfl (hH68.cell (i := 1) rfl (v := I _) rfl)) ?_
      refine A1 18 ?_
      refine AO.callT rfl gnone rfl (c_scope_judge_tell _ _ _ _ _ _ _ _ _ _ _ hs hc hH68 (by first | omega | (simp only [List.length_nil] at *; omega))) (run_call4 call56 rfl rfl (show _ = I 7 from rfl) rfl) (fun u w' ⟨_, _, _, _, _, h⟩ => (h.sub (sQ (sQ sR)))) ?_
      rintro _ w90 ⟨rfl, v89, l93, e94, hn95, h91⟩
      have hH92 := h91
      refine AD ?_
      exact out0 Tryd.results32 ⟨rfl, v89, l93, by first | (rw [e94]; simp [*, limitF]; done) | (rw [e94]; have hpl := sh_facs_len ‹Shp.sh _ = (⟨true, prodF (prodL s c.names)⟩ : Sh)›; first | rw [limit_p1 ‹c.op = 3› (by omega)] | (rw [limit_p2 ‹c.op = 3› (by omega)]; try simp [*])), by omega, Hp.conv (hH92.sub sR) (by first | rfl | simp)⟩
     ·refine AO.read rfl gnone rfl hH68 (sQ (sQ sR)) (run_ld underlying3 rfl rfl (hH68.cell (i := 1) rfl (v := I _) rfl)) ?_
      refine A1 9 ?_
      refine AO.read rfl (gsome rfl (bF h70)) rfl hH68 (sQ (sQ sR)) (run_ldV (hs.lats.sl.hp hH68) underlying22 rfl rfl (hH68.cell (i := 1) rfl rfl)) ?_
      refine AG 10 rfl rfl (bF h70) (hH68.sub (sQ (sQ sR))) (fun w hS => run_lenSl (hs.lats.sl.hp hS) rfl underlying22 rfl) ?_
      refine AG 11 rfl rfl (bF h70) (hH68.sub (sQ (sQ sR))) (fun w hS => run_geq rfl rfl) ?_
      refine AT 12 rfl (hH68.sub (sQ (sQ sR))) (fun w hS => run_pickF (bF h70) (v := B _) rfl) ?_
      refine A1 18 ?_
      refine AO.callT rfl gnone rfl (c_scope_judge_tell _ _ _ _ _ _ _ _ _ _ _ hs hc hH68 (by first | omega | (simp only [List.length_nil] at *; omega))) (run_call4 call56 rfl rfl (show _ = I 7 from rfl) rfl) (fun u w' ⟨_, _, _, _, _, h⟩ => (h.sub (sQ (sQ sR)))) ?_
      rintro _ w104 ⟨rfl, v103, l107, e108, hn109, h105⟩
      have hH106 := h105
      refine AD ?_
      exact out0 Tryd.results32 ⟨rfl, v103, l107, by first | (rw [e108]; simp [*, limitF]; done) | (rw [e108]; have hpl := sh_facs_len ‹Shp.sh _ = (⟨true, prodF (prodL s c.names)⟩ : Sh)›; first | rw [limit_p1 ‹c.op = 3› (by omega)] | (rw [limit_p2 ‹c.op = 3› (by omega)]; try simp [*])), by omega, Hp.conv (hH106.sub sR) (by first | rfl | simp)⟩
   ·refine SR ?_
    refine V (run_eql rfl rfl) ?_
    refine V (aV (B _) rfl) ?_
    refine RL.nil ?_
    refine CW.condP rfl (fun h111 => ?_) (fun h111 => ?_)
    ·refine CW.regionD (by kernel_rfl) hH ?_
     intro w112 hH113
     refine AT 0 rfl (hH113.sub sR) (fun w hS => mV (Pn _ _) rfl) ?_
     refine AT 1 rfl (hH113.sub sR) (fun w hS => run_nilCheck rfl) ?_
     refine AT 2 rfl (hH113.sub sR) (fun w hS => fA underlying66 0 rfl sizeOf25 rfl) ?_
     refine AT 3 rfl (hH113.sub sR) (fun w hS => run_ldSub (sub := scpL _) underlying25 rfl rfl rfl (hS.blk (i := 1) rfl) rfl) ?_
     refine AT 4 rfl (hH113.sub sR) (fun w hS => mV (Pn _ _) rfl) ?_
     refine AT 5 rfl (hH113.sub sR) (fun w hS => run_nilCheck rfl) ?_
     refine AT 6 rfl (hH113.sub sR) (fun w hS => fA underlying66 2 rfl sizeOf45 rfl) ?_
     refine AT 7 rfl (hH113.sub sR) (fun w hS => run_ldSub (sub := cmdL _) underlying45 rfl rfl rfl (hS.blk (i := 1) rfl) rfl) ?_
     refine A1 8 ?_
     refine AO.callF rfl gnone rfl hH113 sR (c_scope_product (Kw W0) s c (by omega) (fun a ha => by have := hsm.fn a ha; omega) (fun a ha f hf => by have := hsm.nn a ha f hf; omega) _ hH113.kw hs hc) (run_call2 call52 rfl rfl) ?_
     intro v116 w117 Z119 hH118 hp120
     have hH121 : Hp _ w117 (_ :: _ :: (Z119 ++ L)) := hH118.zin (L := [_, _]) (L' := L)
     obtain ⟨p122, rfl, psh123, pv124⟩ := hp120
     refine AT 9 rfl (hH121.sub (sP (sP (sA sR)))) (fun w hS => run_field underlying54 rfl isAgg52 rfl rfl) ?_
     refine A1 10 ?_
     refine AO.read rfl gnone rfl hH121 (sP (sP (sA sR))) (run_lenSl (pv124.facs.mono (hH121.kz (Le.refl _) (fun x hx => (mT (mT (List.mem_append_left _ hx)))))).sl rfl underlying52 rfl) ?_
     refine AT 11 rfl (hH121.sub (sP (sP (sA sR)))) (fun w hS => aV (I _) rfl) ?_
     refine AT 12 rfl (hH121.sub (sP (sP (sA sR)))) (fun w hS => aV (I 8) rfl) ?_
     refine AD ?_
     refine CW.regionS (by kernel_rfl) hH121 (sQ (sQ sR)) ?_
     intro w127 hH128
     refine AT 0 rfl (hH128.sub (sQ (sQ sR))) (fun w hS => mV (Pn _ _) rfl) ?_
     refine AT 1 rfl (hH128.sub (sQ (sQ sR))) (fun w hS => mV (I _) rfl) ?_
     refine AT 2 rfl (hH128.sub (sQ (sQ sR))) (fun w hS => mV (I _) rfl) ?_
     refine AT 3 rfl (hH128.sub (sQ (sQ sR))) (fun w hS => run_gtr rfl rfl) ?_
     refine AT 4 rfl (hH128.sub (sQ (sQ sR))) (fun w hS => mV (B _) rfl) ?_
     refine AN.splitP (dj := 53) rfl (fun h130 => ?_) (fun h130 => ?_)
     ·refine AK 5 rfl rfl (bT h130) (hH128.sub (sQ (sQ sR))) ?_
      refine AK 6 rfl rfl (bT h130) (hH128.sub (sQ (sQ sR))) ?_
      refine AK 7 rfl rfl (bT h130) (hH128.sub (sQ (sQ sR))) ?_
      refine AK 8 rfl rfl (bT h130) (hH128.sub (sQ (sQ sR))) ?_
      refine AK 9 rfl rfl (bT h130) (hH128.sub (sQ (sQ sR))) ?_
      refine AK 10 rfl rfl (bT h130) (hH128.sub (sQ (sQ sR))) ?_
      refine AK 11 rfl rfl (bT h130) (hH128.sub (sQ (sQ sR))) ?_
      refine AT 12 rfl (hH128.sub (sQ (sQ sR))) (fun w hS => run_pickT (bT h130) (v := B true) rfl) ?_
      refine AT 13 rfl (hH128.sub (sQ (sQ sR))) (fun w hS => mV (Pn _ _) rfl) ?_
      refine AT 14 rfl (hH128.sub (sQ (sQ sR))) (fun w hS => run_nilCheck rfl) ?_
      refine AT 15 rfl (hH128.sub (sQ (sQ sR))) (fun w hS => fA underlying66 2 rfl sizeOf45 rfl) ?_
      refine AT 16 rfl (hH128.sub (sQ (sQ sR))) (fun w hS => fA underlying45 1 rfl sizeOf3 rfl) ?_
      refine A1 17 ?_
      refine AO.read rfl gnone rfl hH128 (sQ (sQ sR)) (run_ld underlying3 rfl rfl (hH128.cell (i := 1) rfl (v := I _) rfl)) ?_
      refine A1 18 ?_
      refine AO.callT rfl gnone rfl (c_scope_judge_tell _ _ _ _ _ _ _ _ _ _ _ hs hc hH128 (by first | omega | (simp only [List.length_nil] at *; omega))) (run_call4 call56 rfl rfl (show _ = I 7 from rfl) rfl) (fun u w' ⟨_, _, _, _, _, h⟩ => (h.sub (sQ (sQ sR)))) ?_
      rintro _ w136 ⟨rfl, v135, l139, e140, hn141, h137⟩
      have hH138 := h137
      refine AD ?_
      exact out0 Tryd.results32 ⟨rfl, v135, l139, by first | (rw [e140]; simp [*, limitF]; done) | (rw [e140]; have hpl := sh_facs_len ‹Shp.sh _ = (⟨true, prodF (prodL s c.names)⟩ : Sh)›; first | rw [limit_p1 ‹c.op = 3› (by omega)] | (rw [limit_p2 ‹c.op = 3› (by omega)]; try simp [*])), by omega, Hp.conv (hH138.sub (sP (sP (sA sR)))) (by first | rfl | simp)⟩
     ·refine AG 5 rfl rfl (bF h130) (hH128.sub (sQ (sQ sR))) (fun w hS => mV (Pn _ _) rfl) ?_
      refine AG 6 rfl rfl (bF h130) (hH128.sub (sQ (sQ sR))) (fun w hS => run_nilCheck rfl) ?_
      refine AG 7 rfl rfl (bF h130) (hH128.sub (sQ (sQ sR))) (fun w hS => fA underlying66 0 rfl sizeOf25 rfl) ?_
      refine AG 8 rfl rfl (bF h130) (hH128.sub (sQ (sQ sR))) (fun w hS => fA underlying25 0 rfl sizeOf22 rfl) ?_
      refine AT 13 rfl (hH128.sub (sQ (sQ sR))) (fun w hS => mV (Pn _ _) rfl) ?_
      refine AT 14 rfl (hH128.sub (sQ (sQ sR))) (fun w hS => run_nilCheck rfl) ?_
      refine AT 15 rfl (hH128.sub (sQ (sQ sR))) (fun w hS => fA underlying66 2 rfl sizeOf45 rfl) ?_
      refine AT 16 rfl (hH128.sub (sQ (sQ sR))) (fun w hS => fA underlying45 1 rfl sizeOf3 rfl) ?_
      refine AN.two 9 17 (by kernel_rfl) ?_ ?_
      ·refine AO.read rfl (gsome rfl (bF h130)) rfl hH128 (sQ (sQ sR)) (run_ldV (hs.lats.sl.hp hH128) underlying22 rfl rfl (hH128.cell (i := 1) rfl rfl)) ?_
       refine AG 10 rfl rfl (bF h130) (hH128.sub (sQ (sQ sR))) (fun w hS => run_lenSl (hs.lats.sl.hp hS) rfl underlying22 rfl) ?_
       refine AG 11 rfl rfl (bF h130) (hH128.sub (sQ (sQ sR))) (fun w hS => run_geq rfl rfl) ?_
       refine AT 12 rfl (hH128.sub (sQ (sQ sR))) (fun w hS => run_pickF (bF h130) (v := B _) rfl) ?_
       refine A1 17 ?_
       refine AO.read rfl gnone rfl hH128 (sQ (sQ sR)) (run_ld underlying3 rfl rfl (hH128.cell (i := 1) rfl (v := I _) rfl)) ?_
       refine A1 18 ?_
       refine AO.callT rfl gnone rfl (c_scope_judge_tell _ _ _ _ _ _ _ _ _ _ _ hs hc hH128 (by first | omega | (simp only [List.length_nil] at *; omega))) (run_call4 call56 rfl rfl (show _ = I 7 from rfl) rfl) (fun u w' ⟨_, _, _, _, _, h⟩ => (h.sub (sQ (sQ sR)))) ?_
       rintro _ w150 ⟨rfl, v149, l153, e154, hn155, h151⟩
       have hH152 := h151
       refine AD ?_
       exact out0 Tryd.results32 ⟨rfl, v149, l153, by first | (rw [e154]; simp [*, limitF]; done) | (rw [e154]; have hpl := sh_facs_len ‹Shp.sh _ = (⟨true, prodF (prodL s c.names)⟩ : Sh)›; first | rw [limit_p1 ‹c.op = 3› (by omega)] | (rw [limit_p2 ‹c.op = 3› (by omega)]; try simp [*])), by omega, Hp.conv (hH152.sub (sP (sP (sA sR)))) (by first | rfl | simp)⟩
      ·refine AO.read rfl gnone rfl hH128 (sQ (sQ sR)) (run_ld underlying3 rfl rfl (hH128.cell (i := 1) rfl (v := I _) rfl)) ?_
       refine A1 9 ?_
       refine AO.read rfl (gsome rfl (bF h130)) rfl hH128 (sQ (sQ sR)) (run_ldV (hs.lats.sl.hp hH128) underlying22 rfl rfl (hH128.cell (i := 1) rfl rfl)) ?_
       refine AG 10 rfl rfl (bF h130) (hH128.sub (sQ (sQ sR))) (fun w hS => run_lenSl (hs.lats.sl.hp hS) rfl underlying22 rfl) ?_
       refine AG 11 rfl rfl (bF h130) (hH128.sub (sQ (sQ sR))) (fun w hS => run_geq rfl rfl) ?_
       refine AT 12 rfl (hH128.sub (sQ (sQ sR))) (fun w hS => run_pickF (bF h130) (v := B _) rfl) ?_
       refine A1 18 ?_
       refine AO.callT rfl gnone rfl (c_scope_judge_tell _ _ _ _ _ _ _ _ _ _ _ hs hc hH128 (by first | omega | (simp only [List.length_nil] at *; omega))) (run_call4 call56 rfl rfl (show _ = I 7 from rfl) rfl) (fun u w' ⟨_, _, _, _, _, h⟩ => (h.sub (sQ (sQ sR)))) ?_
       rintro _ w164 ⟨rfl, v163, l167, e168, hn169, h165⟩
       have hH166 := h165
       refine AD ?_
       exact out0 Tryd.results32 ⟨rfl, v163, l167, by first | (rw [e168]; simp [*, limitF]; done) | (rw [e168]; have hpl := sh_facs_len ‹Shp.sh _ = (⟨true, prodF (prodL s c.names)⟩ : Sh)›; first | rw [limit_p1 ‹c.op = 3› (by omega)] | (rw [limit_p2 ‹c.op = 3› (by omega)]; try simp [*])), by omega, Hp.conv (hH166.sub (sP (sP (sA sR)))) (by first | rfl | simp)⟩
    ·refine CW.skip ?_
     refine CW.regionS (by kernel_rfl) hH (sQ (sQ sR)) ?_
     intro w170 hH171
     refine AT 0 rfl (hH171.sub (sQ (sQ sR))) (fun w hS => mV (Pn _ _) rfl) ?_
     refine AT 1 rfl (hH171.sub (sQ (sQ sR))) (fun w hS => mV (I _) rfl) ?_
     refine AT 2 rfl (hH171.sub (sQ (sQ sR))) (fun w hS => mV (I _) rfl) ?_
     refine AT 3 rfl (hH171.sub (sQ (sQ sR))) (fun w hS => run_gtr rfl rfl) ?_
     refine AT 4 rfl (hH171.sub (sQ (sQ sR))) (fun w hS => mV (B _) rfl) ?_
     refine AN.splitP (dj := 53) rfl (fun h173 => ?_) (fun h173 => ?_)
     ·refine AK 5 rfl rfl (bT h173) (hH171.sub (sQ (sQ sR))) ?_
      refine AK 6 rfl rfl (bT h173) (hH171.sub (sQ (sQ sR))) ?_
      refine AK 7 rfl rfl (bT h173) (hH171.sub (sQ (sQ sR))) ?_
      refine AK 8 rfl rfl (bT h173) (hH171.sub (sQ (sQ sR))) ?_
      refine AK 9 rfl rfl (bT h173) (hH171.sub (sQ (sQ sR))) ?_
      refine AK 10 rfl rfl (bT h173) (hH171.sub (sQ (sQ sR))) ?_
      refine AK 11 rfl rfl (bT h173) (hH171.sub (sQ (sQ sR))) ?_
      refine AT 12 rfl (hH171.sub (sQ (sQ sR))) (fun w hS => run_pickT (bT h173) (v := B true) rfl) ?_
      refine AT 13 rfl (hH171.sub (sQ (sQ sR))) (fun w hS => mV (Pn _ _) rfl) ?_
      refine AT 14 rfl (hH171.sub (sQ (sQ sR))) (fun w hS => run_nilCheck rfl) ?_
      refine AT 15 rfl (hH171.sub (sQ (sQ sR))) (fun w hS => fA underlying66 2 rfl sizeOf45 rfl) ?_
      refine AT 16 rfl (hH171.sub (sQ (sQ sR))) (fun w hS => fA underlying45 1 rfl sizeOf3 rfl) ?_
      refine A1 17 ?_
      refine AO.read rfl gnone rfl hH171 (sQ (sQ sR)) (run_ld underlying3 rfl rfl (hH171.cell (i := 1) rfl (v := I _) rfl)) ?_
      refine A1 18 ?_
      refine AO.callT rfl gnone rfl (c_scope_judge_tell _ _ _ _ _ _ _ _ _ _ _ hs hc hH171 (by first | omega | (simp only [List.length_nil] at *; omega))) (run_call4 call56 rfl rfl (show _ = I 7 from rfl) rfl) (fun u w' ⟨_, _, _, _, _, h⟩ => (h.sub (sQ (sQ sR)))) ?_
      rintro _ w179 ⟨rfl, v178, l182, e183, hn184, h180⟩
      have hH181 := h180
      refine AD ?_
      exact out0 Tryd.results32 ⟨rfl, v178, l182, by first | (rw [e183]; simp [*, limitF]; done) | (rw [e183]; have hpl := sh_facs_len ‹Shp.sh _ = (⟨true, prodF (prodL s c.names)⟩ : Sh)›; first | rw [limit_p1 ‹c.op = 3› (by omega)] | (rw [limit_p2 ‹c.op = 3› (by omega)]; try simp [*])), by omega, Hp.conv (hH181.sub sR) (by first | rfl | simp)⟩
     ·refine AG 5 rfl rfl (bF h173) (hH171.sub (sQ (sQ sR))) (fun w hS => mV (Pn _ _) rfl) ?_
      refine AG 6 rfl rfl (bF h173) (hH171.sub (sQ (sQ sR))) (fun w hS => run_nilCheck rfl) ?_
      refine AG 7 rfl rfl (bF h173) (hH171.sub (sQ (sQ sR))) (fun w hS => fA underlying66 0 rfl sizeOf25 rfl) ?_
      refine AG 8 rfl rfl (bF h173) (hH171.sub (sQ (sQ sR))) (fun w hS => fA underlying25 0 rfl sizeOf22 rfl) ?_
      refine AT 13 rfl (hH171.sub (sQ (sQ sR))) (fun w hS => mV (Pn _ _) rfl) ?_
      refine AT 14 rfl (hH171.sub (sQ (sQ sR))) (fun w hS => run_nilCheck rfl) ?_
      refine AT 15 rfl (hH171.sub (sQ (sQ sR))) (fun w hS => fA underlying66 2 rfl sizeOf45 rfl) ?_
      refine AT 16 rfl (hH171.sub (sQ (sQ sR))) (fun w hS => fA underlying45 1 rfl sizeOf3 rfl) ?_
      refine AN.two 9 17 (by kernel_rfl) ?_ ?_
      ·refine AO.read rfl (gsome rfl (bF h173)) rfl hH171 (sQ (sQ sR)) (run_ldV (hs.lats.sl.hp hH171) underlying22 rfl rfl (hH171.cell (i := 1) rfl rfl)) ?_
       refine AG 10 rfl rfl (bF h173) (hH171.sub (sQ (sQ sR))) (fun w hS => run_lenSl (hs.lats.sl.hp hS) rfl underlying22 rfl) ?_
       refine AG 11 rfl rfl (bF h173) (hH171.sub (sQ (sQ sR))) (fun w hS => run_geq rfl rfl) ?_
       refine AT 12 rfl (hH171.sub (sQ (sQ sR))) (fun w hS => run_pickF (bF h173) (v := B _) rfl) ?_
       refine A1 17 ?_
       refine AO.read rfl gnone rfl hH171 (sQ (sQ sR)) (run_ld underlying3 rfl rfl (hH171.cell (i := 1) rfl (v := I _) rfl)) ?_
       refine A1 18 ?_
       refine AO.callT rfl gnone rfl (c_scope_judge_tell _ _ _ _ _ _ _ _ _ _ _ hs hc hH171 (by first | omega | (simp only [List.length_nil] at *; omega))) (run_call4 call56 rfl rfl (show _ = I 7 from rfl) rfl) (fun u w' ⟨_, _, _, _, _, h⟩ => (h.sub (sQ (sQ sR)))) ?_
       rintro _ w193 ⟨rfl, v192, l196, e197, hn198, h194⟩
       have hH195 := h194
       refine AD ?_
       exact out0 Tryd.results32 ⟨rfl, v192, l196, by first | (rw [e197]; simp [*, limitF]; done) | (rw [e197]; have hpl := sh_facs_len ‹Shp.sh _ = (⟨true, prodF (prodL s c.names)⟩ : Sh)›; first | rw [limit_p1 ‹c.op = 3› (by omega)] | (rw [limit_p2 ‹c.op = 3› (by omega)]; try simp [*])), by omega, Hp.conv (hH195.sub sR) (by first | rfl | simp)⟩
      ·refine AO.read rfl gnone rfl hH171 (sQ (sQ sR)) (run_ld underlying3 rfl rfl (hH171.cell (i := 1) rfl (v := I _) rfl)) ?_
       refine A1 9 ?_
       refine AO.read rfl (gsome rfl (bF h173)) rfl hH171 (sQ (sQ sR)) (run_ldV (hs.lats.sl.hp hH171) underlying22 rfl rfl (hH171.cell (i := 1) rfl rfl)) ?_
       refine AG 10 rfl rfl (bF h173) (hH171.sub (sQ (sQ sR))) (fun w hS => run_lenSl (hs.lats.sl.hp hS) rfl underlying22 rfl) ?_
       refine AG 11 rfl rfl (bF h173) (hH171.sub (sQ (sQ sR))) (fun w hS => run_geq rfl rfl) ?_
       refine AT 12 rfl (hH171.sub (sQ (sQ sR))) (fun w hS => run_pickF (bF h173) (v := B _) rfl) ?_
       refine A1 18 ?_
       refine AO.callT rfl gnone rfl (c_scope_judge_tell _ _ _ _ _ _ _ _ _ _ _ hs hc hH171 (by first | omega | (simp only [List.length_nil] at *; omega))) (run_call4 call56 rfl rfl (show _ = I 7 from rfl) rfl) (fun u w' ⟨_, _, _, _, _, h⟩ => (h.sub (sQ (sQ sR)))) ?_
       rintro _ w207 ⟨rfl, v206, l210, e211, hn212, h208⟩
       have hH209 := h208
       refine AD ?_
       exact out0 Tryd.results32 ⟨rfl, v206, l210, by first | (rw [e211]; simp [*, limitF]; done) | (rw [e211]; have hpl := sh_facs_len ‹Shp.sh _ = (⟨true, prodF (prodL s c.names)⟩ : Sh)›; first | rw [limit_p1 ‹c.op = 3› (by omega)] | (rw [limit_p2 ‹c.op = 3› (by omega)]; try simp [*])), by omega, Hp.conv (hH209.sub sR) (by first | rfl | simp)⟩

theorem c_scope_Fault (s : Scp) (c : CmdR) (hsm : Sm s c) (w : World) (hs : ScpV (Kw w) s) (hc : CmdV (Kw w) c) (hT : Tab w) : Calls Tryd.prog 15 #[.agg (scpC s), .agg (cmdL c).toArray] w (Pure (.agg (fltL (faultF s c)).toArray) w) := by
 have hm1 := hsm.nl
 have hm2 := hsm.pl
 refine enter Tryd.func15 rfl Tryd.ntmps15 rfl ?_
 have hH := Hp.start w
 refine SR ?_
 refine RL.new rfl hH (f := fun b => (.pointer (some ⟨b, 0, none⟩))) (run_box (v := .agg _) rfl) ?_
 intro b3 w1 hH2
 refine RL.new rfl hH2 (f := fun b => (.pointer (some ⟨b, 0, none⟩))) (run_box (v := .agg _) rfl) ?_
 intro b6 w4 hH5
 refine RL.new rfl hH5 (f := fun b => (.pointer (some ⟨b, 0, none⟩))) (run_alloc zero_flt) ?_
 intro b9 w7 hH8
 refine RL.nil ?_
 refine CW.seq ?_
 refine SR ?_
 refine V (fA underlying45 0 rfl sizeOf3 rfl) ?_
 refine V (run_ld underlying3 rfl rfl (hH8.cell (i := 1) rfl (v := I _) rfl)) ?_
 refine RL.callP rfl hH8 (c_scope_lattice _  _) (run_call1 call27 rfl) ?_
 intro w10 hH11
 refine V (run_notP rfl) ?_
 refine V (mV (B _) rfl) ?_
 refine RL.splitP (dj := 10) rfl (fun h15 => ?_) (fun h15 => ?_)
 ·refine RL.gT rfl (bT h15) ?_
  refine V (fA underlying45 0 rfl sizeOf3 rfl) ?_
  refine RL.gT rfl (bT h15) ?_
  refine V (run_ld underlying3 rfl rfl (hH11.cell (i := 1) rfl (v := I _) rfl)) ?_
  refine RL.gT rfl (bT h15) ?_
  refine RL.callP rfl hH11 (c_scope_variables _  _) (run_call1 call28 rfl) ?_
  intro w16 hH17
  refine RL.gT rfl (bT h15) ?_
  refine V (run_notP rfl) ?_
  refine V (run_pickT (bT h15) (v := B _) rfl) ?_
  refine RL.nil ?_
  refine CW.condP rfl (fun h21 => ?_) (fun h21 => ?_)
  ·refine SR ?_
   refine V (run_bld (vs := []) rfl (built_fltL0)) ?_
   refine RL.set hH17 (i := 0) rfl (run_stW (c' := (fltL _).toArray) rfl rfl rfl (by simp [fltL, Value.oneCell']) (hH17.blk (i := 0) rfl) rfl) ?_
   intro w22 hH23
   simp only [z0, z1] at hH23
   refine RL.nil ?_
   refine CW.ret ?_
   refine outCg Tryd.results15 rfl hH23 (i := 0) rfl underlying33 rfl rfl ⟨?_, hH23.below⟩
   rw [faultF, if_neg (by omega)]
  ·refine CW.skip ?_
   refine SR ?_
   refine V (run_ldA (cs := scpL _) underlying25 rfl rfl rfl (rangeAt_cells (hH17.blk (i := 2) rfl))) ?_
   refine V (run_ldA (cs := cmdL _) underlying45 rfl rfl rfl (rangeAt_cells (hH17.blk (i := 1) rfl))) ?_
   refine V (run_bld (vs := [(0, .agg (scpC s)), (1, .agg (cmdL c).toArray)]) rfl (built_judge s c)) ?_
   refine RL.new rfl hH17 (f := fun b => (.pointer (some ⟨b, 0, none⟩))) (run_box (v := .agg _) rfl) ?_
   intro b26 w24 hH25
   have hH27 := hH25.nilRow 33 2
   refine V (aV (Pn _ _) rfl) ?_
   refine RL.nil ?_
   refine SR ?_
   refine V (mV (Pn _ _) rfl) ?_
   refine RL.callT rfl (c_scope_judge_head _ _ _ _ _ ([] : List Flt) _ _ hs hc hH27 (by first | omega | (simp only [List.length_nil] at *; omega))) (run_call1 call29 rfl) ?_
   rintro _ w31 ⟨rfl, v30, l34, e35, hn36, h32⟩
   have hH33 := h32
   refine RL.nil ?_
   refine SR ?_
   refine V (mV (Pn _ _) rfl) ?_
   refine RL.callT rfl (c_scope_judge_names _ _ _ _ _ _ _ (by omega) _ hs hc hH33 (by first | omega | (simp only [List.length_nil] at *; omega))) (run_call1 call30 rfl) ?_
   rintro _ w40 ⟨rfl, v39, l43, e44, hn45, h41⟩
   have hH42 := h41
   refine RL.nil ?_
   refine SR ?_
   refine V (mV (Pn _ _) rfl) ?_
   refine RL.callT rfl (c_scope_judge_pairs _ _ _ _ _ _ _ (by omega) (by omega) _ hs hc hH42 (by first | omega | (simp only [List.length_nil] at *; omega)) hT) (run_call1 call31 rfl) ?_
   rintro _ w49 ⟨rfl, v48, l52, e53, hn54, h50⟩
   have hH51 := h50
   refine RL.nil ?_
   refine SR ?_
   refine V (mV (Pn _ _) rfl) ?_
   refine RL.callT rfl (c_scope_judge_limits _ _ _ _ _ _ _ hsm _ hs hc hH51 (by first | omega | (simp only [List.length_nil] at *; omega))) (run_call1 call32 rfl) ?_
   rintro _ w58 ⟨rfl, v57, l61, e62, hn63, h59⟩
   have hH60 := h59
   refine RL.nil ?_
   refine SR ?_
   refine V (mV (Pn _ _) rfl) ?_
   refine V (run_nilCheck rfl) ?_
   refine V (fA underlying66 19 rfl sizeOf26 rfl) ?_
   refine V (run_ld underlying26 rfl rfl (hH60.cell (i := 1) rfl rfl)) ?_
   refine RL.callP rfl hH60 (c_scope_Least _ _  _ (hH60.sl (i := 0) rfl)) (run_call1 call12 rfl) ?_
   intro w64 hH65
   refine RL.set hH65 (i := 2) rfl (run_stW (c' := (fltL _).toArray) rfl rfl rfl (by simp [fltL, Value.oneCell']) (hH65.blk (i := 2) rfl) rfl) ?_
   intro w66 hH67
   simp only [z0, z1] at hH67
   refine RL.nil ?_
   refine CW.ret ?_
   refine outCg Tryd.results15 rfl hH67 (i := 2) rfl underlying33 rfl rfl ⟨?_, hH67.below⟩
   have hq : l61 = faultL s c := by rw [e62, e53, e44, e35, faultL, List.nil_append]
   rw [hq, faultF, if_pos (by omega)]
 ·refine RL.gF rfl rfl (bF h15) rfl ?_
  refine RL.gF rfl rfl (bF h15) rfl ?_
  refine RL.gF rfl rfl (bF h15) rfl ?_
  refine RL.gF rfl rfl (bF h15) rfl ?_
  refine V (run_pickF (bF h15) (v := B false) rfl) ?_
  refine RL.nil ?_
  refine CW.condF rfl ?_
  refine CW.skip ?_
  refine SR ?_
  refine V (run_ldA (cs := scpL _) underlying25 rfl rfl rfl (rangeAt_cells (hH11.blk (i := 2) rfl))) ?_
  refine V (run_ldA (cs := cmdL _) underlying45 rfl rfl rfl (rangeAt_cells (hH11.blk (i := 1) rfl))) ?_
  refine V (run_bld (vs := [(0, .agg (scpC s)), (1, .agg (cmdL c).toArray)]) rfl (built_judge s c)) ?_
  refine RL.new rfl hH11 (f := fun b => (.pointer (some ⟨b, 0, none⟩))) (run_box (v := .agg _) rfl) ?_
  intro b70 w68 hH69
  have hH71 := hH69.nilRow 33 2
  refine V (aV (Pn _ _) rfl) ?_
  refine RL.nil ?_
  refine SR ?_
  refine V (mV (Pn _ _) rfl) ?_
  refine RL.callT rfl (c_scope_judge_head _ _ _ _ _ ([] : List Flt) _ _ hs hc hH71 (by first | omega | (simp only [List.length_nil] at *; omega))) (run_call1 call29 rfl) ?_
  rintro _ w75 ⟨rfl, v74, l78, e79, hn80, h76⟩
  have hH77 := h76
  refine RL.nil ?_
  refine SR ?_
  refine V (mV (Pn _ _) rfl) ?_
  refine RL.callT rfl (c_scope_judge_names _ _ _ _ _ _ _ (by omega) _ hs hc hH77 (by first | omega | (simp only [List.length_nil] at *; omega))) (run_call1 call30 rfl) ?_
  rintro _ w84 ⟨rfl, v83, l87, e88, hn89, h85⟩
  have hH86 := h85
  refine RL.nil ?_
  refine SR ?_
  refine V (mV (Pn _ _) rfl) ?_
  refine RL.callT rfl (c_scope_judge_pairs _ _ _ _ _ _ _ (by omega) (by omega) _ hs hc hH86 (by first | omega | (simp only [List.length_nil] at *; omega)) hT) (run_call1 call31 rfl) ?_
  rintro _ w93 ⟨rfl, v92, l96, e97, hn98, h94⟩
  have hH95 := h94
  refine RL.nil ?_
  refine SR ?_
  refine V (mV (Pn _ _) rfl) ?_
  refine RL.callT rfl (c_scope_judge_limits _ _ _ _ _ _ _ hsm _ hs hc hH95 (by first | omega | (simp only [List.length_nil] at *; omega))) (run_call1 call32 rfl) ?_
  rintro _ w102 ⟨rfl, v101, l105, e106, hn107, h103⟩
  have hH104 := h103
  refine RL.nil ?_
  refine SR ?_
  refine V (mV (Pn _ _) rfl) ?_
  refine V (run_nilCheck rfl) ?_
  refine V (fA underlying66 19 rfl sizeOf26 rfl) ?_
  refine V (run_ld underlying26 rfl rfl (hH104.cell (i := 1) rfl rfl)) ?_
  refine RL.callP rfl hH104 (c_scope_Least _ _  _ (hH104.sl (i := 0) rfl)) (run_call1 call12 rfl) ?_
  intro w108 hH109
  refine RL.set hH109 (i := 2) rfl (run_stW (c' := (fltL _).toArray) rfl rfl rfl (by simp [fltL, Value.oneCell']) (hH109.blk (i := 2) rfl) rfl) ?_
  intro w110 hH111
  simp only [z0, z1] at hH111
  refine RL.nil ?_
  refine CW.ret ?_
  refine outCg Tryd.results15 rfl hH111 (i := 2) rfl underlying33 rfl rfl ⟨?_, hH111.below⟩
  have hq : l105 = faultL s c := by rw [e106, e97, e88, e79, faultL, List.nil_append]
  rw [hq, faultF, if_pos (by omega)]

theorem c_scope_clone (K : Vu) (s : Scp) (hll : s.lats.length ≤ 1000) (hvl : s.vars.length ≤ 1000) (hfn : ∀ a ∈ s.lats, a.shp.facs.length ≤ 1000) (hnn : ∀ a ∈ s.lats, ∀ f ∈ a.shp.facs, f.names.length ≤ 1000) (w : World) (hK : Le K (Kw w)) (hs : ScpV K s) : Calls Tryd.prog 46 #[.agg (scpC s)] w (Ret (Rows2 K 56 60 s.sc w)) := by
 refine enter Tryd.func46 rfl Tryd.ntmps46 rfl ?_
 have hH := Hp.start w
 refine SR ?_
 refine RL.new rfl hH (f := fun b => (.pointer (some ⟨b, 0, none⟩))) (run_box (v := .agg _) rfl) ?_
 intro b3 w1 hH2
 refine RL.new rfl hH2 (f := fun b => (.pointer (some ⟨b, 0, none⟩))) (run_alloc Tryd.zeroValue25) ?_
 intro b6 w4 hH5
 refine RL.nil ?_
 refine SR ?_
 refine RL.new rfl hH5 (f := fun b => (.pointer (some ⟨b, 0, none⟩))) (run_alloc Tryd.zeroValue25) ?_
 intro b9 w7 hH8
 have hH10 := hH8.nilRow 60 3
 have hH11 := hH10.nilRow 56 3
 refine RL.nil ?_
 refine CW.seq ?_
 refine SR ?_
 refine V (fA underlying25 0 rfl sizeOf22 rfl) ?_
 refine V (run_ldV ((hs.mono hK).lats.sl.hp hH11) underlying22 rfl rfl (hH11.cell (i := 4) rfl rfl)) ?_
 refine V (run_lenSl ((hs.mono hK).lats.sl.hp hH11) rfl underlying22 rfl) ?_
 refine V (mV (I 0) rfl) ?_
 refine RL.nil ?_
 refine CW.block ?_
 refine CW.loop (G := (Int) × (Value) × (List LatR) × (List Ent)) (fun (⟨k, v0, ls, Z0⟩ : (Int) × (Value) × (List LatR) × (List Ent)) s' w' => (Fr [5, 9, 10, 11, 12, 13, 14, 15, 16, 17, 18, 19, 20, 21, 22, 23, 24] _ s') ∧ (Hp w w' (.row v0 56 3 (ls.length) (ls.flatMap latL) :: _ :: .blk b9 (.cells (#[v0, .slice none 0 0]) 25 (0, 0)) :: _ :: _ :: Z0)) ∧ (s' 9 = I k) ∧ (0 ≤ k) ∧ (k ≤ s.lats.length) ∧ (ls.map LatR.pl = (s.lats.take k.toNat).map LatR.pl) ∧ (LatsV (Kz K Z0) ls) ∧ ((ls.length : Int) = k)) (fun (⟨k, v0, ls, Z0⟩ : (Int) × (Value) × (List LatR) × (List Ent)) => (s.lats.length - k).toNat) ((0, (.slice none 0 0 : Value), [], [])) ⟨Fr.refl _ _, hH11, rfl, (by omega), (by omega), rfl, LatsV.nil _, rfl⟩ ?_
 rintro ⟨k, v0, ls, Z0⟩ sg12 w12 ⟨fr12, hH12, e9_12, h0, hk, hm, hF, hb⟩
 have e1_12 : sg12 1 = Pn _ _ := (fr12 1 rfl).trans rfl
 have e2_12 : sg12 2 = Pn _ _ := (fr12 2 rfl).trans rfl
 have e3_12 : sg12 3 = Pn _ _ := (fr12 3 rfl).trans rfl
 have e7_12 := (fr12 7 rfl).trans (by conv => lhs; whnf)
 have e8_12 : sg12 8 = I _ := (fr12 8 rfl).trans rfl
 refine SR ?_
 refine V (run_lss e9_12 e8_12) ?_
 refine RL.nil ?_
 refine CW.seq ?_
 refine CW.condP rfl (fun h14 => ?_) (fun h14 => ?_)
 ·refine CW.skip ?_
  refine CW.seq ?_
  refine CW.block ?_
  refine SR ?_
  refine V (run_indexAddrS ((hs.mono hK).lats.sl.hp hH12) underlying22 sizeOf56 e7_12 e9_12 (by omega)) ?_
  refine V (run_ldE (dv := lat0) latL_len ((hs.mono hK).lats.sl.hp hH12) underlying56 rfl rfl rfl (by omega)) ?_
  refine RL.new rfl hH12 (f := fun b => (.pointer (some ⟨b, 0, none⟩))) (run_alloc Tryd.zeroValue56) ?_
  intro b17 w15 hH16
  refine RL.set hH16 (i := 0) rfl (run_stW (c' := (latL _).toArray) rfl rfl rfl (latL_one ((hs.mono hK).at (by omega) (by omega))) (hH16.blk (i := 0) rfl) rfl) ?_
  intro w18 hH19
  simp only [z0, z1] at hH19
  refine RL.nil ?_
  refine CW.regionS (by kernel_rfl) hH19 (sP (sQ (sP (sQ sR)))) ?_
  intro w20 hH21
  refine AT 0 rfl (hH21.sub (sP (sQ (sP (sQ sR))))) (fun w hS => fA underlying25 0 rfl sizeOf22 e3_12) ?_
  refine AT 2 rfl (hH21.sub (sP (sQ (sP (sQ sR))))) (fun w hS => fA underlying56 0 rfl sizeOf9 rfl) ?_
  refine AT 3 rfl (hH21.sub (sP (sQ (sP (sQ sR))))) (fun w hS => run_ld underlying9 rfl rfl (hS.cell (i := 0) rfl (v := .string _) rfl)) ?_
  refine AT 4 rfl (hH21.sub (sP (sQ (sP (sQ sR))))) (fun w hS => fA underlying56 1 rfl sizeOf54 rfl) ?_
  refine AT 5 rfl (hH21.sub (sP (sQ (sP (sQ sR))))) (fun w hS => run_ldSub (sub := shpL _) underlying54 rfl rfl rfl (hS.blk (i := 0) rfl) rfl) ?_
  refine AN.two 1 6 (by kernel_rfl) ?_ ?_
  ·refine AO.read rfl gnone rfl hH21 (sP (sQ (sP (sQ sR)))) (run_ld underlying22 rfl rfl (hH21.cell (i := 3) rfl rfl)) ?_
   refine A1 6 ?_
   refine AO.callF rfl gnone rfl hH21 (sP (sQ (sP (sQ sR)))) (c_scope_copied K (s.lats.getD k.toNat lat0).shp (hfn _ (List.mem_of_getElem? (getD_at (d := lat0) h0 ‹k < _›))) (hnn _ (List.mem_of_getElem? (getD_at (d := lat0) h0 ‹k < _›))) _ (hK.trans hH21.kw) (hs.at h0 ‹_›)) (run_call1 call75 rfl) ?_
   intro v26 w27 Z29 hH28 hp30
   have hH31 : Hp _ w27 (_ :: _ :: _ :: _ :: _ :: _ :: (Z29 ++ Z0)) := hH28.zin (L := [_, _, _, _, _, _]) (L' := Z0)
   obtain ⟨p32, rfl, psh33, pv34⟩ := hp30
   refine AT 7 rfl (hH31.sub (sP (sQ (sP (sQ (sP (sP (sA sR)))))))) (fun w hS => run_bld (vs := [(0, S _), (1, .agg (shpC p32))]) rfl (built_lat _ p32)) ?_
   refine A1 8 ?_
   refine AO.new rfl gnone rfl hH31 (sP (sQ (sP (sQ (sP (sP (sA sR))))))) (f := fun b => .slice (some ⟨b, 0, none⟩) 1 1) (run_mkRecs latL_len underlying22 rfl rfl rfl (l := [(⟨(s.lats.getD k.toNat lat0).name, p32⟩ : LatR)]) rfl (by decide) (by decide) rfl) ?_
   intro b37 w35 hH36
   refine A1 9 ?_
   refine AO.app rfl gnone rfl hH36 (j := 2) rfl (fun _ => (sQ (sP (sQ (sP (sQ (sP (sP (sA sR))))))))) (Hp.slFlat latL_len hH36 (i := 0) (l := [(⟨(s.lats.getD k.toNat lat0).name, p32⟩ : LatR)]) rfl (by simp [maxLen])) rfl rfl underlying22 rfl rfl (size := 3) (bytes := 48) rfl rfl rfl (by decide) (lats1_one pv34) (by simp only [List.length_cons, List.length_nil]; omega) (by simp only [maxLen, List.length_cons, List.length_nil]; omega) ?_
   intro v40 w38 hH39
   simp only [z0, z1] at hH39
   refine AT 10 rfl (hH39.sub (sQ (sP (sQ (sP (sQ (sP (sP (sA sR))))))))) (fun w hS => fA underlying25 0 rfl sizeOf22 e3_12) ?_
   refine A1 11 ?_
   refine AO.set rfl gnone hH39 (j := 4) rfl (sQ (sP (sQ (sP (sQ (sP (sP (sA sR)))))))) (run_st rfl rfl (v := v40) rfl (row_cells (hH39.get (i := 2) rfl)).1 (row_cells (hH39.get (i := 2) rfl)).2 (hH39.blk (i := 4) rfl) (by first | (show 0 < 2; decide) | decide | (simp only [List.size_toArray, scpL_len]; decide) | simp)) ?_
   intro w43 hH44
   simp only [z0, z1] at hH44
   refine AD ?_
   refine CW.region ?_
   refine V (run_add e9_12 rfl (by omega)) ?_
   refine V (mV (I _) rfl) ?_
   refine RL.nil ?_
   refine ⟨(k + 1, v40, (ls ++ [⟨(s.lats.getD k.toNat lat0).name, p32⟩]), (Z29 ++ Z0)), ?_, fr12.u4.u4.u4.u4.u1, (Hp.conv (hH44.sub (sQ (sQ sR))) (by first | rfl | simp)), (congrArg I (by first | rfl | omega)), ?_, ?_, ?_, ?_, ?_⟩
   ·((try dsimp only); omega)
   ·omega
   ·omega
   ·rw [lats_next h0 ‹_›, List.map_append, hm]; simp only [List.map_cons, List.map_nil, LatR.pl]; rw [psh33]
   ·exact (hF.mono Le.zin).snoc (pv34.mono Le.zout)
   ·simp only [List.length_append, List.length_singleton]; omega
  ·refine AO.callF rfl gnone rfl hH21 (sP (sQ (sP (sQ sR)))) (c_scope_copied K (s.lats.getD k.toNat lat0).shp (hfn _ (List.mem_of_getElem? (getD_at (d := lat0) h0 ‹k < _›))) (hnn _ (List.mem_of_getElem? (getD_at (d := lat0) h0 ‹k < _›))) _ (hK.trans hH21.kw) (hs.at h0 ‹_›)) (run_call1 call75 rfl) ?_
   intro v47 w48 Z50 hH49 hp51
   have hH52 : Hp _ w48 (_ :: _ :: _ :: _ :: _ :: _ :: (Z50 ++ Z0)) := hH49.zin (L := [_, _, _, _, _, _]) (L' := Z0)
   obtain ⟨p53, rfl, psh54, pv55⟩ := hp51
   refine AT 7 rfl (hH52.sub (sP (sQ (sP (sQ (sP (sP (sA sR)))))))) (fun w hS => run_bld (vs := [(0, S _), (1, .agg (shpC p53))]) rfl (built_lat _ p53)) ?_
   refine AN.two 1 8 (by kernel_rfl) ?_ ?_
   ·refine AO.read rfl gnone rfl hH52 (sP (sQ (sP (sQ (sP (sP (sA sR))))))) (run_ld underlying22 rfl rfl (hH52.cell (i := 3) rfl rfl)) ?_
    refine A1 8 ?_
    refine AO.new rfl gnone rfl hH52 (sP (sQ (sP (sQ (sP (sP (sA sR))))))) (f := fun b => .slice (some ⟨b, 0, none⟩) 1 1) (run_mkRecs latL_len underlying22 rfl rfl rfl (l := [(⟨(s.lats.getD k.toNat lat0).name, p53⟩ : LatR)]) rfl (by decide) (by decide) rfl) ?_
    intro b60 w58 hH59
    refine A1 9 ?_
    refine AO.app rfl gnone rfl hH59 (j := 2) rfl (fun _ => (sQ (sP (sQ (sP (sQ (sP (sP (sA sR))))))))) (Hp.slFlat latL_len hH59 (i := 0) (l := [(⟨(s.lats.getD k.toNat lat0).name, p53⟩ : LatR)]) rfl (by simp [maxLen])) rfl rfl underlying22 rfl rfl (size := 3) (bytes := 48) rfl rfl rfl (by decide) (lats1_one pv55) (by simp only [List.length_cons, List.length_nil]; omega) (by simp only [maxLen, List.length_cons, List.length_nil]; omega) ?_
    intro v63 w61 hH62
    simp only [z0, z1] at hH62
    refine AT 10 rfl (hH62.sub (sQ (sP (sQ (sP (sQ (sP (sP (sA sR))))))))) (fun w hS => fA underlying25 0 rfl sizeOf22 e3_12) ?_
    refine A1 11 ?_
    refine AO.set rfl gnone hH62 (j := 4) rfl (sQ (sP (sQ (sP (sQ (sP (sP (sA sR)))))))) (run_st rfl rfl (v := v63) rfl (row_cells (hH62.get (i := 2) rfl)).1 (row_cells (hH62.get (i := 2) rfl)).2 (hH62.blk (i := 4) rfl) (by first | (show 0 < 2; decide) | decide | (simp only [List.size_toArray, scpL_len]; decide) | simp)) ?_
    intro w66 hH67
    simp only [z0, z1] at hH67
    refine AD ?_
    refine CW.region ?_
    refine V (run_add e9_12 rfl (by omega)) ?_
    refine V (mV (I _) rfl) ?_
    refine RL.nil ?_
    refine ⟨(k + 1, v63, (ls ++ [⟨(s.lats.getD k.toNat lat0).name, p53⟩]), (Z50 ++ Z0)), ?_, fr12.u4.u4.u4.u4.u1, (Hp.conv (hH67.sub (sQ (sQ sR))) (by first | rfl | simp)), (congrArg I (by first | rfl | omega)), ?_, ?_, ?_, ?_, ?_⟩
    ·((try dsimp only); omega)
    ·omega
    ·omega
    ·rw [lats_next h0 ‹_›, List.map_append, hm]; simp only [List.map_cons, List.map_nil, LatR.pl]; rw [psh54]
    ·exact (hF.mono Le.zin).snoc (pv55.mono Le.zout)
    ·simp only [List.length_append, List.length_singleton]; omega
   ·refine AO.new rfl gnone rfl hH52 (sP (sQ (sP (sQ (sP (sP (sA sR))))))) (f := fun b => .slice (some ⟨b, 0, none⟩) 1 1) (run_mkRecs latL_len underlying22 rfl rfl rfl (l := [(⟨(s.lats.getD k.toNat lat0).name, p53⟩ : LatR)]) rfl (by decide) (by decide) rfl) ?_
    intro b70 w68 hH69
    refine A1 1 ?_
    refine AO.read rfl gnone rfl hH69 (sQ (sP (sQ (sP (sQ (sP (sP (sA sR)))))))) (run_ld underlying22 rfl rfl (hH69.cell (i := 4) rfl rfl)) ?_
    refine A1 9 ?_
    refine AO.app rfl gnone rfl hH69 (j := 2) rfl (fun _ => (sQ (sP (sQ (sP (sQ (sP (sP (sA sR))))))))) (Hp.slFlat latL_len hH69 (i := 0) (l := [(⟨(s.lats.getD k.toNat lat0).name, p53⟩ : LatR)]) rfl (by simp [maxLen])) rfl rfl underlying22 rfl rfl (size := 3) (bytes := 48) rfl rfl rfl (by decide) (lats1_one pv55) (by simp only [List.length_cons, List.length_nil]; omega) (by simp only [maxLen, List.length_cons, List.length_nil]; omega) ?_
    intro v75 w73 hH74
    simp only [z0, z1] at hH74
    refine AT 10 rfl (hH74.sub (sQ (sP (sQ (sP (sQ (sP (sP (sA sR))))))))) (fun w hS => fA underlying25 0 rfl sizeOf22 e3_12) ?_
    refine A1 11 ?_
    refine AO.set rfl gnone hH74 (j := 4) rfl (sQ (sP (sQ (sP (sQ (sP (sP (sA sR)))))))) (run_st rfl rfl (v := v75) rfl (row_cells (hH74.get (i := 2) rfl)).1 (row_cells (hH74.get (i := 2) rfl)).2 (hH74.blk (i := 4) rfl) (by first | (show 0 < 2; decide) | decide | (simp only [List.size_toArray, scpL_len]; decide) | simp)) ?_
    intro w78 hH79
    simp only [z0, z1] at hH79
    refine AD ?_
    refine CW.region ?_
    refine V (run_add e9_12 rfl (by omega)) ?_
    refine V (mV (I _) rfl) ?_
    refine RL.nil ?_
    refine ⟨(k + 1, v75, (ls ++ [⟨(s.lats.getD k.toNat lat0).name, p53⟩]), (Z50 ++ Z0)), ?_, fr12.u4.u4.u4.u4.u1, (Hp.conv (hH79.sub (sQ (sQ sR))) (by first | rfl | simp)), (congrArg I (by first | rfl | omega)), ?_, ?_, ?_, ?_, ?_⟩
    ·((try dsimp only); omega)
    ·omega
    ·omega
    ·rw [lats_next h0 ‹_›, List.map_append, hm]; simp only [List.map_cons, List.map_nil, LatR.pl]; rw [psh54]
    ·exact (hF.mono Le.zin).snoc (pv55.mono Le.zout)
    ·simp only [List.length_append, List.length_singleton]; omega
 ·refine CW.exit (id := 0) rfl ?_
  refine SR ?_
  refine V (fA underlying25 1 rfl sizeOf23 e3_12) ?_
  refine V (run_ld underlying23 rfl rfl (hH12.cell (i := 2) rfl rfl)) ?_
  refine V (fA underlying25 1 rfl sizeOf23 e1_12) ?_
  refine V (run_ldV ((hs.mono hK).vars.sl.hp hH12) underlying23 rfl rfl (hH12.cell (i := 4) rfl rfl)) ?_
  refine RL.app rfl hH12 (i := 1) rfl ((hs.mono hK).vars.sl.hp hH12) rfl rfl underlying23 rfl rfl (size := 3) (bytes := 32) rfl rfl rfl (by decide) (vars_one _) (by omega) (by simp only [maxLen]; omega) ?_
  intro v80 w81 hH82
  simp only [z0, z1] at hH82
  refine V (fA underlying25 1 rfl sizeOf23 e3_12) ?_
  refine RL.set hH82 (i := 2) rfl (run_st rfl rfl (v := v80) rfl (row_cells (hH82.get (i := 1) rfl)).1 (row_cells (hH82.get (i := 1) rfl)).2 (hH82.blk (i := 2) rfl) (by first | (show 1 < 2; decide) | decide | (simp only [List.size_toArray, scpL_len]; decide) | simp)) ?_
  intro w83 hH84
  simp only [z0, z1] at hH84
  refine RL.nil ?_
  refine SR ?_
  refine V (run_ldA (cs := [v0, v80]) underlying25 rfl rfl e3_12 (rangeAt_cells (hH84.blk (i := 2) rfl))) ?_
  refine RL.set hH84 (i := 3) rfl (run_stW (c' := #[v0, v80]) rfl e2_12 rfl (one_2 (row_cells (hH84.get (i := 0) rfl)).2 (row_cells (hH84.get (i := 1) rfl)).2) (hH84.blk (i := 3) rfl) rfl) ?_
  intro w85 hH86
  simp only [z0, z1] at hH86
  refine RL.nil ?_
  refine CW.ret ?_
  refine outCg Tryd.results46 e2_12 hH86 (i := 3) rfl underlying25 rfl rfl ⟨v0, _, v80, Z0, rfl, Hp.conv ((hH86.perm pR).sub (sP (sP (sQ (sQ (sQ sR)))))) (by first | rfl | (simp [Scp.sc]; done)), hF, ?_⟩
  rw [hm, List.take_of_length_le (by omega)]; rfl

theorem c_scope_Add (K : Vu) (s : Scp) (c : CmdR) (hsm : Sm s c) (w : World) (hK : Le K (Kw w)) (hs : ScpV K s) (hc : CmdV K c) (hT : Tab w) : Calls Tryd.prog 19 #[.agg (scpC s), .agg (cmdL c).toArray] w (PureF K (fun K' u => ∃ q : Scp, u = .agg (scpC q) ∧ q.sc = addF s c ∧ ScpV K' q) w) := by
 have hm1 := hsm.nl
 have hm2 := hsm.vl
 have hm3 := hsm.ll
 refine enter Tryd.func19 rfl Tryd.ntmps19 rfl ?_
 have hH := Hp.start w
 refine SR ?_
 refine RL.new rfl hH (f := fun b => (.pointer (some ⟨b, 0, none⟩))) (run_box (v := .agg _) rfl) ?_
 intro b3 w1 hH2
 refine RL.new rfl hH2 (f := fun b => (.pointer (some ⟨b, 0, none⟩))) (run_box (v := .agg _) rfl) ?_
 intro b6 w4 hH5
 refine RL.new rfl hH5 (f := fun b => (.pointer (some ⟨b, 0, none⟩))) (run_alloc Tryd.zeroValue25) ?_
 intro b9 w7 hH8
 refine RL.nil ?_
 refine SR ?_
 refine V (run_ldA (cs := scpL _) underlying25 rfl rfl rfl (rangeAt_cells (hH8.blk (i := 2) rfl))) ?_
 refine RL.callT rfl (c_scope_clone K s (by have := hsm.ll; omega) (by have := hsm.vl; omega) (fun a ha => by have := hsm.fn a ha; omega) (fun a ha f hf => by have := hsm.nn a ha f hf; omega) _ (hK.trans hH8.kw) hs) (run_call1 call46 rfl) ?_
 rintro _ w19 ⟨v12, ls13, v14, Z15, rfl, hz16, hv17, hm18⟩
 have hH21 : Hp _ w19 (_ :: _ :: _ :: _ :: _ :: (Z15 ++ [])) := Hp.zin2 (L := [_, _, _]) (L' := []) (hH8.callZ hz16)
 have hln22 : ls13.length = s.lats.length := by have := congrArg List.length hm18; simpa [Scp.sc] using this
 refine RL.new rfl hH21 (f := fun b => (.pointer (some ⟨b, 0, none⟩))) (run_alloc Tryd.zeroValue25) ?_
 intro b25 w23 hH24
 refine RL.set hH24 (i := 0) rfl (run_stW (c' := #[v12, v14]) rfl rfl rfl (one_2 (row_cells (hH24.get (i := 1) rfl)).2 (row_cells (hH24.get (i := 2) rfl)).2) (hH24.blk (i := 0) rfl) rfl) ?_
 intro w26 hH27
 simp only [z0, z1] at hH27
 refine RL.nil ?_
 refine CW.seq ?_
 refine SR ?_
 refine V (run_ldA (cs := scpL _) underlying25 rfl rfl rfl (rangeAt_cells (hH27.blk (i := 5) rfl))) ?_
 refine V (run_ldA (cs := cmdL _) underlying45 rfl rfl rfl (rangeAt_cells (hH27.blk (i := 4) rfl))) ?_
 refine RL.callP rfl hH27 (c_scope_Fault _ _ (hsm) _ ((hs.mono hK).mono hH27.kw) ((hc.mono hK).mono hH27.kw) (hT.hp hH27)) (run_call2 call15 rfl rfl) ?_
 intro w28 hH29
 refine V (run_field underlying33 rfl isAgg3 rfl rfl) ?_
 refine V (run_neq rfl rfl) ?_
 refine RL.nil ?_
 refine CW.condP rfl (fun h31 => ?_) (fun h31 => ?_)
 ·refine SR ?_
  obtain ⟨Z32, hz33, hv34, -⟩ := (hH29.perm (((pC pR).trans pS).trans (pC pR))).frz (K)
  have hH35 : Hp _ w28 (_ :: _ :: _ :: _ :: _ :: (Z32 ++ (Z15 ++ []))) := hz33.zin (L := [_, _, _, _, _]) (L' := (Z15 ++ []))
  obtain ⟨Z36, hz37, hv38, -⟩ := (hH35.perm (((pC pR).trans pS).trans (pC pR))).frz (K)
  have hH39 : Hp _ w28 (_ :: _ :: _ :: _ :: (Z36 ++ (Z32 ++ (Z15 ++ [])))) := hz37.zin (L := [_, _, _, _]) (L' := (Z32 ++ (Z15 ++ [])))
  have hp40 : ScpV (Kz K (Z36 ++ (Z32 ++ (Z15 ++ [])))) ⟨v12, ls13, v14, s.vars⟩ := ⟨by simpa using hv34.mono (Le.zz (fun x hx => (List.mem_append_right _ (List.mem_append_left _ hx)))), by simpa [Scp.sc] using hv38.mono (Le.zz (fun x hx => (List.mem_append_left _ hx))), (hv17.mono (Le.zz (fun x hx => (List.mem_append_right _ (List.mem_append_right _ (List.mem_append_left _ hx)))))).each⟩
  refine V (run_ldA (cs := scpL (⟨v12, ls13, v14, s.vars⟩ : Scp)) underlying25 rfl rfl rfl (rangeAt_cells (hH39.blk (i := 0) rfl))) ?_
  refine RL.set hH39 (i := 1) rfl (run_stW (c' := (scpL ⟨v12, ls13, v14, s.vars⟩).toArray) rfl rfl rfl (scpL_one hp40) (hH39.blk (i := 1) rfl) rfl) ?_
  intro w41 hH42
  simp only [z0, z1] at hH42
  refine RL.nil ?_
  refine CW.ret ?_
  refine outCg Tryd.results19 rfl hH42 (i := 1) rfl underlying25 rfl rfl ⟨(Z36 ++ (Z32 ++ (Z15 ++ []))), (hH42.sub (sQ (sQ (sQ (sQ sR))))), ⟨v12, ls13, v14, s.vars⟩, rfl, ?_, ?_⟩
  ·show (⟨_, _⟩ : Sc) = _; first | (exfalso; omega) | (rw [add_0 ‹_›]; simp [Scp.sc, *]; done) | (rw [add_1 ‹_› (by omega)]; simp [Scp.sc, LatR.pl, *]; done) | (rw [add_2 ‹_› (by omega), hvk ‹_›]; simp [Scp.sc, ‹List.map LatR.pl _ = _›]; done) | (rw [add_2 ‹_› (by omega)]; simp [Scp.sc, *]; done) | (rw [add_3 (by omega) (by omega)]; simp [Scp.sc, *]; done)
  ·exact hp40
 ·refine CW.skip ?_
  refine CW.seq ?_
  refine SR ?_
  refine V (fA underlying45 0 rfl sizeOf3 rfl) ?_
  refine V (run_ld underlying3 rfl rfl (hH29.cell (i := 4) rfl (v := I _) rfl)) ?_
  refine RL.callP rfl hH29 (c_scope_lattice _  _) (run_call1 call27 rfl) ?_
  intro w43 hH44
  refine RL.nil ?_
  refine CW.condP rfl (fun h47 => ?_) (fun h47 => ?_)
  ·refine CW.regionS (by kernel_rfl) hH44 (sQ (sQ sR)) ?_
   intro w48 hH49
   refine AT 0 rfl (hH49.sub (sQ (sQ sR))) (fun w hS => fA underlying25 0 rfl sizeOf22 rfl) ?_
   refine AT 2 rfl (hH49.sub (sQ (sQ sR))) (fun w hS => fA underlying45 2 rfl sizeOf38 rfl) ?_
   refine AT 3 rfl (hH49.sub (sQ (sQ sR))) (fun w hS => fA underlying38 0 rfl sizeOf9 rfl) ?_
   refine AT 4 rfl (hH49.sub (sQ (sQ sR))) (fun w hS => run_ld underlying9 rfl rfl (hS.cell (i := 2) rfl (v := .string _) rfl)) ?_
   refine AT 5 rfl (hH49.sub (sQ (sQ sR))) (fun w hS => run_ldA (cs := scpL _) underlying25 rfl rfl rfl (rangeAt_cells (hS.blk (i := 3) rfl))) ?_
   refine AT 6 rfl (hH49.sub (sQ (sQ sR))) (fun w hS => run_ldA (cs := cmdL _) underlying45 rfl rfl rfl (rangeAt_cells (hS.blk (i := 2) rfl))) ?_
   refine AN.two 1 7 (by kernel_rfl) ?_ ?_
   ·refine AO.read rfl gnone rfl hH49 (sQ (sQ sR)) (run_ld underlying22 rfl rfl (hH49.cell (i := 0) rfl rfl)) ?_
    refine A1 7 ?_
    refine AO.callF rfl gnone rfl hH49 (sQ (sQ sR)) (c_scope_Shape K s c hsm _ (hK.trans hH49.kw) hs hc) (run_call2 call23 rfl rfl) ?_
    intro v54 w55 Z57 hH56 hp58
    have hH59 : Hp _ w55 (_ :: _ :: _ :: _ :: _ :: _ :: (Z57 ++ (Z15 ++ []))) := hH56.zin (L := [_, _, _, _, _, _]) (L' := (Z15 ++ []))
    obtain ⟨p60, rfl, psh61, pv62⟩ := hp58
    refine AT 8 rfl (hH59.sub (sQ (sQ (sP (sP (sP (sP (sA sR)))))))) (fun w hS => run_bld (vs := [(0, S _), (1, .agg (shpC p60))]) rfl (built_lat _ p60)) ?_
    refine A1 9 ?_
    refine AO.new rfl gnone rfl hH59 (sQ (sQ (sP (sP (sP (sP (sA sR))))))) (f := fun b => .slice (some ⟨b, 0, none⟩) 1 1) (run_mkRecs latL_len underlying22 rfl rfl rfl (l := [(⟨c.name.text, p60⟩ : LatR)]) rfl (by decide) (by decide) rfl) ?_
    intro b65 w63 hH64
    refine A1 10 ?_
    refine AO.app rfl gnone rfl hH64 (j := 2) rfl (fun _ => (sQ (sQ (sQ (sP (sP (sP (sP (sA sR))))))))) (Hp.slFlat latL_len hH64 (i := 0) (l := [(⟨c.name.text, p60⟩ : LatR)]) rfl (by simp [maxLen])) rfl rfl underlying22 rfl rfl (size := 3) (bytes := 48) rfl rfl rfl (by decide) (lats1_one pv62) (by simp only [List.length_cons, List.length_nil]; omega) (by simp only [maxLen, List.length_cons, List.length_nil]; omega) ?_
    intro v68 w66 hH67
    simp only [z0, z1] at hH67
    refine AT 11 rfl (hH67.sub (sQ (sQ (sQ (sP (sP (sP (sP (sA sR))))))))) (fun w hS => fA underlying25 0 rfl sizeOf22 rfl) ?_
    refine A1 12 ?_
    refine AO.set rfl gnone hH67 (j := 1) rfl (sQ (sQ (sQ (sP (sP (sP (sP (sA sR)))))))) (run_st rfl rfl (v := v68) rfl (row_cells (hH67.get (i := 2) rfl)).1 (row_cells (hH67.get (i := 2) rfl)).2 (hH67.blk (i := 1) rfl) (by first | (show 0 < 2; decide) | decide | (simp only [List.size_toArray, scpL_len]; decide) | simp)) ?_
    intro w71 hH72
    simp only [z0, z1] at hH72
    refine AD ?_
    refine CW.seq ?_
    refine SR ?_
    refine V (fA underlying45 0 rfl sizeOf3 rfl) ?_
    refine V (run_ld underlying3 rfl rfl (hH72.cell (i := 5) rfl (v := I _) rfl)) ?_
    refine RL.callP rfl hH72 (c_scope_variables _  _) (run_call1 call28 rfl) ?_
    intro w73 hH74
    refine RL.nil ?_
    refine CW.condP rfl (fun h77 => ?_) (fun h77 => ?_)
    ·refine SR ?_
     refine V (aV (I 1) rfl) ?_
     refine RL.nil ?_
     refine CW.cutG (G := Unit) hH74 [6, 37, 38, 39] (fun (L : List Ent) (_u : Unit) => L) (fun (_u : Unit) s' => (s' 6 = I (kindF c))) ?_ ?_
     ·refine SR ?_
      refine V (fA underlying45 0 rfl sizeOf3 rfl) ?_
      refine V (run_ld underlying3 rfl rfl (hH74.cell (i := 5) rfl (v := I _) rfl)) ?_
      refine V (run_eql rfl rfl) ?_
      refine RL.nil ?_
      refine CW.condP rfl (fun h79 => ?_) (fun h79 => ?_)
      ·refine CW.region ?_
       refine V (aV (I 2) rfl) ?_
       refine RL.nil ?_
       refine ⟨((Fr.refl _ _)).u4, (), hH74, (congrArg I ?_)⟩
       ·(rw [kindF]; split <;> omega)
      ·refine CW.skip ?_
       refine ⟨((Fr.refl _ _)).u1.u1.u1, (), hH74, (congrArg I ?_)⟩
       ·(rw [kindF]; split <;> omega)
     ·rintro _u sg80 w80 fr80 hH80 e6_80
      have e2_80 : sg80 2 = Pn _ _ := (fr80 2 rfl).trans rfl
      have e3_80 : sg80 3 = Pn _ _ := (fr80 3 rfl).trans rfl
      have e4_80 : sg80 4 = Pn _ _ := (fr80 4 rfl).trans rfl
      have e5_80 : sg80 5 = Pn _ _ := (fr80 5 rfl).trans rfl
      refine SR ?_
      refine V (run_ldA (cs := scpL _) underlying25 rfl rfl e2_80 (rangeAt_cells (hH80.blk (i := 6) rfl))) ?_
      refine V (fA underlying45 2 rfl sizeOf38 e3_80) ?_
      refine V (fA underlying38 0 rfl sizeOf9 rfl) ?_
      refine V (run_ld underlying9 rfl rfl (hH80.cell (i := 5) rfl (v := .string _) rfl)) ?_
      refine RL.callP rfl hH80 (c_scope_Find _ _  _ ((hs.mono hK).mono hH80.kw)) (run_call2 call9 rfl rfl) ?_
      intro w81 hH82
      refine V (run_move (by conv => lhs; whnf)) ?_
      refine V (run_extract rfl (v := I _) rfl) ?_
      refine V (run_extract rfl (v := I _) rfl) ?_
      refine V (aV (I _) rfl) ?_
      refine V (aV (I _) rfl) ?_
      refine RL.nil ?_
      refine SR ?_
      refine V (fA underlying45 4 rfl sizeOf39 e3_80) ?_
      refine V (run_ldV ((hc.mono hK).names.sl.hp hH82) underlying39 rfl rfl (hH82.cell (i := 5) rfl rfl)) ?_
      refine V (run_lenSl ((hc.mono hK).names.sl.hp hH82) rfl underlying39 rfl) ?_
      refine V (mV (I 0) rfl) ?_
      refine RL.nil ?_
      refine CW.block ?_
      refine CW.loop (G := (Int) × (Value) × (List VarR)) (fun (⟨k, fv1, vs⟩ : (Int) × (Value) × (List VarR)) s' w' => (Fr [10, 51, 52, 53, 54, 55, 56, 57, 58, 59, 60, 61, 62, 63, 64, 65] _ s') ∧ (Hp w w' (_ :: .blk b25 (.cells (#[v68, fv1]) 25 (0, 0)) :: _ :: .row fv1 60 3 (vs.length) (vs.flatMap varL) :: _)) ∧ (s' 51 = I k) ∧ (0 ≤ k) ∧ (k ≤ c.names.length) ∧ (vs = s.vars ++ (varsF s c).take k.toNat) ∧ ((vs.length : Int) = s.vars.length + k)) (fun (⟨k, fv1, vs⟩ : (Int) × (Value) × (List VarR)) => (c.names.length - k).toNat) ((0, (v14 : Value), s.vars)) ⟨Fr.refl _ _, hH82, rfl, (by omega), (by omega), (List.append_nil _).symm, (by simp)⟩ ?_
      rintro ⟨k, fv1, vs⟩ sg83 w83 ⟨fr83, hH83, e51_83, h0, hk, hvs, hvl⟩
      have e4_83 := (fr83 4 rfl).trans e4_80
      have e5_83 := (fr83 5 rfl).trans e5_80
      have e6_83 := (fr83 6 rfl).trans e6_80
      have e7_83 : sg83 7 = I _ := (fr83 7 rfl).trans rfl
      have e49_83 := (fr83 49 rfl).trans (by conv => lhs; whnf)
      have e50_83 : sg83 50 = I _ := (fr83 50 rfl).trans rfl
      have hvk : ¬ k < c.names.length → vs = s.vars ++ varsF s c := fun h => by rw [hvs, List.take_of_length_le (by rw [varsF_len]; omega)]
      refine SR ?_
      refine V (run_lss e51_83 e50_83) ?_
      refine RL.nil ?_
      refine CW.seq ?_
      refine CW.condP rfl (fun h85 => ?_) (fun h85 => ?_)
      ·refine CW.skip ?_
       refine CW.seq ?_
       refine CW.block ?_
       refine SR ?_
       refine V (run_indexAddrS ((hc.mono hK).names.sl.hp hH83) underlying39 sizeOf38 e49_83 e51_83 (by omega)) ?_
       refine V (run_ldE (dv := wd0) wdL_len ((hc.mono hK).names.sl.hp hH83) underlying38 rfl rfl rfl (by omega)) ?_
       refine RL.new rfl hH83 (f := fun b => (.pointer (some ⟨b, 0, none⟩))) (run_alloc Tryd.zeroValue38) ?_
       intro b88 w86 hH87
       refine RL.set hH87 (i := 0) rfl (run_stW (c' := (wdL _).toArray) rfl rfl rfl (by simp [wdL, Value.oneCell']) (hH87.blk (i := 0) rfl) rfl) ?_
       intro w89 hH90
       simp only [z0, z1] at hH90
       refine RL.nil ?_
       refine CW.region ?_
       refine V (fA underlying25 1 rfl sizeOf23 e5_83) ?_
       refine V (run_ld underlying23 rfl rfl (hH90.cell (i := 2) rfl rfl)) ?_
       refine V (fA underlying38 0 rfl sizeOf9 rfl) ?_
       refine V (run_ld underlying9 rfl rfl (hH90.cell (i := 0) rfl (v := .string _) rfl)) ?_
       refine V (run_move e6_83) ?_
       refine V (run_move e7_83) ?_
       refine V (run_bld (vs := [(0, S _), (1, I _), (2, I _)]) rfl (built_varL _ _ _)) ?_
       refine RL.new rfl hH90 (f := fun b => (.slice (some ⟨b, 0, none⟩) 1 1)) (run_mkRecs varL_len underlying23 rfl rfl rfl (l := [(⟨(c.names.getD k.toNat wd0).text, kindF c, findLat s c.name.text⟩ : VarR)]) rfl (by decide) (by decide) rfl) ?_
       intro b93 w91 hH92
       refine RL.app rfl hH92 (i := 5) rfl (Hp.slFlat varL_len hH92 (i := 0) (l := [(⟨(c.names.getD k.toNat wd0).text, kindF c, findLat s c.name.text⟩ : VarR)]) rfl (by simp [maxLen])) rfl rfl underlying23 rfl rfl (size := 3) (bytes := 32) rfl rfl rfl (by decide) (by simp [varL, Value.oneCell']) (by simp only [List.length_cons, List.length_nil]; omega) (by simp only [maxLen, List.length_cons, List.length_nil]; omega) ?_
       intro v94 w95 hH96
       simp only [z0, z1] at hH96
       refine V (fA underlying25 1 rfl sizeOf23 e5_83) ?_
       refine RL.set hH96 (i := 3) rfl (run_st rfl rfl (v := v94) rfl (row_cells (hH96.get (i := 5) rfl)).1 (row_cells (hH96.get (i := 5) rfl)).2 (hH96.blk (i := 3) rfl) (by first | (show 1 < 2; decide) | decide | (simp only [List.size_toArray, scpL_len]; decide) | simp)) ?_
       intro w97 hH98
       simp only [z0, z1] at hH98
       refine RL.nil ?_
       refine CW.region ?_
       refine V (run_add e51_83 rfl (by omega)) ?_
       refine V (mV (I _) rfl) ?_
       refine RL.nil ?_
       refine ⟨(k + 1, v94, (vs ++ [⟨(c.names.getD k.toNat wd0).text, kindF c, findLat s c.name.text⟩])), ?_, fr83.u4.u4.u4.u4, (Hp.conv (hH98.sub (sQ (sQ sR))) (by first | rfl | simp)), (congrArg I (by first | rfl | omega)), ?_, ?_, ?_, ?_⟩
       ·((try dsimp only); omega)
       ·omega
       ·omega
       ·rw [vars_next h0 ‹k < _›, hvs, List.append_assoc]
       ·simp only [List.length_append, List.length_singleton]; omega
      ·refine CW.exit (id := 0) rfl ?_
       refine SR ?_
       obtain ⟨Z99, hz100, hv101, -⟩ := (hH83.perm (((pC ((pC pR).trans pS)).trans pS).trans (pC pR))).frz (K)
       have hH102 : Hp _ w83 (_ :: _ :: _ :: _ :: _ :: _ :: (Z99 ++ (Z57 ++ (Z15 ++ [])))) := hz100.zin (L := [_, _, _, _, _, _]) (L' := (Z57 ++ (Z15 ++ [])))
       obtain ⟨Z103, hz104, hv105, -⟩ := (hH102.perm (((pC ((pC pR).trans pS)).trans pS).trans (pC pR))).frz (K)
       have hH106 : Hp _ w83 (_ :: _ :: _ :: _ :: _ :: (Z103 ++ (Z99 ++ (Z57 ++ (Z15 ++ []))))) := hz104.zin (L := [_, _, _, _, _]) (L' := (Z99 ++ (Z57 ++ (Z15 ++ []))))
       have hp107 : ScpV (Kz K (Z103 ++ (Z99 ++ (Z57 ++ (Z15 ++ []))))) ⟨v68, (ls13 ++ [⟨c.name.text, p60⟩]), fv1, vs⟩ := ⟨by simpa using hv101.mono (Le.zz (fun x hx => (List.mem_append_right _ (List.mem_append_left _ hx)))), by simpa [Scp.sc] using hv105.mono (Le.zz (fun x hx => (List.mem_append_left _ hx))), ((hv17.mono (Le.zz (fun x hx => (List.mem_append_right _ (List.mem_append_right _ (List.mem_append_right _ (List.mem_append_left _ hx))))))).snoc (pv62.mono (Le.zz (fun x hx => (List.mem_append_right _ (List.mem_append_right _ (List.mem_append_left _ hx))))))).each⟩
       refine V (run_ldA (cs := scpL (⟨v68, (ls13 ++ [⟨c.name.text, p60⟩]), fv1, vs⟩ : Scp)) underlying25 rfl rfl e5_83 (rangeAt_cells (hH106.blk (i := 1) rfl))) ?_
       refine RL.set hH106 (i := 2) rfl (run_stW (c' := (scpL ⟨v68, (ls13 ++ [⟨c.name.text, p60⟩]), fv1, vs⟩).toArray) rfl e4_83 rfl (scpL_one hp107) (hH106.blk (i := 2) rfl) rfl) ?_
       intro w108 hH109
       simp only [z0, z1] at hH109
       refine RL.nil ?_
       refine CW.ret ?_
       refine outCg Tryd.results19 e4_83 hH109 (i := 2) rfl underlying25 rfl rfl ⟨(Z103 ++ (Z99 ++ (Z57 ++ (Z15 ++ [])))), (hH109.sub (sQ (sQ (sQ (sQ (sQ sR)))))), ⟨v68, (ls13 ++ [⟨c.name.text, p60⟩]), fv1, vs⟩, rfl, ?_, ?_⟩
       ·show (⟨_, _⟩ : Sc) = _; first | (exfalso; omega) | (rw [add_0 ‹_›]; simp [Scp.sc, *]; done) | (rw [add_1 ‹_› (by omega)]; simp [Scp.sc, LatR.pl, *]; done) | (rw [add_2 ‹_› (by omega), hvk ‹_›]; simp [Scp.sc, ‹List.map LatR.pl _ = _›]; done) | (rw [add_2 ‹_› (by omega)]; simp [Scp.sc, *]; done) | (rw [add_3 (by omega) (by omega)]; simp [Scp.sc, *]; done)
       ·exact hp107
    ·refine CW.skip ?_
     refine SR ?_
     obtain ⟨Z110, hz111, hv112, -⟩ := (hH74.perm (((pC ((pC pR).trans pS)).trans pS).trans (pC pR))).frz (K)
     have hH113 : Hp _ w73 (_ :: _ :: _ :: _ :: _ :: _ :: (Z110 ++ (Z57 ++ (Z15 ++ [])))) := hz111.zin (L := [_, _, _, _, _, _]) (L' := (Z57 ++ (Z15 ++ [])))
     obtain ⟨Z114, hz115, hv116, -⟩ := (hH113.perm (((pC ((pC pR).trans pS)).trans pS).trans (pC pR))).frz (K)
     have hH117 : Hp _ w73 (_ :: _ :: _ :: _ :: _ :: (Z114 ++ (Z110 ++ (Z57 ++ (Z15 ++ []))))) := hz115.zin (L := [_, _, _, _, _]) (L' := (Z110 ++ (Z57 ++ (Z15 ++ []))))
     have hp118 : ScpV (Kz K (Z114 ++ (Z110 ++ (Z57 ++ (Z15 ++ []))))) ⟨v68, (ls13 ++ [⟨c.name.text, p60⟩]), v14, s.vars⟩ := ⟨by simpa using hv112.mono (Le.zz (fun x hx => (List.mem_append_right _ (List.mem_append_left _ hx)))), by simpa [Scp.sc] using hv116.mono (Le.zz (fun x hx => (List.mem_append_left _ hx))), ((hv17.mono (Le.zz (fun x hx => (List.mem_append_right _ (List.mem_append_right _ (List.mem_append_right _ (List.mem_append_left _ hx))))))).snoc (pv62.mono (Le.zz (fun x hx => (List.mem_append_right _ (List.mem_append_right _ (List.mem_append_left _ hx))))))).each⟩
     refine V (run_ldA (cs := scpL (⟨v68, (ls13 ++ [⟨c.name.text, p60⟩]), v14, s.vars⟩ : Scp)) underlying25 rfl rfl rfl (rangeAt_cells (hH117.blk (i := 1) rfl))) ?_
     refine RL.set hH117 (i := 2) rfl (run_stW (c' := (scpL ⟨v68, (ls13 ++ [⟨c.name.text, p60⟩]), v14, s.vars⟩).toArray) rfl rfl rfl (scpL_one hp118) (hH117.blk (i := 2) rfl) rfl) ?_
     intro w119 hH120
     simp only [z0, z1] at hH120
     refine RL.nil ?_
     refine CW.ret ?_
     refine outCg Tryd.results19 rfl hH120 (i := 2) rfl underlying25 rfl rfl ⟨(Z114 ++ (Z110 ++ (Z57 ++ (Z15 ++ [])))), (hH120.sub (sQ (sQ (sQ (sQ (sQ sR)))))), ⟨v68, (ls13 ++ [⟨c.name.text, p60⟩]), v14, s.vars⟩, rfl, ?_, ?_⟩
     ·show (⟨_, _⟩ : Sc) = _; first | (exfalso; omega) | (rw [add_0 ‹_›]; simp [Scp.sc, *]; done) | (rw [add_1 ‹_› (by omega)]; simp [Scp.sc, LatR.pl, *]; done) | (rw [add_2 ‹_› (by omega), hvk ‹_›]; simp [Scp.sc, ‹List.map LatR.pl _ = _›]; done) | (rw [add_2 ‹_› (by omega)]; simp [Scp.sc, *]; done) | (rw [add_3 (by omega) (by omega)]; simp [Scp.sc, *]; done)
     ·exact hp118
   ·refine AO.callF rfl gnone rfl hH49 (sQ (sQ sR)) (c_scope_Shape K s c hsm _ (hK.trans hH49.kw) hs hc) (run_call2 call23 rfl rfl) ?_
    intro v123 w124 Z126 hH125 hp127
    have hH128 : Hp _ w124 (_ :: _ :: _ :: _ :: _ :: _ :: (Z126 ++ (Z15 ++ []))) := hH125.zin (L := [_, _, _, _, _, _]) (L' := (Z15 ++ []))
    obtain ⟨p129, rfl, psh130, pv131⟩ := hp127
    refine AT 8 rfl (hH128.sub (sQ (sQ (sP (sP (sP (sP (sA sR)))))))) (fun w hS => run_bld (vs := [(0, S _), (1, .agg (shpC p129))]) rfl (built_lat _ p129)) ?_
    refine AN.two 1 9 (by kernel_rfl) ?_ ?_
    ·refine AO.read rfl gnone rfl hH128 (sQ (sQ (sP (sP (sP (sP (sA sR))))))) (run_ld underlying22 rfl rfl (hH128.cell (i := 0) rfl rfl)) ?_
     refine A1 9 ?_
     refine AO.new rfl gnone rfl hH128 (sQ (sQ (sP (sP (sP (sP (sA sR))))))) (f := fun b => .slice (some ⟨b, 0, none⟩) 1 1) (run_mkRecs latL_len underlying22 rfl rfl rfl (l := [(⟨c.name.text, p129⟩ : LatR)]) rfl (by decide) (by decide) rfl) ?_
     intro b136 w134 hH135
     refine A1 10 ?_
     refine AO.app rfl gnone rfl hH135 (j := 2) rfl (fun _ => (sQ (sQ (sQ (sP (sP (sP (sP (sA sR))))))))) (Hp.slFlat latL_len hH135 (i := 0) (l := [(⟨c.name.text, p129⟩ : LatR)]) rfl (by simp [maxLen])) rfl rfl underlying22 rfl rfl (size := 3) (bytes := 48) rfl rfl rfl (by decide) (lats1_one pv131) (by simp only [List.length_cons, List.length_nil]; omega) (by simp only [maxLen, List.length_cons, List.length_nil]; omega) ?_
     intro v139 w137 hH138
     simp only [z0, z1] at hH138
     refine AT 11 rfl (hH138.sub (sQ (sQ (sQ (sP (sP (sP (sP (sA sR))))))))) (fun w hS => fA underlying25 0 rfl sizeOf22 rfl) ?_
     refine A1 12 ?_
     refine AO.set rfl gnone hH138 (j := 1) rfl (sQ (sQ (sQ (sP (sP (sP (sP (sA sR)))))))) (run_st rfl rfl (v := v139) rfl (row_cells (hH138.get (i := 2) rfl)).1 (row_cells (hH138.get (i := 2) rfl)).2 (hH138.blk (i := 1) rfl) (by first | (show 0 < 2; decide) | decide | (simp only [List.size_toArray, scpL_len]; decide) | simp)) ?_
     intro w142 hH143
     simp only [z0, z1] at hH143
     refine AD ?_
     refine CW.seq ?_
     refine SR ?_
     refine V (fA underlying45 0 rfl sizeOf3 rfl) ?_
     refine V (run_ld underlying3 rfl rfl (hH143.cell (i := 5) rfl (v := I _) rfl)) ?_
     refine RL.callP rfl hH143 (c_scope_variables _  _) (run_call1 call28 rfl) ?_
     intro w144 hH145
     refine RL.nil ?_
     refine CW.condP rfl (fun h148 => ?_) (fun h148 => ?_)
     ·refine SR ?_
      refine V (aV (I 1) rfl) ?_
      refine RL.nil ?_
      refine CW.cutG (G := Unit) hH145 [6, 37, 38, 39] (fun (L : List Ent) (_u : Unit) => L) (fun (_u : Unit) s' => (s' 6 = I (kindF c))) ?_ ?_
      ·refine SR ?_
       refine V (fA underlying45 0 rfl sizeOf3 rfl) ?_
       refine V (run_ld underlying3 rfl rfl (hH145.cell (i := 5) rfl (v := I _) rfl)) ?_
       refine V (run_eql rfl rfl) ?_
       refine RL.nil ?_
       refine CW.condP rfl (fun h150 => ?_) (fun h150 => ?_)
       ·refine CW.region ?_
        refine V (aV (I 2) rfl) ?_
        refine RL.nil ?_
        refine ⟨((Fr.refl _ _)).u4, (), hH145, (congrArg I ?_)⟩
        ·(rw [kindF]; split <;> omega)
       ·refine CW.skip ?_
        refine ⟨((Fr.refl _ _)).u1.u1.u1, (), hH145, (congrArg I ?_)⟩
        ·(rw [kindF]; split <;> omega)
      ·rintro _u sg151 w151 fr151 hH151 e6_151
       have e2_151 : sg151 2 = Pn _ _ := (fr151 2 rfl).trans rfl
       have e3_151 : sg151 3 = Pn _ _ := (fr151 3 rfl).trans rfl
       have e4_151 : sg151 4 = Pn _ _ := (fr151 4 rfl).trans rfl
       have e5_151 : sg151 5 = Pn _ _ := (fr151 5 rfl).trans rfl
       refine SR ?_
       refine V (run_ldA (cs := scpL _) underlying25 rfl rfl e2_151 (rangeAt_cells (hH151.blk (i := 6) rfl))) ?_
       refine V (fA underlying45 2 rfl sizeOf38 e3_151) ?_
       refine V (fA underlying38 0 rfl sizeOf9 rfl) ?_
       refine V (run_ld underlying9 rfl rfl (hH151.cell (i := 5) rfl (v := .string _) rfl)) ?_
       refine RL.callP rfl hH151 (c_scope_Find _ _  _ ((hs.mono hK).mono hH151.kw)) (run_call2 call9 rfl rfl) ?_
       intro w152 hH153
       refine V (run_move (by conv => lhs; whnf)) ?_
       refine V (run_extract rfl (v := I _) rfl) ?_
       refine V (run_extract rfl (v := I _) rfl) ?_
       refine V (aV (I _) rfl) ?_
       refine V (aV (I _) rfl) ?_
       refine RL.nil ?_
       refine SR ?_
       refine V (fA underlying45 4 rfl sizeOf39 e3_151) ?_
       refine V (run_ldV ((hc.mono hK).names.sl.hp hH153) underlying39 rfl rfl (hH153.cell (i := 5) rfl rfl)) ?_
       refine V (run_lenSl ((hc.mono hK).names.sl.hp hH153) rfl underlying39 rfl) ?_
       refine V (mV (I 0) rfl) ?_
       refine RL.nil ?_
       refine CW.block ?_
       refine CW.loop (G := (Int) × (Value) × (List VarR)) (fun (⟨k, fv1, vs⟩ : (Int) × (Value) × (List VarR)) s' w' => (Fr [10, 51, 52, 53, 54, 55, 56, 57, 58, 59, 60, 61, 62, 63, 64, 65] _ s') ∧ (Hp w w' (_ :: .blk b25 (.cells (#[v139, fv1]) 25 (0, 0)) :: _ :: .row fv1 60 3 (vs.length) (vs.flatMap varL) :: _)) ∧ (s' 51 = I k) ∧ (0 ≤ k) ∧ (k ≤ c.names.length) ∧ (vs = s.vars ++ (varsF s c).take k.toNat) ∧ ((vs.length : Int) = s.vars.length + k)) (fun (⟨k, fv1, vs⟩ : (Int) × (Value) × (List VarR)) => (c.names.length - k).toNat) ((0, (v14 : Value), s.vars)) ⟨Fr.refl _ _, hH153, rfl, (by omega), (by omega), (List.append_nil _).symm, (by simp)⟩ ?_
       rintro ⟨k, fv1, vs⟩ sg154 w154 ⟨fr154, hH154, e51_154, h0, hk, hvs, hvl⟩
       have e4_154 := (fr154 4 rfl).trans e4_151
       have e5_154 := (fr154 5 rfl).trans e5_151
       have e6_154 := (fr154 6 rfl).trans e6_151
       have e7_154 : sg154 7 = I _ := (fr154 7 rfl).trans rfl
       have e49_154 := (fr154 49 rfl).trans (by conv => lhs; whnf)
       have e50_154 : sg154 50 = I _ := (fr154 50 rfl).trans rfl
       have hvk : ¬ k < c.names.length → vs = s.vars ++ varsF s c := fun h => by rw [hvs, List.take_of_length_le (by rw [varsF_len]; omega)]
       refine SR ?_
       refine V (run_lss e51_154 e50_154) ?_
       refine RL.nil ?_
       refine CW.seq ?_
       refine CW.condP rfl (fun h156 => ?_) (fun h156 => ?_)
       ·refine CW.skip ?_
        refine CW.seq ?_
        refine CW.block ?_
        refine SR ?_
        refine V (run_indexAddrS ((hc.mono hK).names.sl.hp hH154) underlying39 sizeOf38 e49_154 e51_154 (by omega)) ?_
        refine V (run_ldE (dv := wd0) wdL_len ((hc.mono hK).names.sl.hp hH154) underlying38 rfl rfl rfl (by omega)) ?_
        refine RL.new rfl hH154 (f := fun b => (.pointer (some ⟨b, 0, none⟩))) (run_alloc Tryd.zeroValue38) ?_
        intro b159 w157 hH158
        refine RL.set hH158 (i := 0) rfl (run_stW (c' := (wdL _).toArray) rfl rfl rfl (by simp [wdL, Value.oneCell']) (hH158.blk (i := 0) rfl) rfl) ?_
        intro w160 hH161
        simp only [z0, z1] at hH161
        refine RL.nil ?_
        refine CW.region ?_
        refine V (fA underlying25 1 rfl sizeOf23 e5_154) ?_
        refine V (run_ld underlying23 rfl rfl (hH161.cell (i := 2) rfl rfl)) ?_
        refine V (fA underlying38 0 rfl sizeOf9 rfl) ?_
        refine V (run_ld underlying9 rfl rfl (hH161.cell (i := 0) rfl (v := .string _) rfl)) ?_
        refine V (run_move e6_154) ?_
        refine V (run_move e7_154) ?_
        refine V (run_bld (vs := [(0, S _), (1, I _), (2, I _)]) rfl (built_varL _ _ _)) ?_
        refine RL.new rfl hH161 (f := fun b => (.slice (some ⟨b, 0, none⟩) 1 1)) (run_mkRecs varL_len underlying23 rfl rfl rfl (l := [(⟨(c.names.getD k.toNat wd0).text, kindF c, findLat s c.name.text⟩ : VarR)]) rfl (by decide) (by decide) rfl) ?_
        intro b164 w162 hH163
        refine RL.app rfl hH163 (i := 5) rfl (Hp.slFlat varL_len hH163 (i := 0) (l := [(⟨(c.names.getD k.toNat wd0).text, kindF c, findLat s c.name.text⟩ : VarR)]) rfl (by simp [maxLen])) rfl rfl underlying23 rfl rfl (size := 3) (bytes := 32) rfl rfl rfl (by decide) (by simp [varL, Value.oneCell']) (by simp only [List.length_cons, List.length_nil]; omega) (by simp only [maxLen, List.length_cons, List.length_nil]; omega) ?_
        intro v165 w166 hH167
        simp only [z0, z1] at hH167
        refine V (fA underlying25 1 rfl sizeOf23 e5_154) ?_
        refine RL.set hH167 (i := 3) rfl (run_st rfl rfl (v := v165) rfl (row_cells (hH167.get (i := 5) rfl)).1 (row_cells (hH167.get (i := 5) rfl)).2 (hH167.blk (i := 3) rfl) (by first | (show 1 < 2; decide) | decide | (simp only [List.size_toArray, scpL_len]; decide) | simp)) ?_
        intro w168 hH169
        simp only [z0, z1] at hH169
        refine RL.nil ?_
        refine CW.region ?_
        refine V (run_add e51_154 rfl (by omega)) ?_
        refine V (mV (I _) rfl) ?_
        refine RL.nil ?_
        refine ⟨(k + 1, v165, (vs ++ [⟨(c.names.getD k.toNat wd0).text, kindF c, findLat s c.name.text⟩])), ?_, fr154.u4.u4.u4.u4, (Hp.conv (hH169.sub (sQ (sQ sR))) (by first | rfl | simp)), (congrArg I (by first | rfl | omega)), ?_, ?_, ?_, ?_⟩
        ·((try dsimp only); omega)
        ·omega
        ·omega
        ·rw [vars_next h0 ‹k < _›, hvs, List.append_assoc]
        ·simp only [List.length_append, List.length_singleton]; omega
       ·refine CW.exit (id := 0) rfl ?_
        refine SR ?_
        obtain ⟨Z170, hz171, hv172, -⟩ := (hH154.perm (((pC ((pC pR).trans pS)).trans pS).trans (pC pR))).frz (K)
        have hH173 : Hp _ w154 (_ :: _ :: _ :: _ :: _ :: _ :: (Z170 ++ (Z126 ++ (Z15 ++ [])))) := hz171.zin (L := [_, _, _, _, _, _]) (L' := (Z126 ++ (Z15 ++ [])))
        obtain ⟨Z174, hz175, hv176, -⟩ := (hH173.perm (((pC ((pC pR).trans pS)).trans pS).trans (pC pR))).frz (K)
        have hH177 : Hp _ w154 (_ :: _ :: _ :: _ :: _ :: (Z174 ++ (Z170 ++ (Z126 ++ (Z15 ++ []))))) := hz175.zin (L := [_, _, _, _, _]) (L' := (Z170 ++ (Z126 ++ (Z15 ++ []))))
        have hp178 : ScpV (Kz K (Z174 ++ (Z170 ++ (Z126 ++ (Z15 ++ []))))) ⟨v139, (ls13 ++ [⟨c.name.text, p129⟩]), fv1, vs⟩ := ⟨by simpa using hv172.mono (Le.zz (fun x hx => (List.mem_append_right _ (List.mem_append_left _ hx)))), by simpa [Scp.sc] using hv176.mono (Le.zz (fun x hx => (List.mem_append_left _ hx))), ((hv17.mono (Le.zz (fun x hx => (List.mem_append_right _ (List.mem_append_right _ (List.mem_append_right _ (List.mem_append_left _ hx))))))).snoc (pv131.mono (Le.zz (fun x hx => (List.mem_append_right _ (List.mem_append_right _ (List.mem_append_left _ hx))))))).each⟩
        refine V (run_ldA (cs := scpL (⟨v139, (ls13 ++ [⟨c.name.text, p129⟩]), fv1, vs⟩ : Scp)) underlying25 rfl rfl e5_154 (rangeAt_cells (hH177.blk (i := 1) rfl))) ?_
        refine RL.set hH177 (i := 2) rfl (run_stW (c' := (scpL ⟨v139, (ls13 ++ [⟨c.name.text, p129⟩]), fv1, vs⟩).toArray) rfl e4_154 rfl (scpL_one hp178) (hH177.blk (i := 2) rfl) rfl) ?_
        intro w179 hH180
        simp only [z0, z1] at hH180
        refine RL.nil ?_
        refine CW.ret ?_
        refine outCg Tryd.results19 e4_154 hH180 (i := 2) rfl underlying25 rfl rfl ⟨(Z174 ++ (Z170 ++ (Z126 ++ (Z15 ++ [])))), (hH180.sub (sQ (sQ (sQ (sQ (sQ sR)))))), ⟨v139, (ls13 ++ [⟨c.name.text, p129⟩]), fv1, vs⟩, rfl, ?_, ?_⟩
        ·show (⟨_, _⟩ : Sc) = _; first | (exfalso; omega) | (rw [add_0 ‹_›]; simp [Scp.sc, *]; done) | (rw [add_1 ‹_› (by omega)]; simp [Scp.sc, LatR.pl, *]; done) | (rw [add_2 ‹_› (by omega), hvk ‹_›]; simp [Scp.sc, ‹List.map LatR.pl _ = _›]; done) | (rw [add_2 ‹_› (by omega)]; simp [Scp.sc, *]; done) | (rw [add_3 (by omega) (by omega)]; simp [Scp.sc, *]; done)
        ·exact hp178
     ·refine CW.skip ?_
      refine SR ?_
      obtain ⟨Z181, hz182, hv183, -⟩ := (hH145.perm (((pC ((pC pR).trans pS)).trans pS).trans (pC pR))).frz (K)
      have hH184 : Hp _ w144 (_ :: _ :: _ :: _ :: _ :: _ :: (Z181 ++ (Z126 ++ (Z15 ++ [])))) := hz182.zin (L := [_, _, _, _, _, _]) (L' := (Z126 ++ (Z15 ++ [])))
      obtain ⟨Z185, hz186, hv187, -⟩ := (hH184.perm (((pC ((pC pR).trans pS)).trans pS).trans (pC pR))).frz (K)
      have hH188 : Hp _ w144 (_ :: _ :: _ :: _ :: _ :: (Z185 ++ (Z181 ++ (Z126 ++ (Z15 ++ []))))) := hz186.zin (L := [_, _, _, _, _]) (L' := (Z181 ++ (Z126 ++ (Z15 ++ []))))
      have hp189 : ScpV (Kz K (Z185 ++ (Z181 ++ (Z126 ++ (Z15 ++ []))))) ⟨v139, (ls13 ++ [⟨c.name.text, p129⟩]), v14, s.vars⟩ := ⟨by simpa using hv183.mono (Le.zz (fun x hx => (List.mem_append_right _ (List.mem_append_left _ hx)))), by simpa [Scp.sc] using hv187.mono (Le.zz (fun x hx => (List.mem_append_left _ hx))), ((hv17.mono (Le.zz (fun x hx => (List.mem_append_right _ (List.mem_append_right _ (List.mem_append_right _ (List.mem_append_left _ hx))))))).snoc (pv131.mono (Le.zz (fun x hx => (List.mem_append_right _ (List.mem_append_right _ (List.mem_append_left _ hx))))))).each⟩
      refine V (run_ldA (cs := scpL (⟨v139, (ls13 ++ [⟨c.name.text, p129⟩]), v14, s.vars⟩ : Scp)) underlying25 rfl rfl rfl (rangeAt_cells (hH188.blk (i := 1) rfl))) ?_
      refine RL.set hH188 (i := 2) rfl (run_stW (c' := (scpL ⟨v139, (ls13 ++ [⟨c.name.text, p129⟩]), v14, s.vars⟩).toArray) rfl rfl rfl (scpL_one hp189) (hH188.blk (i := 2) rfl) rfl) ?_
      intro w190 hH191
      simp only [z0, z1] at hH191
      refine RL.nil ?_
      refine CW.ret ?_
      refine outCg Tryd.results19 rfl hH191 (i := 2) rfl underlying25 rfl rfl ⟨(Z185 ++ (Z181 ++ (Z126 ++ (Z15 ++ [])))), (hH191.sub (sQ (sQ (sQ (sQ (sQ sR)))))), ⟨v139, (ls13 ++ [⟨c.name.text, p129⟩]), v14, s.vars⟩, rfl, ?_, ?_⟩
      ·show (⟨_, _⟩ : Sc) = _; first | (exfalso; omega) | (rw [add_0 ‹_›]; simp [Scp.sc, *]; done) | (rw [add_1 ‹_› (by omega)]; simp [Scp.sc, LatR.pl, *]; done) | (rw [add_2 ‹_› (by omega), hvk ‹_›]; simp [Scp.sc, ‹List.map LatR.pl _ = _›]; done) | (rw [add_2 ‹_› (by omega)]; simp [Scp.sc, *]; done) | (rw [add_3 (by omega) (by omega)]; simp [Scp.sc, *]; done)
      ·exact hp189
    ·refine AO.new rfl gnone rfl hH128 (sQ (sQ (sP (sP (sP (sP (sA sR))))))) (f := fun b => .slice (some ⟨b, 0, none⟩) 1 1) (run_mkRecs latL_len underlying22 rfl rfl rfl (l := [(⟨c.name.text, p129⟩ : LatR)]) rfl (by decide) (by decide) rfl) ?_
     intro b194 w192 hH193
     refine A1 1 ?_
     refine AO.read rfl gnone rfl hH193 (sQ (sQ (sQ (sP (sP (sP (sP (sA sR)))))))) (run_ld underlying22 rfl rfl (hH193.cell (i := 1) rfl rfl)) ?_
     refine A1 10 ?_
     refine AO.app rfl gnone rfl hH193 (j := 2) rfl (fun _ => (sQ (sQ (sQ (sP (sP (sP (sP (sA sR))))))))) (Hp.slFlat latL_len hH193 (i := 0) (l := [(⟨c.name.text, p129⟩ : LatR)]) rfl (by simp [maxLen])) rfl rfl underlying22 rfl rfl (size := 3) (bytes := 48) rfl rfl rfl (by decide) (lats1_one pv131) (by simp only [List.length_cons, List.length_nil]; omega) (by simp only [maxLen, List.length_cons, List.length_nil]; omega) ?_
     intro v199 w197 hH198
     simp only [z0, z1] at hH198
     refine AT 11 rfl (hH198.sub (sQ (sQ (sQ (sP (sP (sP (sP (sA sR))))))))) (fun w hS => fA underlying25 0 rfl sizeOf22 rfl) ?_
     refine A1 12 ?_
     refine AO.set rfl gnone hH198 (j := 1) rfl (sQ (sQ (sQ (sP (sP (sP (sP (sA sR)))))))) (run_st rfl rfl (v := v199) rfl (row_cells (hH198.get (i := 2) rfl)).1 (row_cells (hH198.get (i := 2) rfl)).2 (hH198.blk (i := 1) rfl) (by first | (show 0 < 2; decide) | decide | (simp only [List.size_toArray, scpL_len]; decide) | simp)) ?_
     intro w202 hH203
     simp only [z0, z1] at hH203
     refine AD ?_
     refine CW.seq ?_
     refine SR ?_
     refine V (fA underlying45 0 rfl sizeOf3 rfl) ?_
     refine V (run_ld underlying3 rfl rfl (hH203.cell (i := 5) rfl (v := I _) rfl)) ?_
     refine RL.callP rfl hH203 (c_scope_variables _  _) (run_call1 call28 rfl) ?_
     intro w204 hH205
     refine RL.nil ?_
     refine CW.condP rfl (fun h208 => ?_) (fun h208 => ?_)
     ·refine SR ?_
      refine V (aV (I 1) rfl) ?_
      refine RL.nil ?_
      refine CW.cutG (G := Unit) hH205 [6, 37, 38, 39] (fun (L : List Ent) (_u : Unit) => L) (fun (_u : Unit) s' => (s' 6 = I (kindF c))) ?_ ?_
      ·refine SR ?_
       refine V (fA underlying45 0 rfl sizeOf3 rfl) ?_
       refine V (run_ld underlying3 rfl rfl (hH205.cell (i := 5) rfl (v := I _) rfl)) ?_
       refine V (run_eql rfl rfl) ?_
       refine RL.nil ?_
       refine CW.condP rfl (fun h210 => ?_) (fun h210 => ?_)
       ·refine CW.region ?_
        refine V (aV (I 2) rfl) ?_
        refine RL.nil ?_
        refine ⟨((Fr.refl _ _)).u4, (), hH205, (congrArg I ?_)⟩
        ·(rw [kindF]; split <;> omega)
       ·refine CW.skip ?_
        refine ⟨((Fr.refl _ _)).u1.u1.u1, (), hH205, (congrArg I ?_)⟩
        ·(rw [kindF]; split <;> omega)
      ·rintro _u sg211 w211 fr211 hH211 e6_211
       have e2_211 : sg211 2 = Pn _ _ := (fr211 2 rfl).trans rfl
       have e3_211 : sg211 3 = Pn _ _ := (fr211 3 rfl).trans rfl
       have e4_211 : sg211 4 = Pn _ _ := (fr211 4 rfl).trans rfl
       have e5_211 : sg211 5 = Pn _ _ := (fr211 5 rfl).trans rfl
       refine SR ?_
       refine V (run_ldA (cs := scpL _) underlying25 rfl rfl e2_211 (rangeAt_cells (hH211.blk (i := 6) rfl))) ?_
       refine V (fA underlying45 2 rfl sizeOf38 e3_211) ?_
       refine V (fA underlying38 0 rfl sizeOf9 rfl) ?_
       refine V (run_ld underlying9 rfl rfl (hH211.cell (i := 5) rfl (v := .string _) rfl)) ?_
       refine RL.callP rfl hH211 (c_scope_Find _ _  _ ((hs.mono hK).mono hH211.kw)) (run_call2 call9 rfl rfl) ?_
       intro w212 hH213
       refine V (run_move (by conv => lhs; whnf)) ?_
       refine V (run_extract rfl (v := I _) rfl) ?_
       refine V (run_extract rfl (v := I _) rfl) ?_
       refine V (aV (I _) rfl) ?_
       refine V (aV (I _) rfl) ?_
       refine RL.nil ?_
       refine SR ?_
       refine V (fA underlying45 4 rfl sizeOf39 e3_211) ?_
       refine V (run_ldV ((hc.mono hK).names.sl.hp hH213) underlying39 rfl rfl (hH213.cell (i := 5) rfl rfl)) ?_
       refine V (run_lenSl ((hc.mono hK).names.sl.hp hH213) rfl underlying39 rfl) ?_
       refine V (mV (I 0) rfl) ?_
       refine RL.nil ?_
       refine CW.block ?_
       refine CW.loop (G := (Int) × (Value) × (List VarR)) (fun (⟨k, fv1, vs⟩ : (Int) × (Value) × (List VarR)) s' w' => (Fr [10, 51, 52, 53, 54, 55, 56, 57, 58, 59, 60, 61, 62, 63, 64, 65] _ s') ∧ (Hp w w' (_ :: .blk b25 (.cells (#[v199, fv1]) 25 (0, 0)) :: _ :: .row fv1 60 3 (vs.length) (vs.flatMap varL) :: _)) ∧ (s' 51 = I k) ∧ (0 ≤ k) ∧ (k ≤ c.names.length) ∧ (vs = s.vars ++ (varsF s c).take k.toNat) ∧ ((vs.length : Int) = s.vars.length + k)) (fun (⟨k, fv1, vs⟩ : (Int) × (Value) × (List VarR)) => (c.names.length - k).toNat) ((0, (v14 : Value), s.vars)) ⟨Fr.refl _ _, hH213, rfl, (by omega), (by omega), (List.append_nil _).symm, (by simp)⟩ ?_
       rintro ⟨k, fv1, vs⟩ sg214 w214 ⟨fr214, hH214, e51_214, h0, hk, hvs, hvl⟩
       have e4_214 := (fr214 4 rfl).trans e4_211
       have e5_214 := (fr214 5 rfl).trans e5_211
       have e6_214 := (fr214 6 rfl).trans e6_211
       have e7_214 : sg214 7 = I _ := (fr214 7 rfl).trans rfl
       have e49_214 := (fr214 49 rfl).trans (by conv => lhs; whnf)
       have e50_214 : sg214 50 = I _ := (fr214 50 rfl).trans rfl
       have hvk : ¬ k < c.names.length → vs = s.vars ++ varsF s c := fun h => by rw [hvs, List.take_of_length_le (by rw [varsF_len]; omega)]
       refine SR ?_
       refine V (run_lss e51_214 e50_214) ?_
       refine RL.nil ?_
       refine CW.seq ?_
       refine CW.condP rfl (fun h216 => ?_) (fun h216 => ?_)
       ·refine CW.skip ?_
        refine CW.seq ?_
        refine CW.block ?_
        refine SR ?_
        refine V (run_indexAddrS ((hc.mono hK).names.sl.hp hH214) underlying39 sizeOf38 e49_214 e51_214 (by omega)) ?_
        refine V (run_ldE (dv := wd0) wdL_len ((hc.mono hK).names.sl.hp hH214) underlying38 rfl rfl rfl (by omega)) ?_
        refine RL.new rfl hH214 (f := fun b => (.pointer (some ⟨b, 0, none⟩))) (run_alloc Tryd.zeroValue38) ?_
        intro b219 w217 hH218
        refine RL.set hH218 (i := 0) rfl (run_stW (c' := (wdL _).toArray) rfl rfl rfl (by simp [wdL, Value.oneCell']) (hH218.blk (i := 0) rfl) rfl) ?_
        intro w220 hH221
        simp only [z0, z1] at hH221
        refine RL.nil ?_
        refine CW.region ?_
        refine V (fA underlying25 1 rfl sizeOf23 e5_214) ?_
        refine V (run_ld underlying23 rfl rfl (hH221.cell (i := 2) rfl rfl)) ?_
        refine V (fA underlying38 0 rfl sizeOf9 rfl) ?_
        refine V (run_ld underlying9 rfl rfl (hH221.cell (i := 0) rfl (v := .string _) rfl)) ?_
        refine V (run_move e6_214) ?_
        refine V (run_move e7_214) ?_
        refine V (run_bld (vs := [(0, S _), (1, I _), (2, I _)]) rfl (built_varL _ _ _)) ?_
        refine RL.new rfl hH221 (f := fun b => (.slice (some ⟨b, 0, none⟩) 1 1)) (run_mkRecs varL_len underlying23 rfl rfl rfl (l := [(⟨(c.names.getD k.toNat wd0).text, kindF c, findLat s c.name.text⟩ : VarR)]) rfl (by decide) (by decide) rfl) ?_
        intro b224 w222 hH223
        refine RL.app rfl hH223 (i := 5) rfl (Hp.slFlat varL_len hH223 (i := 0) (l := [(⟨(c.names.getD k.toNat wd0).text, kindF c, findLat s c.name.text⟩ : VarR)]) rfl (by simp [maxLen])) rfl rfl underlying23 rfl rfl (size := 3) (bytes := 32) rfl rfl rfl (by decide) (by simp [varL, Value.oneCell']) (by simp only [List.length_cons, List.length_nil]; omega) (by simp only [maxLen, List.length_cons, List.length_nil]; omega) ?_
        intro v225 w226 hH227
        simp only [z0, z1] at hH227
        refine V (fA underlying25 1 rfl sizeOf23 e5_214) ?_
        refine RL.set hH227 (i := 3) rfl (run_st rfl rfl (v := v225) rfl (row_cells (hH227.get (i := 5) rfl)).1 (row_cells (hH227.get (i := 5) rfl)).2 (hH227.blk (i := 3) rfl) (by first | (show 1 < 2; decide) | decide | (simp only [List.size_toArray, scpL_len]; decide) | simp)) ?_
        intro w228 hH229
        simp only [z0, z1] at hH229
        refine RL.nil ?_
        refine CW.region ?_
        refine V (run_add e51_214 rfl (by omega)) ?_
        refine V (mV (I _) rfl) ?_
        refine RL.nil ?_
        refine ⟨(k + 1, v225, (vs ++ [⟨(c.names.getD k.toNat wd0).text, kindF c, findLat s c.name.text⟩])), ?_, fr214.u4.u4.u4.u4, (Hp.conv (hH229.sub (sQ (sQ sR))) (by first | rfl | simp)), (congrArg I (by first | rfl | omega)), ?_, ?_, ?_, ?_⟩
        ·((try dsimp only); omega)
        ·omega
        ·omega
        ·rw [vars_next h0 ‹k < _›, hvs, List.append_assoc]
        ·simp only [List.length_append, List.length_singleton]; omega
       ·refine CW.exit (id := 0) rfl ?_
        refine SR ?_
        obtain ⟨Z230, hz231, hv232, -⟩ := (hH214.perm (((pC ((pC pR).trans pS)).trans pS).trans (pC pR))).frz (K)
        have hH233 : Hp _ w214 (_ :: _ :: _ :: _ :: _ :: _ :: (Z230 ++ (Z126 ++ (Z15 ++ [])))) := hz231.zin (L := [_, _, _, _, _, _]) (L' := (Z126 ++ (Z15 ++ [])))
        obtain ⟨Z234, hz235, hv236, -⟩ := (hH233.perm (((pC ((pC pR).trans pS)).trans pS).trans (pC pR))).frz (K)
        have hH237 : Hp _ w214 (_ :: _ :: _ :: _ :: _ :: (Z234 ++ (Z230 ++ (Z126 ++ (Z15 ++ []))))) := hz235.zin (L := [_, _, _, _, _]) (L' := (Z230 ++ (Z126 ++ (Z15 ++ []))))
        have hp238 : ScpV (Kz K (Z234 ++ (Z230 ++ (Z126 ++ (Z15 ++ []))))) ⟨v199, (ls13 ++ [⟨c.name.text, p129⟩]), fv1, vs⟩ := ⟨by simpa using hv232.mono (Le.zz (fun x hx => (List.mem_append_right _ (List.mem_append_left _ hx)))), by simpa [Scp.sc] using hv236.mono (Le.zz (fun x hx => (List.mem_append_left _ hx))), ((hv17.mono (Le.zz (fun x hx => (List.mem_append_right _ (List.mem_append_right _ (List.mem_append_right _ (List.mem_append_left _ hx))))))).snoc (pv131.mono (Le.zz (fun x hx => (List.mem_append_right _ (List.mem_append_right _ (List.mem_append_left _ hx))))))).each⟩
        refine V (run_ldA (cs := scpL (⟨v199, (ls13 ++ [⟨c.name.text, p129⟩]), fv1, vs⟩ : Scp)) underlying25 rfl rfl e5_214 (rangeAt_cells (hH237.blk (i := 1) rfl))) ?_
        refine RL.set hH237 (i := 2) rfl (run_stW (c' := (scpL ⟨v199, (ls13 ++ [⟨c.name.text, p129⟩]), fv1, vs⟩).toArray) rfl e4_214 rfl (scpL_one hp238) (hH237.blk (i := 2) rfl) rfl) ?_
        intro w239 hH240
        simp only [z0, z1] at hH240
        refine RL.nil ?_
        refine CW.ret ?_
        refine outCg Tryd.results19 e4_214 hH240 (i := 2) rfl underlying25 rfl rfl ⟨(Z234 ++ (Z230 ++ (Z126 ++ (Z15 ++ [])))), (hH240.sub (sQ (sQ (sQ (sQ (sQ sR)))))), ⟨v199, (ls13 ++ [⟨c.name.text, p129⟩]), fv1, vs⟩, rfl, ?_, ?_⟩
        ·show (⟨_, _⟩ : Sc) = _; first | (exfalso; omega) | (rw [add_0 ‹_›]; simp [Scp.sc, *]; done) | (rw [add_1 ‹_› (by omega)]; simp [Scp.sc, LatR.pl, *]; done) | (rw [add_2 ‹_› (by omega), hvk ‹_›]; simp [Scp.sc, ‹List.map LatR.pl _ = _›]; done) | (rw [add_2 ‹_› (by omega)]; simp [Scp.sc, *]; done) | (rw [add_3 (by omega) (by omega)]; simp [Scp.sc, *]; done)
        ·exact hp238
     ·refine CW.skip ?_
      refine SR ?_
      obtain ⟨Z241, hz242, hv243, -⟩ := (hH205.perm (((pC ((pC pR).trans pS)).trans pS).trans (pC pR))).frz (K)
      have hH244 : Hp _ w204 (_ :: _ :: _ :: _ :: _ :: _ :: (Z241 ++ (Z126 ++ (Z15 ++ [])))) := hz242.zin (L := [_, _, _, _, _, _]) (L' := (Z126 ++ (Z15 ++ [])))
      obtain ⟨Z245, hz246, hv247, -⟩ := (hH244.perm (((pC ((pC pR).trans pS)).trans pS).trans (pC pR))).frz (K)
      have hH248 : Hp _ w204 (_ :: _ :: _ :: _ :: _ :: (Z245 ++ (Z241 ++ (Z126 ++ (Z15 ++ []))))) := hz246.zin (L := [_, _, _, _, _]) (L' := (Z241 ++ (Z126 ++ (Z15 ++ []))))
      have hp249 : ScpV (Kz K (Z245 ++ (Z241 ++ (Z126 ++ (Z15 ++ []))))) ⟨v199, (ls13 ++ [⟨c.name.text, p129⟩]), v14, s.vars⟩ := ⟨by simpa using hv243.mono (Le.zz (fun x hx => (List.mem_append_right _ (List.mem_append_left _ hx)))), by simpa [Scp.sc] using hv247.mono (Le.zz (fun x hx => (List.mem_append_left _ hx))), ((hv17.mono (Le.zz (fun x hx => (List.mem_append_right _ (List.mem_append_right _ (List.mem_append_right _ (List.mem_append_left _ hx))))))).snoc (pv131.mono (Le.zz (fun x hx => (List.mem_append_right _ (List.mem_append_right _ (List.mem_append_left _ hx))))))).each⟩
      refine V (run_ldA (cs := scpL (⟨v199, (ls13 ++ [⟨c.name.text, p129⟩]), v14, s.vars⟩ : Scp)) underlying25 rfl rfl rfl (rangeAt_cells (hH248.blk (i := 1) rfl))) ?_
      refine RL.set hH248 (i := 2) rfl (run_stW (c' := (scpL ⟨v199, (ls13 ++ [⟨c.name.text, p129⟩]), v14, s.vars⟩).toArray) rfl rfl rfl (scpL_one hp249) (hH248.blk (i := 2) rfl) rfl) ?_
      intro w250 hH251
      simp only [z0, z1] at hH251
      refine RL.nil ?_
      refine CW.ret ?_
      refine outCg Tryd.results19 rfl hH251 (i := 2) rfl underlying25 rfl rfl ⟨(Z245 ++ (Z241 ++ (Z126 ++ (Z15 ++ [])))), (hH251.sub (sQ (sQ (sQ (sQ (sQ sR)))))), ⟨v199, (ls13 ++ [⟨c.name.text, p129⟩]), v14, s.vars⟩, rfl, ?_, ?_⟩
      ·show (⟨_, _⟩ : Sc) = _; first | (exfalso; omega) | (rw [add_0 ‹_›]; simp [Scp.sc, *]; done) | (rw [add_1 ‹_› (by omega)]; simp [Scp.sc, LatR.pl, *]; done) | (rw [add_2 ‹_› (by omega), hvk ‹_›]; simp [Scp.sc, ‹List.map LatR.pl _ = _›]; done) | (rw [add_2 ‹_› (by omega)]; simp [Scp.sc, *]; done) | (rw [add_3 (by omega) (by omega)]; simp [Scp.sc, *]; done)
      ·exact hp249
  ·refine CW.skip ?_
   refine CW.seq ?_
   refine SR ?_
   refine V (fA underlying45 0 rfl sizeOf3 rfl) ?_
   refine V (run_ld underlying3 rfl rfl (hH44.cell (i := 4) rfl (v := I _) rfl)) ?_
   refine RL.callP rfl hH44 (c_scope_variables _  _) (run_call1 call28 rfl) ?_
   intro w252 hH253
   refine RL.nil ?_
   refine CW.condP rfl (fun h256 => ?_) (fun h256 => ?_)
   ·refine SR ?_
    refine V (aV (I 1) rfl) ?_
    refine RL.nil ?_
    refine CW.cutG (G := Unit) hH253 [6, 37, 38, 39] (fun (L : List Ent) (_u : Unit) => L) (fun (_u : Unit) s' => (s' 6 = I (kindF c))) ?_ ?_
    ·refine SR ?_
     refine V (fA underlying45 0 rfl sizeOf3 rfl) ?_
     refine V (run_ld underlying3 rfl rfl (hH253.cell (i := 4) rfl (v := I _) rfl)) ?_
     refine V (run_eql rfl rfl) ?_
     refine RL.nil ?_
     refine CW.condP rfl (fun h258 => ?_) (fun h258 => ?_)
     ·refine CW.region ?_
      refine V (aV (I 2) rfl) ?_
      refine RL.nil ?_
      refine ⟨((Fr.refl _ _)).u4, (), hH253, (congrArg I ?_)⟩
      ·(rw [kindF]; split <;> omega)
     ·refine CW.skip ?_
      refine ⟨((Fr.refl _ _)).u1.u1.u1, (), hH253, (congrArg I ?_)⟩
      ·(rw [kindF]; split <;> omega)
    ·rintro _u sg259 w259 fr259 hH259 e6_259
     have e2_259 : sg259 2 = Pn _ _ := (fr259 2 rfl).trans rfl
     have e3_259 : sg259 3 = Pn _ _ := (fr259 3 rfl).trans rfl
     have e4_259 : sg259 4 = Pn _ _ := (fr259 4 rfl).trans rfl
     have e5_259 : sg259 5 = Pn _ _ := (fr259 5 rfl).trans rfl
     refine SR ?_
     refine V (run_ldA (cs := scpL _) underlying25 rfl rfl e2_259 (rangeAt_cells (hH259.blk (i := 5) rfl))) ?_
     refine V (fA underlying45 2 rfl sizeOf38 e3_259) ?_
     refine V (fA underlying38 0 rfl sizeOf9 rfl) ?_
     refine V (run_ld underlying9 rfl rfl (hH259.cell (i := 4) rfl (v := .string _) rfl)) ?_
     refine RL.callP rfl hH259 (c_scope_Find _ _  _ ((hs.mono hK).mono hH259.kw)) (run_call2 call9 rfl rfl) ?_
     intro w260 hH261
     refine V (run_move (by conv => lhs; whnf)) ?_
     refine V (run_extract rfl (v := I _) rfl) ?_
     refine V (run_extract rfl (v := I _) rfl) ?_
     refine V (aV (I _) rfl) ?_
     refine V (aV (I _) rfl) ?_
     refine RL.nil ?_
     refine SR ?_
     refine V (fA underlying45 4 rfl sizeOf39 e3_259) ?_
     refine V (run_ldV ((hc.mono hK).names.sl.hp hH261) underlying39 rfl rfl (hH261.cell (i := 4) rfl rfl)) ?_
     refine V (run_lenSl ((hc.mono hK).names.sl.hp hH261) rfl underlying39 rfl) ?_
     refine V (mV (I 0) rfl) ?_
     refine RL.nil ?_
     refine CW.block ?_
     refine CW.loop (G := (Int) × (Value) × (List VarR)) (fun (⟨k, fv1, vs⟩ : (Int) × (Value) × (List VarR)) s' w' => (Fr [10, 51, 52, 53, 54, 55, 56, 57, 58, 59, 60, 61, 62, 63, 64, 65] _ s') ∧ (Hp w w' (.blk b25 (.cells (#[v12, fv1]) 25 (0, 0)) :: _ :: .row fv1 60 3 (vs.length) (vs.flatMap varL) :: _)) ∧ (s' 51 = I k) ∧ (0 ≤ k) ∧ (k ≤ c.names.length) ∧ (vs = s.vars ++ (varsF s c).take k.toNat) ∧ ((vs.length : Int) = s.vars.length + k)) (fun (⟨k, fv1, vs⟩ : (Int) × (Value) × (List VarR)) => (c.names.length - k).toNat) ((0, (v14 : Value), s.vars)) ⟨Fr.refl _ _, hH261, rfl, (by omega), (by omega), (List.append_nil _).symm, (by simp)⟩ ?_
     rintro ⟨k, fv1, vs⟩ sg262 w262 ⟨fr262, hH262, e51_262, h0, hk, hvs, hvl⟩
     have e4_262 := (fr262 4 rfl).trans e4_259
     have e5_262 := (fr262 5 rfl).trans e5_259
     have e6_262 := (fr262 6 rfl).trans e6_259
     have e7_262 : sg262 7 = I _ := (fr262 7 rfl).trans rfl
     have e49_262 := (fr262 49 rfl).trans (by conv => lhs; whnf)
     have e50_262 : sg262 50 = I _ := (fr262 50 rfl).trans rfl
     have hvk : ¬ k < c.names.length → vs = s.vars ++ varsF s c := fun h => by rw [hvs, List.take_of_length_le (by rw [varsF_len]; omega)]
     refine SR ?_
     refine V (run_lss e51_262 e50_262) ?_
     refine RL.nil ?_
     refine CW.seq ?_
     refine CW.condP rfl (fun h264 => ?_) (fun h264 => ?_)
     ·refine CW.skip ?_
      refine CW.seq ?_
      refine CW.block ?_
      refine SR ?_
      refine V (run_indexAddrS ((hc.mono hK).names.sl.hp hH262) underlying39 sizeOf38 e49_262 e51_262 (by omega)) ?_
      refine V (run_ldE (dv := wd0) wdL_len ((hc.mono hK).names.sl.hp hH262) underlying38 rfl rfl rfl (by omega)) ?_
      refine RL.new rfl hH262 (f := fun b => (.pointer (some ⟨b, 0, none⟩))) (run_alloc Tryd.zeroValue38) ?_
      intro b267 w265 hH266
      refine RL.set hH266 (i := 0) rfl (run_stW (c' := (wdL _).toArray) rfl rfl rfl (by simp [wdL, Value.oneCell']) (hH266.blk (i := 0) rfl) rfl) ?_
      intro w268 hH269
      simp only [z0, z1] at hH269
      refine RL.nil ?_
      refine CW.region ?_
      refine V (fA underlying25 1 rfl sizeOf23 e5_262) ?_
      refine V (run_ld underlying23 rfl rfl (hH269.cell (i := 1) rfl rfl)) ?_
      refine V (fA underlying38 0 rfl sizeOf9 rfl) ?_
      refine V (run_ld underlying9 rfl rfl (hH269.cell (i := 0) rfl (v := .string _) rfl)) ?_
      refine V (run_move e6_262) ?_
      refine V (run_move e7_262) ?_
      refine V (run_bld (vs := [(0, S _), (1, I _), (2, I _)]) rfl (built_varL _ _ _)) ?_
      refine RL.new rfl hH269 (f := fun b => (.slice (some ⟨b, 0, none⟩) 1 1)) (run_mkRecs varL_len underlying23 rfl rfl rfl (l := [(⟨(c.names.getD k.toNat wd0).text, kindF c, findLat s c.name.text⟩ : VarR)]) rfl (by decide) (by decide) rfl) ?_
      intro b272 w270 hH271
      refine RL.app rfl hH271 (i := 4) rfl (Hp.slFlat varL_len hH271 (i := 0) (l := [(⟨(c.names.getD k.toNat wd0).text, kindF c, findLat s c.name.text⟩ : VarR)]) rfl (by simp [maxLen])) rfl rfl underlying23 rfl rfl (size := 3) (bytes := 32) rfl rfl rfl (by decide) (by simp [varL, Value.oneCell']) (by simp only [List.length_cons, List.length_nil]; omega) (by simp only [maxLen, List.length_cons, List.length_nil]; omega) ?_
      intro v273 w274 hH275
      simp only [z0, z1] at hH275
      refine V (fA underlying25 1 rfl sizeOf23 e5_262) ?_
      refine RL.set hH275 (i := 2) rfl (run_st rfl rfl (v := v273) rfl (row_cells (hH275.get (i := 4) rfl)).1 (row_cells (hH275.get (i := 4) rfl)).2 (hH275.blk (i := 2) rfl) (by first | (show 1 < 2; decide) | decide | (simp only [List.size_toArray, scpL_len]; decide) | simp)) ?_
      intro w276 hH277
      simp only [z0, z1] at hH277
      refine RL.nil ?_
      refine CW.region ?_
      refine V (run_add e51_262 rfl (by omega)) ?_
      refine V (mV (I _) rfl) ?_
      refine RL.nil ?_
      refine ⟨(k + 1, v273, (vs ++ [⟨(c.names.getD k.toNat wd0).text, kindF c, findLat s c.name.text⟩])), ?_, fr262.u4.u4.u4.u4, (Hp.conv (hH277.sub (sQ (sQ sR))) (by first | rfl | simp)), (congrArg I (by first | rfl | omega)), ?_, ?_, ?_, ?_⟩
      ·((try dsimp only); omega)
      ·omega
      ·omega
      ·rw [vars_next h0 ‹k < _›, hvs, List.append_assoc]
      ·simp only [List.length_append, List.length_singleton]; omega
     ·refine CW.exit (id := 0) rfl ?_
      refine SR ?_
      obtain ⟨Z278, hz279, hv280, -⟩ := (hH262.perm (((pC pR).trans pS).trans (pC pR))).frz (K)
      have hH281 : Hp _ w262 (_ :: _ :: _ :: _ :: _ :: (Z278 ++ (Z15 ++ []))) := hz279.zin (L := [_, _, _, _, _]) (L' := (Z15 ++ []))
      obtain ⟨Z282, hz283, hv284, -⟩ := (hH281.perm (((pC pR).trans pS).trans (pC pR))).frz (K)
      have hH285 : Hp _ w262 (_ :: _ :: _ :: _ :: (Z282 ++ (Z278 ++ (Z15 ++ [])))) := hz283.zin (L := [_, _, _, _]) (L' := (Z278 ++ (Z15 ++ [])))
      have hp286 : ScpV (Kz K (Z282 ++ (Z278 ++ (Z15 ++ [])))) ⟨v12, ls13, fv1, vs⟩ := ⟨by simpa using hv280.mono (Le.zz (fun x hx => (List.mem_append_right _ (List.mem_append_left _ hx)))), by simpa [Scp.sc] using hv284.mono (Le.zz (fun x hx => (List.mem_append_left _ hx))), (hv17.mono (Le.zz (fun x hx => (List.mem_append_right _ (List.mem_append_right _ (List.mem_append_left _ hx)))))).each⟩
      refine V (run_ldA (cs := scpL (⟨v12, ls13, fv1, vs⟩ : Scp)) underlying25 rfl rfl e5_262 (rangeAt_cells (hH285.blk (i := 0) rfl))) ?_
      refine RL.set hH285 (i := 1) rfl (run_stW (c' := (scpL ⟨v12, ls13, fv1, vs⟩).toArray) rfl e4_262 rfl (scpL_one hp286) (hH285.blk (i := 1) rfl) rfl) ?_
      intro w287 hH288
      simp only [z0, z1] at hH288
      refine RL.nil ?_
      refine CW.ret ?_
      refine outCg Tryd.results19 e4_262 hH288 (i := 1) rfl underlying25 rfl rfl ⟨(Z282 ++ (Z278 ++ (Z15 ++ []))), (hH288.sub (sQ (sQ (sQ (sQ sR))))), ⟨v12, ls13, fv1, vs⟩, rfl, ?_, ?_⟩
      ·show (⟨_, _⟩ : Sc) = _; first | (exfalso; omega) | (rw [add_0 ‹_›]; simp [Scp.sc, *]; done) | (rw [add_1 ‹_› (by omega)]; simp [Scp.sc, LatR.pl, *]; done) | (rw [add_2 ‹_› (by omega), hvk ‹_›]; simp [Scp.sc, ‹List.map LatR.pl _ = _›]; done) | (rw [add_2 ‹_› (by omega)]; simp [Scp.sc, *]; done) | (rw [add_3 (by omega) (by omega)]; simp [Scp.sc, *]; done)
      ·exact hp286
   ·refine CW.skip ?_
    refine SR ?_
    obtain ⟨Z289, hz290, hv291, -⟩ := (hH253.perm (((pC pR).trans pS).trans (pC pR))).frz (K)
    have hH292 : Hp _ w252 (_ :: _ :: _ :: _ :: _ :: (Z289 ++ (Z15 ++ []))) := hz290.zin (L := [_, _, _, _, _]) (L' := (Z15 ++ []))
    obtain ⟨Z293, hz294, hv295, -⟩ := (hH292.perm (((pC pR).trans pS).trans (pC pR))).frz (K)
    have hH296 : Hp _ w252 (_ :: _ :: _ :: _ :: (Z293 ++ (Z289 ++ (Z15 ++ [])))) := hz294.zin (L := [_, _, _, _]) (L' := (Z289 ++ (Z15 ++ [])))
    have hp297 : ScpV (Kz K (Z293 ++ (Z289 ++ (Z15 ++ [])))) ⟨v12, ls13, v14, s.vars⟩ := ⟨by simpa using hv291.mono (Le.zz (fun x hx => (List.mem_append_right _ (List.mem_append_left _ hx)))), by simpa [Scp.sc] using hv295.mono (Le.zz (fun x hx => (List.mem_append_left _ hx))), (hv17.mono (Le.zz (fun x hx => (List.mem_append_right _ (List.mem_append_right _ (List.mem_append_left _ hx)))))).each⟩
    refine V (run_ldA (cs := scpL (⟨v12, ls13, v14, s.vars⟩ : Scp)) underlying25 rfl rfl rfl (rangeAt_cells (hH296.blk (i := 0) rfl))) ?_
    refine RL.set hH296 (i := 1) rfl (run_stW (c' := (scpL ⟨v12, ls13, v14, s.vars⟩).toArray) rfl rfl rfl (scpL_one hp297) (hH296.blk (i := 1) rfl) rfl) ?_
    intro w298 hH299
    simp only [z0, z1] at hH299
    refine RL.nil ?_
    refine CW.ret ?_
    refine outCg Tryd.results19 rfl hH299 (i := 1) rfl underlying25 rfl rfl ⟨(Z293 ++ (Z289 ++ (Z15 ++ []))), (hH299.sub (sQ (sQ (sQ (sQ sR))))), ⟨v12, ls13, v14, s.vars⟩, rfl, ?_, ?_⟩
    ·show (⟨_, _⟩ : Sc) = _; first | (exfalso; omega) | (rw [add_0 ‹_›]; simp [Scp.sc, *]; done) | (rw [add_1 ‹_› (by omega)]; simp [Scp.sc, LatR.pl, *]; done) | (rw [add_2 ‹_› (by omega), hvk ‹_›]; simp [Scp.sc, ‹List.map LatR.pl _ = _›]; done) | (rw [add_2 ‹_› (by omega)]; simp [Scp.sc, *]; done) | (rw [add_3 (by omega) (by omega)]; simp [Scp.sc, *]; done)
    ·exact hp297

theorem c_scope_Right (s : Scp) (w : World) (hs : ScpV (Kw w) s) (hT : Tab w) : Calls Tryd.prog 17 #[.agg (scpC s)] w (Pure (B (rightS s)) w) := by
 have hm1 := hs.lats.sl.small
 have hm2 := hs.vars.sl.small
 unfold maxLen at hm1 hm2
 refine enter Tryd.func17 rfl Tryd.ntmps17 rfl ?_
 have hH := Hp.start w
 refine SR ?_
 refine RL.new rfl hH (f := fun b => (.pointer (some ⟨b, 0, none⟩))) (run_box (v := .agg _) rfl) ?_
 intro b3 w1 hH2
 refine V (aV (B false) rfl) ?_
 refine RL.nil ?_
 refine CW.seq ?_
 refine SR ?_
 refine V (fA underlying25 0 rfl sizeOf22 rfl) ?_
 refine V (run_ldV (hs.lats.sl.hp hH2) underlying22 rfl rfl (hH2.cell (i := 0) rfl rfl)) ?_
 refine V (run_lenSl (hs.lats.sl.hp hH2) rfl underlying22 rfl) ?_
 refine V (run_gtr rfl rfl) ?_
 refine V (mV (B _) rfl) ?_
 refine RL.splitP (dj := 12) rfl (fun h5 => ?_) (fun h5 => ?_)
 ·refine RL.gF rfl rfl (bT h5) rfl ?_
  refine RL.gF rfl rfl (bT h5) rfl ?_
  refine RL.gF rfl rfl (bT h5) rfl ?_
  refine RL.gF rfl rfl (bT h5) rfl ?_
  refine V (run_pickT (bT h5) (v := B true) rfl) ?_
  refine RL.nil ?_
  refine CW.condT rfl ?_
  refine SR ?_
  refine V (aV (B false) rfl) ?_
  refine RL.nil ?_
  refine CW.ret ?_
  refine outP1 Tryd.results17 (congrArg B ?_) hH2.below
  first | exact (right_no1 (by omega)).symm | exact (right_no2 h0 ‹k < _› (by rw [latOk, nt ‹(!nameR _) = true›]; rfl)).symm | exact (right_no2 h0 ‹k < _› (by rw [latOk, nt ‹(!shR _) = true›, Bool.and_false])).symm | exact (right_no3 j0 ‹j < _› (by rw [varOk, nt ‹(!nameR _) = true›]; rfl)).symm | exact (right_no3 j0 ‹j < _› (by rw [varOk, decide_eq_false (by omega), Bool.and_false])).symm | (have hnm : m2 = namesS s := (by rw [hm2, hm, List.take_of_length_le (by omega), List.take_of_length_le (by omega)]; rfl); rw [hnm]; exact (right_yes hsz ‹¬ k < _› hg ‹¬ j < _› hv).symm)
 ·refine RL.gT rfl (bF h5) ?_
  refine V (fA underlying25 1 rfl sizeOf23 rfl) ?_
  refine RL.gT rfl (bF h5) ?_
  refine V (run_ldV (hs.vars.sl.hp hH2) underlying23 rfl rfl (hH2.cell (i := 0) rfl rfl)) ?_
  refine RL.gT rfl (bF h5) ?_
  refine V (run_lenSl (hs.vars.sl.hp hH2) rfl underlying23 rfl) ?_
  refine RL.gT rfl (bF h5) ?_
  refine V (run_gtr rfl rfl) ?_
  refine V (run_pickF (bF h5) (v := B _) rfl) ?_
  refine RL.nil ?_
  refine CW.condP rfl (fun h7 => ?_) (fun h7 => ?_)
  ·refine SR ?_
   refine V (aV (B false) rfl) ?_
   refine RL.nil ?_
   refine CW.ret ?_
   refine outP1 Tryd.results17 (congrArg B ?_) hH2.below
   first | exact (right_no1 (by omega)).symm | exact (right_no2 h0 ‹k < _› (by rw [latOk, nt ‹(!nameR _) = true›]; rfl)).symm | exact (right_no2 h0 ‹k < _› (by rw [latOk, nt ‹(!shR _) = true›, Bool.and_false])).symm | exact (right_no3 j0 ‹j < _› (by rw [varOk, nt ‹(!nameR _) = true›]; rfl)).symm | exact (right_no3 j0 ‹j < _› (by rw [varOk, decide_eq_false (by omega), Bool.and_false])).symm | (have hnm : m2 = namesS s := (by rw [hm2, hm, List.take_of_length_le (by omega), List.take_of_length_le (by omega)]; rfl); rw [hnm]; exact (right_yes hsz ‹¬ k < _› hg ‹¬ j < _› hv).symm)
  ·refine CW.skip ?_
   refine SR ?_
   refine V (aV (.slice none 0 0) rfl) ?_
   have hH8 := hH2.nilRow 9 1
   refine RL.nil ?_
   refine CW.seq ?_
   refine SR ?_
   refine V (fA underlying25 0 rfl sizeOf22 rfl) ?_
   refine V (run_ldV (hs.lats.sl.hp hH8) underlying22 rfl rfl (hH8.cell (i := 1) rfl rfl)) ?_
   refine V (run_lenSl (hs.lats.sl.hp hH8) rfl underlying22 rfl) ?_
   refine V (mV (I 0) rfl) ?_
   refine RL.nil ?_
   refine CW.block ?_
   have hsz : s.lats.length ≤ 16 ∧ s.vars.length ≤ 64 := by omega
   refine CW.loop (G := (Int) × (List Tx) × (Value)) (fun (⟨k, m, v3⟩ : (Int) × (List Tx) × (Value)) s' w' => (Fr [2, 3, 5, 21, 22, 23, 24, 25, 26, 27, 28, 29, 30, 31, 32, 33, 34, 35, 36, 37, 38, 39, 40] _ s') ∧ (Hp w w' (.row v3 9 1 (m.length) (txL m) :: _)) ∧ (s' 3 = v3) ∧ (s' 21 = I k) ∧ (0 ≤ k) ∧ (k ≤ s.lats.length) ∧ (m = (s.lats.take k.toNat).map LatR.name) ∧ ((m.length : Int) = k) ∧ (∀ j : Int, 0 ≤ j → j < k → latOk (s.lats.getD j.toNat lat0) = true)) (fun (⟨k, m, v3⟩ : (Int) × (List Tx) × (Value)) => (s.lats.length - k).toNat) ((0, [], (.slice none 0 0 : Value))) ⟨Fr.refl _ _, hH8, rfl, rfl, (by omega), (by omega), rfl, rfl, fun j a b => absurd b (by omega)⟩ ?_
   rintro ⟨k, m, v3⟩ sg9 w9 ⟨fr9, hH9, e3_9, e21_9, h0, hk, hm, hml, hg⟩
   have e1_9 : sg9 1 = Pn _ _ := (fr9 1 rfl).trans rfl
   have e19_9 := (fr9 19 rfl).trans (by conv => lhs; whnf)
   have e20_9 : sg9 20 = I _ := (fr9 20 rfl).trans rfl
   refine SR ?_
   refine V (run_lss e21_9 e20_9) ?_
   refine RL.nil ?_
   refine CW.seq ?_
   refine CW.condP rfl (fun h11 => ?_) (fun h11 => ?_)
   ·refine CW.skip ?_
    refine CW.seq ?_
    refine CW.block ?_
    refine SR ?_
    refine V (run_indexAddrS (hs.lats.sl.hp hH9) underlying22 sizeOf56 e19_9 e21_9 (by omega)) ?_
    refine V (run_ldE (dv := lat0) latL_len (hs.lats.sl.hp hH9) underlying56 rfl rfl rfl (by omega)) ?_
    refine RL.new rfl hH9 (f := fun b => (.pointer (some ⟨b, 0, none⟩))) (run_alloc Tryd.zeroValue56) ?_
    intro b14 w12 hH13
    refine RL.set hH13 (i := 0) rfl (run_stW (c' := (latL _).toArray) rfl rfl rfl (latL_one (hs.at (by omega) (by omega))) (hH13.blk (i := 0) rfl) rfl) ?_
    intro w15 hH16
    simp only [z0, z1] at hH16
    refine RL.nil ?_
    refine CW.seq ?_
    refine SR ?_
    refine V (fA underlying56 0 rfl sizeOf9 rfl) ?_
    refine V (run_ld underlying9 rfl rfl (hH16.cell (i := 0) rfl (v := .string _) rfl)) ?_
    refine RL.callP rfl hH16 (c_name_Right _  _) (run_call1 call38 rfl) ?_
    intro w17 hH18
    refine V (run_not rfl) ?_
    refine V (mV (B _) rfl) ?_
    refine RL.split (dj := 29) rfl (fun h21 => ?_) (fun h21 => ?_)
    ·refine RL.gF rfl rfl (bR (c := true) h21) rfl ?_
     refine RL.gF rfl rfl (bR (c := true) h21) rfl ?_
     refine RL.gF rfl rfl (bR (c := true) h21) rfl ?_
     refine RL.gF rfl rfl (bR (c := true) h21) rfl ?_
     refine V (run_pickT (bR (c := true) h21) (v := B true) rfl) ?_
     refine RL.nil ?_
     refine CW.condT rfl ?_
     refine SR ?_
     refine V (aV (B false) rfl) ?_
     refine RL.nil ?_
     refine CW.ret ?_
     refine outP1 Tryd.results17 (congrArg B ?_) hH18.below
     first | exact (right_no1 (by omega)).symm | exact (right_no2 h0 ‹k < _› (by rw [latOk, nt ‹(!nameR _) = true›]; rfl)).symm | exact (right_no2 h0 ‹k < _› (by rw [latOk, nt ‹(!shR _) = true›, Bool.and_false])).symm | exact (right_no3 j0 ‹j < _› (by rw [varOk, nt ‹(!nameR _) = true›]; rfl)).symm | exact (right_no3 j0 ‹j < _› (by rw [varOk, decide_eq_false (by omega), Bool.and_false])).symm | (have hnm : m2 = namesS s := (by rw [hm2, hm, List.take_of_length_le (by omega), List.take_of_length_le (by omega)]; rfl); rw [hnm]; exact (right_yes hsz ‹¬ k < _› hg ‹¬ j < _› hv).symm)
    ·refine RL.gT rfl (bR (c := false) h21) ?_
     refine V (fA underlying56 1 rfl sizeOf54 rfl) ?_
     refine RL.gT rfl (bR (c := false) h21) ?_
     refine V (run_ldSub (sub := shpL _) underlying54 rfl rfl rfl (hH18.blk (i := 0) rfl) rfl) ?_
     refine RL.gT rfl (bR (c := false) h21) ?_
     refine RL.callP rfl hH18 (c_shape_Right _  _ ((hs.at (by omega) (by omega)).mono hH18.kw) (hT.hp hH18)) (run_call1 call21 rfl) ?_
     intro w22 hH23
     refine RL.gT rfl (bR (c := false) h21) ?_
     refine V (run_not rfl) ?_
     refine V (run_pickF (bR (c := false) h21) (v := B _) rfl) ?_
     refine RL.nil ?_
     refine CW.cond rfl (fun h26 => ?_) (fun h26 => ?_)
     ·refine SR ?_
      refine V (aV (B false) rfl) ?_
      refine RL.nil ?_
      refine CW.ret ?_
      refine outP1 Tryd.results17 (congrArg B ?_) hH23.below
      first | exact (right_no1 (by omega)).symm | exact (right_no2 h0 ‹k < _› (by rw [latOk, nt ‹(!nameR _) = true›]; rfl)).symm | exact (right_no2 h0 ‹k < _› (by rw [latOk, nt ‹(!shR _) = true›, Bool.and_false])).symm | exact (right_no3 j0 ‹j < _› (by rw [varOk, nt ‹(!nameR _) = true›]; rfl)).symm | exact (right_no3 j0 ‹j < _› (by rw [varOk, decide_eq_false (by omega), Bool.and_false])).symm | (have hnm : m2 = namesS s := (by rw [hm2, hm, List.take_of_length_le (by omega), List.take_of_length_le (by omega)]; rfl); rw [hnm]; exact (right_yes hsz ‹¬ k < _› hg ‹¬ j < _› hv).symm)
     ·refine CW.skip ?_
      refine CW.region ?_
      refine V (run_move e3_9) ?_
      refine V (fA underlying56 0 rfl sizeOf9 rfl) ?_
      refine V (run_ld underlying9 rfl rfl (hH23.cell (i := 0) rfl (v := .string _) rfl)) ?_
      refine RL.new rfl hH23 (f := fun b => (.slice (some ⟨b, 0, none⟩) 1 1)) (run_mkL underlying75 rfl rfl (sz := 1) (vs := [.string _]) rfl rfl (by decide) (by decide) rfl rfl) ?_
      intro b29 w27 hH28
      (try simp only [List.flatMap_cons, List.flatMap_nil, clI, clB, clS, clP, clL, clA, List.append_nil, List.cons_append, List.nil_append] at hH28)
      refine RL.app rfl hH28 (i := 2) rfl (hH28.slBlk (i := 0) (n := 1) (sz := 1) rfl rfl (by decide)) rfl rfl underlying75 rfl rfl (size := 1) (bytes := 16) rfl rfl rfl (by decide) (by simp [Value.oneCell']) (by omega) (by simp only [maxLen]; omega) ?_
      intro v30 w31 hH32
      simp only [z0, z1] at hH32
      refine V (run_assign (by conv => lhs; whnf)) ?_
      refine RL.nil ?_
      refine CW.region ?_
      refine V (run_add e21_9 rfl (by omega)) ?_
      refine V (mV (I _) rfl) ?_
      refine RL.nil ?_
      refine ⟨(k + 1, m ++ [(s.lats.getD k.toNat lat0).name], v30), ?_, fr9.u4.u4.u4.u4.u4.u1.u1, (Hp.conv (hH32.sub (sQ (sQ sR))) (by first | rfl | simp)), rfl, (congrArg I (by first | rfl | omega)), ?_, ?_, ?_, ?_, ?_⟩
      ·((try dsimp only); omega)
      ·omega
      ·omega
      ·rw [lnames_next h0 ‹k < _›, ← hm]
      ·simp only [List.length_append, List.length_singleton]; omega
      ·exact fun j a b => if e : j = k then e ▸ (by rw [latOk, nf ‹(!nameR _) = false›, nf ‹(!shR _) = false›]; rfl) else hg j a (by omega)
   ·refine CW.exit (id := 0) rfl ?_
    refine CW.seq ?_
    refine SR ?_
    refine V (fA underlying25 1 rfl sizeOf23 e1_9) ?_
    refine V (run_ldV (hs.vars.sl.hp hH9) underlying23 rfl rfl (hH9.cell (i := 1) rfl rfl)) ?_
    refine V (run_lenSl (hs.vars.sl.hp hH9) rfl underlying23 rfl) ?_
    refine V (mV (I 0) rfl) ?_
    refine RL.nil ?_
    refine CW.block ?_
    refine CW.loop (G := (Int) × (List Tx) × (Value)) (fun (⟨j, m2, v3⟩ : (Int) × (List Tx) × (Value)) s' w' => (Fr [2, 3, 7, 44, 45, 46, 47, 48, 49, 50, 51, 52, 53, 54, 55, 56, 57, 58, 59, 60, 61, 62, 63, 64, 65, 66, 67, 68, 69, 70, 71, 72, 73, 74, 75, 76, 77, 78, 79, 80] _ s') ∧ (Hp w w' (.row v3 9 1 (m2.length) (txL m2) :: _)) ∧ (s' 3 = v3) ∧ (s' 44 = I j) ∧ (0 ≤ j) ∧ (j ≤ s.vars.length) ∧ (m2 = m ++ (s.vars.take j.toNat).map VarR.name) ∧ ((m2.length : Int) = k + j) ∧ (∀ i : Int, 0 ≤ i → i < j → varOk s.lats.length (s.vars.getD i.toNat var0) = true)) (fun (⟨j, m2, v3⟩ : (Int) × (List Tx) × (Value)) => (s.vars.length - j).toNat) ((0, m, (v3 : Value))) ⟨Fr.refl _ _, hH9, e3_9, rfl, (by omega), (by omega), (List.append_nil m).symm, (by omega), fun j a b => absurd b (by omega)⟩ ?_
    rintro ⟨j, m2, v3⟩ sg33 w33 ⟨fr33, hH33, e3_33, e44_33, j0, hj, hm2, hml2, hv⟩
    have e1_33 := (fr33 1 rfl).trans e1_9
    have e42_33 := (fr33 42 rfl).trans (by conv => lhs; whnf)
    have e43_33 : sg33 43 = I _ := (fr33 43 rfl).trans rfl
    refine SR ?_
    refine V (run_lss e44_33 e43_33) ?_
    refine RL.nil ?_
    refine CW.seq ?_
    refine CW.condP rfl (fun h35 => ?_) (fun h35 => ?_)
    ·refine CW.skip ?_
     refine CW.seq ?_
     refine CW.block ?_
     refine SR ?_
     refine V (run_indexAddrS (hs.vars.sl.hp hH33) underlying23 sizeOf60 e42_33 e44_33 (by omega)) ?_
     refine V (run_ldE (dv := var0) varL_len (hs.vars.sl.hp hH33) underlying60 rfl rfl rfl (by omega)) ?_
     refine RL.new rfl hH33 (f := fun b => (.pointer (some ⟨b, 0, none⟩))) (run_alloc Tryd.zeroValue60) ?_
     intro b38 w36 hH37
     refine RL.set hH37 (i := 0) rfl (run_stW (c' := (varL _).toArray) rfl rfl rfl (by simp [varL, Value.oneCell']) (hH37.blk (i := 0) rfl) rfl) ?_
     intro w39 hH40
     simp only [z0, z1] at hH40
     refine RL.nil ?_
     refine CW.seq ?_
     refine SR ?_
     refine V (fA underlying60 0 rfl sizeOf9 rfl) ?_
     refine V (run_ld underlying9 rfl rfl (hH40.cell (i := 0) rfl (v := .string _) rfl)) ?_
     refine RL.callP rfl hH40 (c_name_Right _  _) (run_call1 call38 rfl) ?_
     intro w41 hH42
     refine V (run_not rfl) ?_
     refine V (mV (B _) rfl) ?_
     refine RL.split (dj := 52) rfl (fun h45 => ?_) (fun h45 => ?_)
     ·refine RL.gF rfl rfl (bR (c := true) h45) rfl ?_
      refine RL.gF rfl rfl (bR (c := true) h45) rfl ?_
      refine RL.gF rfl rfl (bR (c := true) h45) rfl ?_
      refine RL.gF rfl rfl (bR (c := true) h45) rfl ?_
      refine RL.gU rfl rfl rfl ?_
      refine RL.gU rfl rfl rfl ?_
      refine RL.gU rfl rfl rfl ?_
      refine RL.gF rfl rfl (bR (c := true) h45) rfl ?_
      refine V (run_pickT (bR (c := true) h45) (v := B true) rfl) ?_
      refine V (mV (B _) rfl) ?_
      refine RL.gF rfl rfl rfl rfl ?_
      refine RL.gF rfl rfl rfl rfl ?_
      refine RL.gF rfl rfl rfl rfl ?_
      refine V (run_pickT rfl (v := B true) rfl) ?_
      refine V (mV (B _) rfl) ?_
      refine RL.gF rfl rfl rfl rfl ?_
      refine RL.gF rfl rfl rfl rfl ?_
      refine RL.gF rfl rfl rfl rfl ?_
      refine RL.gF rfl rfl rfl rfl ?_
      refine RL.gF rfl rfl rfl rfl ?_
      refine RL.gF rfl rfl rfl rfl ?_
      refine V (run_pickT rfl (v := B true) rfl) ?_
      refine RL.nil ?_
      refine CW.condT rfl ?_
      refine SR ?_
      refine V (aV (B false) rfl) ?_
      refine RL.nil ?_
      refine CW.ret ?_
      refine outP1 Tryd.results17 (congrArg B ?_) hH42.below
      first | exact (right_no1 (by omega)).symm | exact (right_no2 h0 ‹k < _› (by rw [latOk, nt ‹(!nameR _) = true›]; rfl)).symm | exact (right_no2 h0 ‹k < _› (by rw [latOk, nt ‹(!shR _) = true›, Bool.and_false])).symm | exact (right_no3 j0 ‹j < _› (by rw [varOk, nt ‹(!nameR _) = true›]; rfl)).symm | exact (right_no3 j0 ‹j < _› (by rw [varOk, decide_eq_false (by omega), Bool.and_false])).symm | (have hnm : m2 = namesS s := (by rw [hm2, hm, List.take_of_length_le (by omega), List.take_of_length_le (by omega)]; rfl); rw [hnm]; exact (right_yes hsz ‹¬ k < _› hg ‹¬ j < _› hv).symm)
     ·refine RL.gT rfl (bR (c := false) h45) ?_
      refine V (fA underlying60 1 rfl sizeOf3 rfl) ?_
      refine RL.gT rfl (bR (c := false) h45) ?_
      refine V (run_ld underlying3 rfl rfl (hH42.cell (i := 0) rfl (v := I _) rfl)) ?_
      refine RL.gT rfl (bR (c := false) h45) ?_
      refine V (run_neq rfl rfl) ?_
      refine RL.gT rfl (bR (c := false) h45) ?_
      refine V (mV (B _) rfl) ?_
      refine RL.splitP (dj := 56) rfl (fun h47 => ?_) (fun h47 => ?_)
      ·refine RL.gT rfl (bT h47) ?_
       refine V (fA underlying60 1 rfl sizeOf3 rfl) ?_
       refine RL.gT rfl (bT h47) ?_
       refine V (run_ld underlying3 rfl rfl (hH42.cell (i := 0) rfl (v := I _) rfl)) ?_
       refine RL.gT rfl (bT h47) ?_
       refine V (run_neq rfl rfl) ?_
       refine RL.gT rfl (bR (c := false) h45) ?_
       refine V (run_pickT (bT h47) (v := B _) rfl) ?_
       refine V (run_pickF (bR (c := false) h45) (v := B _) rfl) ?_
       refine V (mV (B _) rfl) ?_
       refine RL.splitP (dj := 62) rfl (fun h49 => ?_) (fun h49 => ?_)
       ·refine RL.gF rfl rfl (bT h49) rfl ?_
        refine RL.gF rfl rfl (bT h49) rfl ?_
        refine RL.gF rfl rfl (bT h49) rfl ?_
        refine V (run_pickT (bT h49) (v := B true) rfl) ?_
        refine V (mV (B _) rfl) ?_
        refine RL.gF rfl rfl rfl rfl ?_
        refine RL.gF rfl rfl rfl rfl ?_
        refine RL.gF rfl rfl rfl rfl ?_
        refine RL.gF rfl rfl rfl rfl ?_
        refine RL.gF rfl rfl rfl rfl ?_
        refine RL.gF rfl rfl rfl rfl ?_
        refine V (run_pickT rfl (v := B true) rfl) ?_
        refine RL.nil ?_
        refine CW.condT rfl ?_
        refine SR ?_
        refine V (aV (B false) rfl) ?_
        refine RL.nil ?_
        refine CW.ret ?_
        refine outP1 Tryd.results17 (congrArg B ?_) hH42.below
        first | exact (right_no1 (by omega)).symm | exact (right_no2 h0 ‹k < _› (by rw [latOk, nt ‹(!nameR _) = true›]; rfl)).symm | exact (right_no2 h0 ‹k < _› (by rw [latOk, nt ‹(!shR _) = true›, Bool.and_false])).symm | exact (right_no3 j0 ‹j < _› (by rw [varOk, nt ‹(!nameR _) = true›]; rfl)).symm | exact (right_no3 j0 ‹j < _› (by rw [varOk, decide_eq_false (by omega), Bool.and_false])).symm | (have hnm : m2 = namesS s := (by rw [hm2, hm, List.take_of_length_le (by omega), List.take_of_length_le (by omega)]; rfl); rw [hnm]; exact (right_yes hsz ‹¬ k < _› hg ‹¬ j < _› hv).symm)
       ·refine RL.gT rfl (bF h49) ?_
        refine V (fA underlying60 2 rfl sizeOf3 rfl) ?_
        refine RL.gT rfl (bF h49) ?_
        refine V (run_ld underlying3 rfl rfl (hH42.cell (i := 0) rfl (v := I _) rfl)) ?_
        refine RL.gT rfl (bF h49) ?_
        refine V (run_lss rfl rfl) ?_
        refine V (run_pickF (bF h49) (v := B _) rfl) ?_
        refine V (mV (B _) rfl) ?_
        refine RL.splitP (dj := 67) rfl (fun h51 => ?_) (fun h51 => ?_)
        ·refine RL.gF rfl rfl (bT h51) rfl ?_
         refine RL.gF rfl rfl (bT h51) rfl ?_
         refine RL.gF rfl rfl (bT h51) rfl ?_
         refine RL.gF rfl rfl (bT h51) rfl ?_
         refine RL.gF rfl rfl (bT h51) rfl ?_
         refine RL.gF rfl rfl (bT h51) rfl ?_
         refine V (run_pickT (bT h51) (v := B true) rfl) ?_
         refine RL.nil ?_
         refine CW.condT rfl ?_
         refine SR ?_
         refine V (aV (B false) rfl) ?_
         refine RL.nil ?_
         refine CW.ret ?_
         refine outP1 Tryd.results17 (congrArg B ?_) hH42.below
         first | exact (right_no1 (by omega)).symm | exact (right_no2 h0 ‹k < _› (by rw [latOk, nt ‹(!nameR _) = true›]; rfl)).symm | exact (right_no2 h0 ‹k < _› (by rw [latOk, nt ‹(!shR _) = true›, Bool.and_false])).symm | exact (right_no3 j0 ‹j < _› (by rw [varOk, nt ‹(!nameR _) = true›]; rfl)).symm | exact (right_no3 j0 ‹j < _› (by rw [varOk, decide_eq_false (by omega), Bool.and_false])).symm | (have hnm : m2 = namesS s := (by rw [hm2, hm, List.take_of_length_le (by omega), List.take_of_length_le (by omega)]; rfl); rw [hnm]; exact (right_yes hsz ‹¬ k < _› hg ‹¬ j < _› hv).symm)
        ·refine RL.gT rfl (bF h51) ?_
         refine V (fA underlying60 2 rfl sizeOf3 rfl) ?_
         refine RL.gT rfl (bF h51) ?_
         refine V (run_ld underlying3 rfl rfl (hH42.cell (i := 0) rfl (v := I _) rfl)) ?_
         refine RL.gT rfl (bF h51) ?_
         refine V (fA underlying25 0 rfl sizeOf22 e1_33) ?_
         refine RL.gT rfl (bF h51) ?_
         refine V (run_ldV (hs.lats.sl.hp hH42) underlying22 rfl rfl (hH42.cell (i := 2) rfl rfl)) ?_
         refine RL.gT rfl (bF h51) ?_
         refine V (run_lenSl (hs.lats.sl.hp hH42) rfl underlying22 rfl) ?_
         refine RL.gT rfl (bF h51) ?_
         refine V (run_geq rfl rfl) ?_
         refine V (run_pickF (bF h51) (v := B _) rfl) ?_
         refine RL.nil ?_
         refine CW.condP rfl (fun h53 => ?_) (fun h53 => ?_)
         ·refine SR ?_
          refine V (aV (B false) rfl) ?_
          refine RL.nil ?_
          refine CW.ret ?_
          refine outP1 Tryd.results17 (congrArg B ?_) hH42.below
          first | exact (right_no1 (by omega)).symm | exact (right_no2 h0 ‹k < _› (by rw [latOk, nt ‹(!nameR _) = true›]; rfl)).symm | exact (right_no2 h0 ‹k < _› (by rw [latOk, nt ‹(!shR _) = true›, Bool.and_false])).symm | exact (right_no3 j0 ‹j < _› (by rw [varOk, nt ‹(!nameR _) = true›]; rfl)).symm | exact (right_no3 j0 ‹j < _› (by rw [varOk, decide_eq_false (by omega), Bool.and_false])).symm | (have hnm : m2 = namesS s := (by rw [hm2, hm, List.take_of_length_le (by omega), List.take_of_length_le (by omega)]; rfl); rw [hnm]; exact (right_yes hsz ‹¬ k < _› hg ‹¬ j < _› hv).symm)
         ·refine CW.skip ?_
          refine CW.region ?_
          refine V (run_move e3_33) ?_
          refine V (fA underlying60 0 rfl sizeOf9 rfl) ?_
          refine V (run_ld underlying9 rfl rfl (hH42.cell (i := 0) rfl (v := .string _) rfl)) ?_
          refine RL.new rfl hH42 (f := fun b => (.slice (some ⟨b, 0, none⟩) 1 1)) (run_mkL underlying75 rfl rfl (sz := 1) (vs := [.string _]) rfl rfl (by decide) (by decide) rfl rfl) ?_
          intro b56 w54 hH55
          (try simp only [List.flatMap_cons, List.flatMap_nil, clI, clB, clS, clP, clL, clA, List.append_nil, List.cons_append, List.nil_append] at hH55)
          refine RL.app rfl hH55 (i := 2) rfl (hH55.slBlk (i := 0) (n := 1) (sz := 1) rfl rfl (by decide)) rfl rfl underlying75 rfl rfl (size := 1) (bytes := 16) rfl rfl rfl (by decide) (by simp [Value.oneCell']) (by omega) (by simp only [maxLen]; omega) ?_
          intro v57 w58 hH59
          simp only [z0, z1] at hH59
          refine V (run_assign (by conv => lhs; whnf)) ?_
          refine RL.nil ?_
          refine CW.region ?_
          refine V (run_add e44_33 rfl (by omega)) ?_
          refine V (mV (I _) rfl) ?_
          refine RL.nil ?_
          refine ⟨(j + 1, m2 ++ [(s.vars.getD j.toNat var0).name], v57), ?_, fr33.u4.u4.u4.u4.u4.u4.u4.u4.u4.u1.u1.u1, (Hp.conv (hH59.sub (sQ (sQ sR))) (by first | rfl | simp)), rfl, (congrArg I (by first | rfl | omega)), ?_, ?_, ?_, ?_, ?_⟩
          ·((try dsimp only); omega)
          ·omega
          ·omega
          ·rw [vnames_next j0 ‹j < _›, hm2, List.append_assoc]
          ·simp only [List.length_append, List.length_singleton]; omega
          ·exact fun i a b => if e : i = j then e ▸ (by rw [varOk, nf ‹(!nameR _) = false›, Bool.true_and, decide_eq_true_eq]; omega) else hv i a (by omega)
      ·refine RL.gF rfl rfl (bF h47) rfl ?_
       refine RL.gF rfl rfl (bF h47) rfl ?_
       refine RL.gF rfl rfl (bF h47) rfl ?_
       refine RL.gT rfl (bR (c := false) h45) ?_
       refine V (run_pickF (bF h47) (v := B false) rfl) ?_
       refine V (run_pickF (bR (c := false) h45) (v := B _) rfl) ?_
       refine V (mV (B _) rfl) ?_
       refine RL.gT rfl rfl ?_
       refine V (fA underlying60 2 rfl sizeOf3 rfl) ?_
       refine RL.gT rfl rfl ?_
       refine V (run_ld underlying3 rfl rfl (hH42.cell (i := 0) rfl (v := I _) rfl)) ?_
       refine RL.gT rfl rfl ?_
       refine V (run_lss rfl rfl) ?_
       refine V (run_pickF rfl (v := B _) rfl) ?_
       refine V (mV (B _) rfl) ?_
       refine RL.splitP (dj := 67) rfl (fun h61 => ?_) (fun h61 => ?_)
       ·refine RL.gF rfl rfl (bT h61) rfl ?_
        refine RL.gF rfl rfl (bT h61) rfl ?_
        refine RL.gF rfl rfl (bT h61) rfl ?_
        refine RL.gF rfl rfl (bT h61) rfl ?_
        refine RL.gF rfl rfl (bT h61) rfl ?_
        refine RL.gF rfl rfl (bT h61) rfl ?_
        refine V (run_pickT (bT h61) (v := B true) rfl) ?_
        refine RL.nil ?_
        refine CW.condT rfl ?_
        refine SR ?_
        refine V (aV (B false) rfl) ?_
        refine RL.nil ?_
        refine CW.ret ?_
        refine outP1 Tryd.results17 (congrArg B ?_) hH42.below
        first | exact (right_no1 (by omega)).symm | exact (right_no2 h0 ‹k < _› (by rw [latOk, nt ‹(!nameR _) = true›]; rfl)).symm | exact (right_no2 h0 ‹k < _› (by rw [latOk, nt ‹(!shR _) = true›, Bool.and_false])).symm | exact (right_no3 j0 ‹j < _› (by rw [varOk, nt ‹(!nameR _) = true›]; rfl)).symm | exact (right_no3 j0 ‹j < _› (by rw [varOk, decide_eq_false (by omega), Bool.and_false])).symm | (have hnm : m2 = namesS s := (by rw [hm2, hm, List.take_of_length_le (by omega), List.take_of_length_le (by omega)]; rfl); rw [hnm]; exact (right_yes hsz ‹¬ k < _› hg ‹¬ j < _› hv).symm)
       ·refine RL.gT rfl (bF h61) ?_
        refine V (fA underlying60 2 rfl sizeOf3 rfl) ?_
        refine RL.gT rfl (bF h61) ?_
        refine V (run_ld underlying3 rfl rfl (hH42.cell (i := 0) rfl (v := I _) rfl)) ?_
        refine RL.gT rfl (bF h61) ?_
        refine V (fA underlying25 0 rfl sizeOf22 e1_33) ?_
        refine RL.gT rfl (bF h61) ?_
        refine V (run_ldV (hs.lats.sl.hp hH42) underlying22 rfl rfl (hH42.cell (i := 2) rfl rfl)) ?_
        refine RL.gT rfl (bF h61) ?_
        refine V (run_lenSl (hs.lats.sl.hp hH42) rfl underlying22 rfl) ?_
        refine RL.gT rfl (bF h61) ?_
        refine V (run_geq rfl rfl) ?_
        refine V (run_pickF (bF h61) (v := B _) rfl) ?_
        refine RL.nil ?_
        refine CW.condP rfl (fun h63 => ?_) (fun h63 => ?_)
        ·refine SR ?_
         refine V (aV (B false) rfl) ?_
         refine RL.nil ?_
         refine CW.ret ?_
         refine outP1 Tryd.results17 (congrArg B ?_) hH42.below
         first | exact (right_no1 (by omega)).symm | exact (right_no2 h0 ‹k < _› (by rw [latOk, nt ‹(!nameR _) = true›]; rfl)).symm | exact (right_no2 h0 ‹k < _› (by rw [latOk, nt ‹(!shR _) = true›, Bool.and_false])).symm | exact (right_no3 j0 ‹j < _› (by rw [varOk, nt ‹(!nameR _) = true›]; rfl)).symm | exact (right_no3 j0 ‹j < _› (by rw [varOk, decide_eq_false (by omega), Bool.and_false])).symm | (have hnm : m2 = namesS s := (by rw [hm2, hm, List.take_of_length_le (by omega), List.take_of_length_le (by omega)]; rfl); rw [hnm]; exact (right_yes hsz ‹¬ k < _› hg ‹¬ j < _› hv).symm)
        ·refine CW.skip ?_
         refine CW.region ?_
         refine V (run_move e3_33) ?_
         refine V (fA underlying60 0 rfl sizeOf9 rfl) ?_
         refine V (run_ld underlying9 rfl rfl (hH42.cell (i := 0) rfl (v := .string _) rfl)) ?_
         refine RL.new rfl hH42 (f := fun b => (.slice (some ⟨b, 0, none⟩) 1 1)) (run_mkL underlying75 rfl rfl (sz := 1) (vs := [.string _]) rfl rfl (by decide) (by decide) rfl rfl) ?_
         intro b66 w64 hH65
         (try simp only [List.flatMap_cons, List.flatMap_nil, clI, clB, clS, clP, clL, clA, List.append_nil, List.cons_append, List.nil_append] at hH65)
         refine RL.app rfl hH65 (i := 2) rfl (hH65.slBlk (i := 0) (n := 1) (sz := 1) rfl rfl (by decide)) rfl rfl underlying75 rfl rfl (size := 1) (bytes := 16) rfl rfl rfl (by decide) (by simp [Value.oneCell']) (by omega) (by simp only [maxLen]; omega) ?_
         intro v67 w68 hH69
         simp only [z0, z1] at hH69
         refine V (run_assign (by conv => lhs; whnf)) ?_
         refine RL.nil ?_
         refine CW.region ?_
         refine V (run_add e44_33 rfl (by omega)) ?_
         refine V (mV (I _) rfl) ?_
         refine RL.nil ?_
         refine ⟨(j + 1, m2 ++ [(s.vars.getD j.toNat var0).name], v67), ?_, fr33.u4.u4.u4.u4.u4.u4.u4.u4.u4.u1.u1.u1, (Hp.conv (hH69.sub (sQ (sQ sR))) (by first | rfl | simp)), rfl, (congrArg I (by first | rfl | omega)), ?_, ?_, ?_, ?_, ?_⟩
         ·((try dsimp only); omega)
         ·omega
         ·omega
         ·rw [vnames_next j0 ‹j < _›, hm2, List.append_assoc]
         ·simp only [List.length_append, List.length_singleton]; omega
         ·exact fun i a b => if e : i = j then e ▸ (by rw [varOk, nf ‹(!nameR _) = false›, Bool.true_and, decide_eq_true_eq]; omega) else hv i a (by omega)
    ·refine CW.exit (id := 2) rfl ?_
     refine SR ?_
     refine V (run_move e3_33) ?_
     refine RL.callP rfl hH33 (c_name_Twice _ _  _ (hH33.sl (i := 0) rfl)) (run_call1 call39 rfl) ?_
     intro w70 hH71
     refine V (run_lss rfl rfl) ?_
     refine V (aV (B _) rfl) ?_
     refine RL.nil ?_
     refine CW.ret ?_
     refine outP1 Tryd.results17 (congrArg B ?_) hH71.below
     first | exact (right_no1 (by omega)).symm | exact (right_no2 h0 ‹k < _› (by rw [latOk, nt ‹(!nameR _) = true›]; rfl)).symm | exact (right_no2 h0 ‹k < _› (by rw [latOk, nt ‹(!shR _) = true›, Bool.and_false])).symm | exact (right_no3 j0 ‹j < _› (by rw [varOk, nt ‹(!nameR _) = true›]; rfl)).symm | exact (right_no3 j0 ‹j < _› (by rw [varOk, decide_eq_false (by omega), Bool.and_false])).symm | (have hnm : m2 = namesS s := (by rw [hm2, hm, List.take_of_length_le (by omega), List.take_of_length_le (by omega)]; rfl); rw [hnm]; exact (right_yes hsz ‹¬ k < _› hg ‹¬ j < _› hv).symm)

theorem c_clearancelaw13_words (v : Value) (l : List Tx) (hl : l.length ≤ 1000) (w : World) (hs : Sl w v 1 l.length (txL l)) : Calls Tryd.prog 25 #[v] w (PureRow 38 2 (wordsTo l l.length).length ((wordsTo l l.length).flatMap wdL) w) := by
 refine enter Tryd.func25 rfl Tryd.ntmps25 rfl ?_
 have hH := Hp.start w
 refine SR ?_
 refine V (aV (.slice none 0 0) rfl) ?_
 refine RL.nil ?_
 refine SR ?_
 refine V (aV (.slice none 0 0) rfl) ?_
 have hH1 := hH.nilRow 38 2
 refine RL.nil ?_
 refine CW.seq ?_
 refine SR ?_
 refine V (run_move (by conv => lhs; whnf)) ?_
 refine V (run_lenSl (hs.hp hH1) rfl underlying75 rfl) ?_
 refine V (mV (I 0) rfl) ?_
 refine RL.nil ?_
 refine CW.block ?_
 refine CW.loop (G := (Int) × (List Wd) × (Value)) (fun (⟨k, m, v3⟩ : (Int) × (List Wd) × (Value)) s' w' => (Fr [3, 4, 5, 8, 9, 10, 11, 12, 13, 14, 15, 16, 17, 18, 19, 20] _ s') ∧ (Hp w w' (.row v3 38 2 (m.length) (m.flatMap wdL) :: _)) ∧ (s' 3 = v3) ∧ (s' 8 = I k) ∧ (0 ≤ k) ∧ (k ≤ l.length) ∧ (m = wordsTo l k) ∧ ((m.length : Int) = k)) (fun (⟨k, m, v3⟩ : (Int) × (List Wd) × (Value)) => (l.length - k).toNat) ((0, [], (.slice none 0 0 : Value))) ⟨Fr.refl _ _, hH1, rfl, rfl, (by omega), (by omega), rfl, rfl⟩ ?_
 rintro ⟨k, m, v3⟩ sg2 w2 ⟨fr2, hH2, e3_2, e8_2, h0, hk, hm, hml⟩
 have e2_2 := (fr2 2 rfl).trans (by conv => lhs; whnf)
 have e6_2 := (fr2 6 rfl).trans (by conv => lhs; whnf)
 have e7_2 : sg2 7 = I _ := (fr2 7 rfl).trans rfl
 refine SR ?_
 refine V (run_lss e8_2 e7_2) ?_
 refine RL.nil ?_
 refine CW.seq ?_
 refine CW.condP rfl (fun h4 => ?_) (fun h4 => ?_)
 ·refine CW.skip ?_
  refine CW.seq ?_
  refine CW.block ?_
  refine SR ?_
  refine V (run_move e8_2) ?_
  refine V (run_indexAddrS (hs.hp hH2) underlying75 sizeOf9 e6_2 e8_2 (by omega)) ?_
  refine V (run_ld underlying9 rfl rfl ((hs.hp hH2).cell _ _ (txL_at (by omega)))) ?_
  refine V (aV (I _) rfl) ?_
  refine V (aV (.string _) rfl) ?_
  refine RL.nil ?_
  refine CW.region ?_
  refine V (run_move e3_2) ?_
  refine V (mV (.string _) rfl) ?_
  refine V (mV (I _) rfl) ?_
  refine V (run_add rfl rfl (by omega)) ?_
  refine V (run_bld (vs := [(0, S _), (1, I _)]) rfl (built_wdL _ _)) ?_
  refine RL.new rfl hH2 (f := fun b => (.slice (some ⟨b, 0, none⟩) 1 1)) (run_mkRecs wdL_len underlying39 rfl rfl rfl (l := [(⟨l.getD k.toNat tx0, 10 + k⟩ : Wd)]) rfl (by decide) (by decide) rfl) ?_
  intro b7 w5 hH6
  refine RL.app rfl hH6 (i := 1) rfl (Hp.slFlat wdL_len hH6 (i := 0) (l := [(⟨l.getD k.toNat tx0, 10 + k⟩ : Wd)]) rfl (by simp [maxLen])) rfl rfl underlying39 rfl rfl (size := 2) (bytes := 24) rfl rfl rfl (by decide) (by simp [wdL, Value.oneCell']) (by simp only [List.length_cons, List.length_nil]; omega) (by simp only [maxLen, List.length_cons, List.length_nil]; omega) ?_
  intro v8 w9 hH10
  simp only [z0, z1] at hH10
  refine V (run_assign (by conv => lhs; whnf)) ?_
  refine RL.nil ?_
  refine CW.region ?_
  refine V (run_add e8_2 rfl (by omega)) ?_
  refine V (mV (I _) rfl) ?_
  refine RL.nil ?_
  refine ⟨(k + 1, m ++ [⟨l.getD k.toNat tx0, 10 + k⟩], v8), ?_, fr2.u4.u4.u4.u4, (Hp.conv (hH10.sub (sQ sR)) (by first | rfl | simp)), rfl, (congrArg I (by first | rfl | omega)), ?_, ?_, ?_, ?_⟩
  ·((try dsimp only); omega)
  ·omega
  ·omega
  ·rw [words_next h0, ← hm]
  ·simp only [List.length_append, List.length_singleton]; omega
 ·refine CW.exit (id := 0) rfl ?_
  refine SR ?_
  refine V (run_move e3_2) ?_
  refine V (run_assign (by conv => lhs; whnf)) ?_
  refine RL.nil ?_
  refine CW.ret ?_
  exact outR Tryd.results25 rfl hH2 (i := 0) rfl (by rw [hm, show k = l.length by omega]) (by rw [hm, show k = l.length by omega])

theorem c_clearancelaw13_alive  (w : World) (hT : Tab w) : Calls Tryd.prog 8 #[] w (Pure (B true) w) := by
 refine enter Tryd.func8 rfl Tryd.ntmps8 rfl ?_
 have hH := Hp.start w
 refine SR ?_
 refine V (aV (B false) rfl) ?_
 refine RL.nil ?_
 refine SR ?_
 refine V (run_bld (vs := []) rfl built_scp0) ?_
 refine V (run_bld (vs := [(0, .string ⟨#[107]⟩)]) rfl (built_wdLs _)) ?_
 refine RL.new rfl hH (f := fun b => (.slice (some ⟨b, 0, none⟩) 2 2)) (run_mkL underlying75 rfl rfl (sz := 1) (vs := [.string ⟨#[97]⟩, .string ⟨#[98]⟩]) rfl rfl (by decide) (by decide) rfl rfl) ?_
 intro b3 w1 hH2
 (try simp only [List.flatMap_cons, List.flatMap_nil, clI, clB, clS, clP, clL, clA, List.append_nil, List.cons_append, List.nil_append] at hH2)
 refine RL.callR rfl hH2 (c_clearancelaw13_words _ [exA, exB] (by decide) _ (hH2.slBlk (i := 0) (n := 2) (sz := 1) rfl rfl (by decide))) (run_call1 call25 rfl) ?_
 intro v6 w4 hH5
 obtain ⟨Z7, hz8, hv9, -⟩ := hH5.frz ((Kw w))
 have hH10 : Hp _ w4 (_ :: Z7) := hz8.zin0 (L := [_])
 have hc11 : CmdV (Kz (Kw w) Z7) (mkC 1 ⟨exK, 0⟩ v6 (wordsTo [exA, exB] 2)) := mkC_v hv9
 refine V (run_bld (vs := [(0, I 1), (2, .agg (wdL ⟨exK, 0⟩).toArray), (3, v6)]) rfl (built_cmdN (one_slice hv9).2 1 ⟨exK, 0⟩ (wordsTo [exA, exB] 2))) ?_
 refine RL.callF rfl hH10 (c_scope_Add (Kz (Kw w) Z7) scp0 (mkC 1 ⟨exK, 0⟩ v6 (wordsTo [exA, exB] 2)) (al_sm0 _) _ (hH10.kz (Le.refl _) (fun x hx => (mT hx))) (scp0_v _) (hc11.mono (Le.zz (fun x hx => hx))) (hT.hp hH10)) (run_call2 call19 rfl rfl) ?_
 intro v14 w15 Z17 hH16 hp18
 have hH19 : Hp _ w15 (_ :: (Z17 ++ Z7)) := hH16.zin (L := [_]) (L' := Z7)
 obtain ⟨q20, rfl, qsc21, qv22⟩ := hp18
 refine RL.new rfl hH19 (f := fun b => (.pointer (some ⟨b, 0, none⟩))) (run_alloc Tryd.zeroValue25) ?_
 intro b25 w23 hH24
 have hq26 := qv22.mono Le.kk
 refine RL.set hH24 (i := 0) rfl (run_stW (c' := (scpL q20).toArray) rfl rfl rfl (scpL_one hq26) (hH24.blk (i := 0) rfl) rfl) ?_
 intro w27 hH28
 simp only [z0, z1] at hH28
 refine RL.nil ?_
 refine SR ?_
 refine V (run_bld (vs := [(0, .string ⟨#[107]⟩)]) rfl (built_wdLs _)) ?_
 refine RL.new rfl hH28 (f := fun b => (.slice (some ⟨b, 0, none⟩) 1 1)) (run_mkL underlying75 rfl rfl (sz := 1) (vs := [.string ⟨#[120]⟩]) rfl rfl (by decide) (by decide) rfl rfl) ?_
 intro b31 w29 hH30
 (try simp only [List.flatMap_cons, List.flatMap_nil, clI, clB, clS, clP, clL, clA, List.append_nil, List.cons_append, List.nil_append] at hH30)
 refine RL.callR rfl hH30 (c_clearancelaw13_words _ [exX] (by decide) _ (hH30.slBlk (i := 0) (n := 1) (sz := 1) rfl rfl (by decide))) (run_call1 call25 rfl) ?_
 intro v34 w32 hH33
 obtain ⟨Z35, hz36, hv37, -⟩ := hH33.frz ((Kw w))
 have hH38 : Hp _ w32 (_ :: _ :: _ :: (Z35 ++ (Z17 ++ Z7))) := hz36.zin (L := [_, _, _]) (L' := (Z17 ++ Z7))
 have hc39 : CmdV (Kz (Kw w) Z35) (mkC 6 ⟨exK, 0⟩ v34 (wordsTo [exX] 1)) := mkC_v hv37
 refine V (run_bld (vs := [(0, I 6), (2, .agg (wdL ⟨exK, 0⟩).toArray), (3, v34)]) rfl (built_cmdN (one_slice hv37).2 6 ⟨exK, 0⟩ (wordsTo [exX] 1))) ?_
 refine RL.new rfl hH38 (f := fun b => (.pointer (some ⟨b, 0, none⟩))) (run_alloc Tryd.zeroValue45) ?_
 intro b42 w40 hH41
 refine RL.set hH41 (i := 0) rfl (run_stW (c' := (cmdL (mkC 6 ⟨exK, 0⟩ v34 (wordsTo [exX] 1))).toArray) rfl rfl rfl (cmdL_one hc39) (hH41.blk (i := 0) rfl) rfl) ?_
 intro w43 hH44
 simp only [z0, z1] at hH44
 refine RL.nil ?_
 refine SR ?_
 refine V (run_ldA (cs := scpL _) underlying25 rfl rfl rfl (rangeAt_cells (hH44.blk (i := 2) rfl))) ?_
 refine V (run_ldA (cs := cmdL _) underlying45 rfl rfl rfl (rangeAt_cells (hH44.blk (i := 0) rfl))) ?_
 refine RL.callF rfl hH44 (c_scope_Add (Kz (Kw w) (Z35 ++ (Z17 ++ Z7))) q20 (mkC 6 ⟨exK, 0⟩ v34 (wordsTo [exX] 1)) (al_sm (qsc21.trans (al_1 _)) (by decide) _) _ (hH44.kz (Le.refl _) (fun x hx => (mT (mT (mT (mT hx)))))) (hq26.mono (Le.zz (fun x hx => (List.mem_append_right _ hx)))) (hc39.mono (Le.zz (fun x hx => (List.mem_append_left _ hx)))) (hT.hp hH44)) (run_call2 call19 rfl rfl) ?_
 intro v47 w48 Z50 hH49 hp51
 have hH52 : Hp _ w48 (_ :: _ :: _ :: _ :: (Z50 ++ (Z35 ++ (Z17 ++ Z7)))) := hH49.zin (L := [_, _, _, _]) (L' := (Z35 ++ (Z17 ++ Z7)))
 obtain ⟨q53, rfl, qsc54, qv55⟩ := hp51
 refine RL.new rfl hH52 (f := fun b => (.pointer (some ⟨b, 0, none⟩))) (run_alloc Tryd.zeroValue25) ?_
 intro b58 w56 hH57
 have hq59 := qv55.mono Le.kk
 obtain ⟨hl1, hl2, hl3, hl4, hl5⟩ := al_3 (qsc54.trans (al_2 (qsc21.trans (al_1 _)) _)) v34
 refine RL.set hH57 (i := 0) rfl (run_stW (c' := (scpL q53).toArray) rfl rfl rfl (scpL_one hq59) (hH57.blk (i := 0) rfl) rfl) ?_
 intro w60 hH61
 simp only [z0, z1] at hH61
 refine RL.nil ?_
 refine SR ?_
 refine V (run_ldA (cs := scpL _) underlying25 rfl rfl rfl (rangeAt_cells (hH61.blk (i := 0) rfl))) ?_
 refine RL.callP rfl hH61 (c_scope_Find q53 exX _ ((hq59.mono (Le.zz (fun x hx => hx))).mono (hH61.kz (Le.refl _) (fun x hx => (mT (mT (mT (mT (mT hx))))))))) (run_call2 call9 rfl (show _ = Value.string ⟨#[120]⟩ from rfl)) ?_
 intro w62 hH63
 refine V (run_move (by conv => lhs; whnf)) ?_
 refine V (run_extract rfl (v := I _) rfl) ?_
 refine V (run_extract rfl (v := I _) rfl) ?_
 refine V (aV (I _) rfl) ?_
 refine V (aV (I _) rfl) ?_
 refine RL.nil ?_
 refine SR ?_
 refine V (fA underlying25 0 rfl sizeOf22 rfl) ?_
 refine V (run_ldV (hq59.lats.mono (hH63.kz (Le.refl _) (fun x hx => (mT (mT (mT (mT (mT hx)))))))).sl underlying22 rfl rfl (hH63.cell (i := 0) rfl rfl)) ?_
 refine V (run_lenSl (hq59.lats.mono (hH63.kz (Le.refl _) (fun x hx => (mT (mT (mT (mT (mT hx)))))))).sl rfl underlying22 rfl) ?_
 refine V (run_eql rfl rfl) ?_
 refine V (mV (B _) rfl) ?_
 refine RL.gT rfl (bT ((by omega))) ?_
 refine V (mV (I _) rfl) ?_
 refine RL.gT rfl (bT ((by omega))) ?_
 refine V (run_eql rfl rfl) ?_
 refine V (run_pickT (bT ((by omega))) (v := B _) rfl) ?_
 refine V (mV (B _) rfl) ?_
 refine RL.gT rfl (bT ((by rw [hl2]))) ?_
 refine V (mV (I _) rfl) ?_
 refine RL.gT rfl (bT ((by rw [hl2]))) ?_
 refine V (run_eql rfl rfl) ?_
 refine V (run_pickT (bT ((by rw [hl2]))) (v := B _) rfl) ?_
 refine V (mV (B _) rfl) ?_
 refine RL.gT rfl (bT ((by rw [hl3]))) ?_
 refine V (run_ldA (cs := scpL _) underlying25 rfl rfl rfl (rangeAt_cells (hH63.blk (i := 0) rfl))) ?_
 refine RL.gT rfl (bT ((by rw [hl3]))) ?_
 refine V (run_ldA (cs := cmdL _) underlying45 rfl rfl rfl (rangeAt_cells (hH63.blk (i := 1) rfl))) ?_
 refine RL.gT rfl (bT ((by rw [hl3]))) ?_
 refine RL.callP rfl hH63 (c_scope_Fault q53 (mkC 6 ⟨exK, 0⟩ v34 (wordsTo [exX] 1)) (al_sm (qsc54.trans (al_2 (qsc21.trans (al_1 _)) _)) (by decide) _) _ ((hq59.mono (Le.zz (fun x hx => hx))).mono (hH63.kz (Le.refl _) (fun x hx => (mT (mT (mT (mT (mT hx)))))))) ((hc39.mono (Le.zz (fun x hx => (List.mem_append_right _ (List.mem_append_left _ hx))))).mono (hH63.kz (Le.refl _) (fun x hx => (mT (mT (mT (mT (mT hx)))))))) (hT.hp hH63)) (run_call2 call15 rfl rfl) ?_
 intro w67 hH68
 refine RL.gT rfl (bT ((by rw [hl3]))) ?_
 refine V (run_bld (vs := [(0, I 3), (1, I 10)]) rfl (built_fltL _ _)) ?_
 refine RL.gT rfl (bT ((by rw [hl3]))) ?_
 refine V (run_eqlT (eq_flt _ _) rfl rfl) ?_
 refine V (run_pickT (bT ((by rw [hl3]))) (v := B _) rfl) ?_
 refine V (mV (B _) rfl) ?_
 refine RL.gT rfl (bT (hl4)) ?_
 refine V (run_ldA (cs := scpL _) underlying25 rfl rfl rfl (rangeAt_cells (hH68.blk (i := 0) rfl))) ?_
 refine RL.gT rfl (bT (hl4)) ?_
 refine RL.callP rfl hH68 (c_scope_Right q53 _ ((hq59.mono (Le.zz (fun x hx => hx))).mono (hH68.kz (Le.refl _) (fun x hx => (mT (mT (mT (mT (mT hx)))))))) (hT.hp hH68)) (run_call1 call17 rfl) ?_
 intro w70 hH71
 refine V (run_pickT (bT (hl4)) (v := B _) rfl) ?_
 refine V (aV (B _) rfl) ?_
 refine RL.nil ?_
 refine CW.ret ?_
 refine outP1 Tryd.results8 (congrArg B ?_) hH71.below
 first | rfl | exact hl5

theorem c_clearancelaw13_ScopeFinds (s : Scp) (t : Tx) (v : Value) (l : List Flt) (w : World) (hs : ScpV (Kw w) s) (hl : Sl w v 2 l.length (l.flatMap fltL)) (hT : Tab w) : Calls Tryd.prog 3 #[.agg (scpC s), S t, v] w (Pure (B true) w) := by
 have hml := hl.small
 unfold maxLen at hml
 refine enter Tryd.func3 rfl Tryd.ntmps3 rfl ?_
 have hH := Hp.start w
 refine SR ?_
 refine RL.new rfl hH (f := fun b => (.pointer (some ⟨b, 0, none⟩))) (run_box (v := .agg _) rfl) ?_
 intro b3 w1 hH2
 refine V (aV (B false) rfl) ?_
 refine RL.nil ?_
 refine CW.seq ?_
 refine SR ?_
 refine V (run_ldA (cs := scpL _) underlying25 rfl rfl rfl (rangeAt_cells (hH2.blk (i := 0) rfl))) ?_
 refine RL.callP rfl hH2 (c_clearancelaw13_Big _  _ (hs.mono hH2.kw)) (run_call1 call7 rfl) ?_
 intro w4 hH5
 refine V (mV (B _) rfl) ?_
 refine RL.split (dj := 11) rfl (fun h7 => ?_) (fun h7 => ?_)
 ·refine RL.gF rfl rfl (bR (c := true) h7) rfl ?_
  refine RL.gF rfl rfl (bR (c := true) h7) rfl ?_
  refine RL.gF rfl rfl (bR (c := true) h7) rfl ?_
  refine V (run_pickT (bR (c := true) h7) (v := B true) rfl) ?_
  refine RL.nil ?_
  refine CW.condT rfl ?_
  refine SR ?_
  refine RL.callP rfl hH5 (c_clearancelaw13_alive   _ (hT.hp hH5)) (run_call0 call8) ?_
  intro w8 hH9
  refine V (aV (B _) rfl) ?_
  refine RL.nil ?_
  refine CW.ret ?_
  refine outP1 Tryd.results3 (congrArg B ?_) hH9.below
  rfl
 ·refine RL.gT rfl (bR (c := false) h7) ?_
  refine V (run_move (by conv => lhs; whnf)) ?_
  refine RL.gT rfl (bR (c := false) h7) ?_
  refine V (run_lenSl (hl.hp hH5) rfl underlying26 rfl) ?_
  refine RL.gT rfl (bR (c := false) h7) ?_
  refine V (run_gtr rfl rfl) ?_
  refine V (run_pickF (bR (c := false) h7) (v := B _) rfl) ?_
  refine RL.nil ?_
  refine CW.condP rfl (fun h12 => ?_) (fun h12 => ?_)
  ·refine SR ?_
   refine RL.callP rfl hH5 (c_clearancelaw13_alive   _ (hT.hp hH5)) (run_call0 call8) ?_
   intro w13 hH14
   refine V (aV (B _) rfl) ?_
   refine RL.nil ?_
   refine CW.ret ?_
   refine outP1 Tryd.results3 (congrArg B ?_) hH14.below
   rfl
  ·refine CW.skip ?_
   refine SR ?_
   refine V (run_ldA (cs := scpL _) underlying25 rfl rfl rfl (rangeAt_cells (hH5.blk (i := 0) rfl))) ?_
   refine V (mV (.string _) rfl) ?_
   refine RL.callP rfl hH5 (c_scope_Find _ _  _ (hs.mono hH5.kw)) (run_call2 call9 rfl rfl) ?_
   intro w16 hH17
   refine V (run_move (by conv => lhs; whnf)) ?_
   refine V (run_extract rfl (v := I _) rfl) ?_
   refine V (run_extract rfl (v := I _) rfl) ?_
   refine V (aV (I _) rfl) ?_
   refine V (aV (I _) rfl) ?_
   refine RL.nil ?_
   refine SR ?_
   refine V (mV (I _) rfl) ?_
   refine V (run_ldA (cs := scpL _) underlying25 rfl rfl rfl (rangeAt_cells (hH17.blk (i := 0) rfl))) ?_
   refine V (mV (.string _) rfl) ?_
   refine RL.callP rfl hH17 (c_clearanceref13_Lat _ _  _ (hs.mono hH17.kw)) (run_call2 call10 rfl rfl) ?_
   intro w18 hH19
   refine V (run_eql rfl rfl) ?_
   refine V (mV (B _) rfl) ?_
   refine RL.gT rfl (bT (rfl)) ?_
   refine V (mV (I _) rfl) ?_
   refine RL.gT rfl (bT (rfl)) ?_
   refine V (run_ldA (cs := scpL _) underlying25 rfl rfl rfl (rangeAt_cells (hH19.blk (i := 0) rfl))) ?_
   refine RL.gT rfl (bT (rfl)) ?_
   refine V (mV (.string _) rfl) ?_
   refine RL.gT rfl (bT (rfl)) ?_
   refine RL.callP rfl hH19 (c_clearanceref13_Var _ _  _ (hs.mono hH19.kw)) (run_call2 call11 rfl rfl) ?_
   intro w21 hH22
   refine RL.gT rfl (bT (rfl)) ?_
   refine V (run_eql rfl rfl) ?_
   refine V (run_pickT (bT (rfl)) (v := B _) rfl) ?_
   refine V (mV (B _) rfl) ?_
   refine RL.gT rfl (bT (rfl)) ?_
   refine V (run_move (by conv => lhs; whnf)) ?_
   refine RL.gT rfl (bT (rfl)) ?_
   refine RL.callP rfl hH22 (c_scope_Least _ _  _ (hl.hp hH22)) (run_call1 call12 rfl) ?_
   intro w24 hH25
   refine RL.gT rfl (bT (rfl)) ?_
   refine V (run_move (by conv => lhs; whnf)) ?_
   refine RL.gT rfl (bT (rfl)) ?_
   refine RL.callP rfl hH25 (c_clearanceref13_Least _ _  _ (hl.hp hH25)) (run_call1 call13 rfl) ?_
   intro w26 hH27
   refine RL.gT rfl (bT (rfl)) ?_
   refine V (run_eqlT (eq_flt _ _) rfl rfl) ?_
   refine V (run_pickT (bT (rfl)) (v := B _) rfl) ?_
   refine V (mV (B _) rfl) ?_
   refine RL.gT rfl (bT (rfl)) ?_
   refine RL.callP rfl hH27 (c_clearancelaw13_alive   _ (hT.hp hH27)) (run_call0 call8) ?_
   intro w29 hH30
   refine V (run_pickT (bT (rfl)) (v := B _) rfl) ?_
   refine V (aV (B _) rfl) ?_
   refine RL.nil ?_
   refine CW.ret ?_
   refine outP1 Tryd.results3 (congrArg B ?_) hH30.below
   rfl

end Go.Proofs.YtiaifdnlkdcbiaaDoor.W
