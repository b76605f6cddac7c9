/-
  The walks of the functions that the laws of this seat reach, part 3: each returns what its plain counterpart tells, and turns nothing that was there.
-/
import Derived.Test.YtningfhcklabmaaGreatDoorProg
import Derived.Test.YtningfhcklabmaaGreatDoorEnv
import Derived.Test.YtningfhcklabmaaGreatDoorPlain
import Derived.Test.YtningfhcklabmaaGreatDoorBase
import Derived.Test.YtningfhcklabmaaGreatDoorOrd
import Derived.Test.YtningfhcklabmaaGreatDoorRel
import Derived.Test.YtningfhcklabmaaGreatDoorClo
import Derived.Test.YtningfhcklabmaaGreatDoorCov
import Derived.Test.YtningfhcklabmaaGreatDoorArr
import Derived.Test.YtningfhcklabmaaGreatDoorHas
import Derived.Test.YtningfhcklabmaaGreatDoorGrd
import Derived.Test.YtningfhcklabmaaGreatDoorStr
import Derived.Test.YtningfhcklabmaaGreatDoorVu
import Derived.Test.YtningfhcklabmaaGreatDoorShp
import Derived.Test.YtningfhcklabmaaGreatDoorShl
import Derived.Test.YtningfhcklabmaaGreatDoorShq
import Derived.Test.YtningfhcklabmaaGreatDoorShr
import Derived.Test.YtningfhcklabmaaGreatDoorCut
import Derived.Test.YtningfhcklabmaaGreatDoorRec
import Derived.Test.YtningfhcklabmaaGreatDoorOut
import Derived.Test.YtningfhcklabmaaGreatDoorScp
import Derived.Test.YtningfhcklabmaaGreatDoorScq
import Derived.Test.YtningfhcklabmaaGreatDoorByt
import Derived.Test.YtningfhcklabmaaGreatDoorNod
import Derived.Test.YtningfhcklabmaaGreatDoorSpl
import Derived.Test.YtningfhcklabmaaGreatDoorSpb
import Derived.Test.YtningfhcklabmaaGreatDoorSpt
import Derived.Test.YtningfhcklabmaaGreatDoorSpn
import Derived.Test.YtningfhcklabmaaGreatDoorSpx
import Derived.Test.YtningfhcklabmaaGreatDoorSpy
import Derived.Test.YtningfhcklabmaaGreatDoorMin
import Derived.Test.YtningfhcklabmaaGreatDoorSpellSoundPacesB
namespace Go.Proofs.YtningfhcklabmaaGreatDoor.W
open Go Go.RowKit Go.Proofs.YtningfhcklabmaaGreatDoor.E Go.Proofs.YtningfhcklabmaaGreatDoor.M
set_option linter.unusedVariables false
set_option linter.unusedSimpArgs false
set_option maxRecDepth 100000
open Tryz

theorem c_spell_constant (K : Vu) (f : Fac) (s : BitVec 64) (hR : factorR f.fc = true) (hw : wordF f.fc s = true) (w : World) (hK : Le K (Kw w)) (hf : FacV K f) (hT : Tab w) : Calls Tryz.prog 26 #[.agg (facC f), U s] w (PureF K (fun K' u => ∃ n : NodeR, u = .agg (nodeL n).toArray ∧ n.nd = constF f.fc s ∧ NodeV K' n) w) := by
 have hm1 := hf.names.small
 unfold maxLen at hm1
 have hno := (named_spec (fac_named hR)).1
 refine enter Tryz.func26 rfl Tryz.ntmps26 rfl ?_
 have hH := Hp.start w
 refine SR ?_
 refine RL.new rfl hH (f := fun b => (.pointer (some ⟨b, 0, none⟩))) (run_box (v := .agg _) rfl) ?_
 intro b3 w1 hH2
 refine RL.new rfl hH2 (f := fun b => (.pointer (some ⟨b, 0, none⟩))) (run_alloc Tryz.zeroValue28) ?_
 intro b6 w4 hH5
 refine RL.nil ?_
 refine SR ?_
 refine V (run_mkF1 (by conv => lhs; whnf)) ?_
 refine V (aV (.func _ _ _) rfl) ?_
 refine RL.nil ?_
 refine SR ?_
 refine V (run_ldFac underlying50 rfl rfl rfl (hH5.blk (i := 1) rfl)) ?_
 refine RL.callP rfl hH5 (c_spell_kind _  _) (run_call1 call42 rfl) ?_
 intro w7 hH8
 refine V (run_bld (vs := [(0, I (kindN f.fc))]) rfl (built_nodeK (kindN f.fc))) ?_
 refine RL.new rfl hH8 (f := fun b => (.pointer (some ⟨b, 0, none⟩))) (run_alloc Tryz.zeroValue28) ?_
 intro b11 w9 hH10
 refine RL.set hH10 (i := 0) rfl (run_stW (c' := (nodeL (kindR (kindN f.fc) tx0 (.slice none 0 0) [])).toArray) rfl rfl rfl (nodeL_one (kindR_v (SlV.nil (Kw w) _))) (hH10.blk (i := 0) rfl) rfl) ?_
 intro w12 hH13
 simp only [z0, z1] at hH13
 have hH14 := hH13.nilRow 28 5
 refine RL.nil ?_
 refine CW.seq ?_
 refine SR ?_
 refine V (fA underlying50 0 rfl sizeOf3 rfl) ?_
 refine V (run_ld underlying3 rfl rfl (hH14.cell (i := 3) rfl (v := I _) rfl)) ?_
 refine RL.nil ?_
 refine CW.block ?_
 refine SR ?_
 refine V (run_eql rfl rfl) ?_
 refine V (aV (B _) rfl) ?_
 refine RL.nil ?_
 refine CW.condP rfl (fun h16 => ?_) (fun h16 => ?_)
 ·refine CW.region ?_
  refine V (mV (.func _ _ _) rfl) ?_
  refine V (mV (U _) rfl) ?_
  refine RL.callF rfl hH14 (c_spell_constant_1 K b3 f s (sub_2 (f := f.fc) ‹f.kind = 2› hw) _ (hK.trans hH14.kw) (hf.mono (hK.trans hH14.kw)) (hH14.blk (i := 3) rfl) (hT.hp hH14)) (run_callC1 call52 (cs := [.pointer (some ⟨b3, 0, none⟩)]) rfl rfl) ?_
  intro v19 w20 Z22 hH21 hp23
  have hH24 : Hp _ w20 (_ :: _ :: _ :: _ :: Z22) := hH21.zin0 (L := [_, _, _, _])
  have hv25 := hp23
  refine V (fA underlying28 3 rfl sizeOf25 rfl) ?_
  refine RL.set hH24 (i := 1) rfl (run_st rfl rfl (v := v19) rfl (one_slv hv25).2 (one_slv hv25).1 (hH24.blk (i := 1) rfl) (by first | (show 3 < 5; decide) | decide | (simp only [List.size_toArray, nodeL_len]; decide) | simp)) ?_
  intro w26 hH27
  simp only [z0, z1] at hH27
  refine RL.nil ?_
  refine SR ?_
  have hN28 : NodeV (Kz K Z22) ((kindR (kindN f.fc) tx0 v19 (namesOf f.names s))) := kindR_v hv25
  refine V (run_ldA (cs := nodeL ((kindR (kindN f.fc) tx0 v19 (namesOf f.names s)))) underlying28 rfl rfl rfl (rangeAt_cells (hH27.blk (i := 1) rfl))) ?_
  refine RL.set hH27 (i := 2) rfl (run_stW (c' := (nodeL ((kindR (kindN f.fc) tx0 v19 (namesOf f.names s)))).toArray) rfl rfl rfl (nodeL_one hN28) (hH27.blk (i := 2) rfl) rfl) ?_
  intro w29 hH30
  simp only [z0, z1] at hH30
  refine RL.nil ?_
  refine CW.ret ?_
  refine outCg Tryz.results26 rfl hH30 (i := 2) rfl underlying28 rfl rfl ⟨Z22, (hH30.sub (sQ (sQ (sQ (sQ sR))))), (kindR (kindN f.fc) tx0 v19 (namesOf f.names s)), rfl, ?_, hN28⟩
  exact nd_2 ‹_›
 ·refine SR ?_
  refine V (run_eql rfl rfl) ?_
  refine V (aV (B _) rfl) ?_
  refine RL.nil ?_
  refine CW.condP rfl (fun h32 => ?_) (fun h32 => ?_)
  ·refine SR ?_
   refine V (fA underlying50 2 rfl sizeOf48 rfl) ?_
   refine V (run_ldBR underlying48 rfl rfl rfl (hH14.blk (i := 3) rfl)) ?_
   refine V (mV (U _) rfl) ?_
   refine RL.callP rfl hH14 (c_grid_Owners _ _  _) (run_call2 call56 rfl rfl) ?_
   intro w33 hH34
   refine RL.callR rfl hH34 (c_mask_List _  _ (hT.hp hH34)) (run_call1 call55 rfl) ?_
   intro v37 w35 hH36
   refine V (run_lenSl (hH36.sl (i := 0) rfl) rfl underlying82 rfl) ?_
   refine V (mV (I 0) rfl) ?_
   refine RL.nil ?_
   refine CW.block ?_
   refine CW.loop (G := (Int) × (Value) × (List NodeR) × (List Ent)) (fun (⟨k, kv, gs, Z⟩ : (Int) × (Value) × (List NodeR) × (List Ent)) s' w' => (Fr [8, 47, 48, 49, 50, 51, 52, 53, 54, 55, 56, 57, 58, 59, 60, 61, 62, 63, 64, 65, 66, 67, 68, 69] _ s') ∧ (Hp w w' (_ :: .row kv 28 5 (gs.length) (gs.flatMap nodeL) :: .blk b11 (.cells ((nodeL (kidsR (kindN f.fc) kv gs)).toArray) 28 (0, 0)) :: _ :: _ :: Z)) ∧ (s' 47 = I k) ∧ (0 ≤ k) ∧ (k ≤ (lst (ownersG f.rel s)).length) ∧ (gs.map NodeR.nd = rulesTo f.fc s k) ∧ (NodesV (Kz K Z) gs) ∧ ((gs.length : Int) = k)) (fun (⟨k, kv, gs, Z⟩ : (Int) × (Value) × (List NodeR) × (List Ent)) => ((lst (ownersG f.rel s)).length - k).toNat) ((0, (.slice none 0 0 : Value), [], [])) ⟨Fr.refl _ _, hH36, rfl, (by omega), (by omega), rfl, NodesV.nil _, rfl⟩ ?_
   rintro ⟨k, kv, gs, Z⟩ sg38 w38 ⟨fr38, hH38, e47_38, h0, hk, hm, hF, hb⟩
   have e1_38 : sg38 1 = U _ := (fr38 1 rfl).trans rfl
   have e2_38 : sg38 2 = Pn _ _ := (fr38 2 rfl).trans rfl
   have e4_38 : sg38 4 = Pn _ _ := (fr38 4 rfl).trans rfl
   have e5_38 : sg38 5 = .func _ _ _ := (fr38 5 rfl).trans rfl
   have e6_38 : sg38 6 = Pn _ _ := (fr38 6 rfl).trans rfl
   have e45_38 := (fr38 45 rfl).trans (by conv => lhs; whnf)
   have e46_38 : sg38 46 = I _ := (fr38 46 rfl).trans rfl
   have hl64 := lst_len (ownersG f.rel s)
   refine SR ?_
   refine V (run_lss e47_38 e46_38) ?_
   refine RL.nil ?_
   refine CW.seq ?_
   refine CW.condP rfl (fun h40 => ?_) (fun h40 => ?_)
   ·refine CW.skip ?_
    refine CW.seq ?_
    refine CW.block ?_
    refine SR ?_
    refine V (run_indexAddrS (hH38.sl (i := 0) rfl) underlying82 sizeOf3 e45_38 e47_38 (by first | omega | exact own_at (f := f.fc) hR ‹f.kind = 3› s h0 ‹k < _› | exact pt_in (f := f.fc) hR ‹f.kind = 4› hw | exact lv_in (f := f.fc) (kind_cases hR ‹_› ‹_› ‹_›) hw)) ?_
    refine V (run_ld underlying3 rfl rfl ((hH38.sl (i := 0) rfl).cell _ _ (map_at (by omega)))) ?_
    refine V (aV (I _) rfl) ?_
    refine RL.nil ?_
    refine CW.regionS (by kernel_rfl) hH38 (sP (sQ (sQ sR))) ?_
    intro w41 hH42
    refine AT 0 rfl (hH42.sub (sP (sQ (sQ sR)))) (fun w hS => fA underlying28 4 rfl sizeOf26 e6_38) ?_
    refine AT 2 rfl (hH42.sub (sP (sQ (sQ sR)))) (fun w hS => fA underlying50 1 rfl sizeOf45 e2_38) ?_
    refine AT 3 rfl (hH42.sub (sP (sQ (sQ sR)))) (fun w hS => run_ld underlying45 rfl rfl (hS.cell (i := 2) rfl rfl)) ?_
    refine AT 4 rfl (hH42.sub (sP (sQ (sQ sR)))) (fun w hS => mV (I _) rfl) ?_
    refine AT 5 rfl (hH42.sub (sP (sQ (sQ sR)))) (fun w hS => run_indexAddrS ((hf.mono hK).names.sl.hp hS) underlying45 sizeOf9 rfl rfl (by first | omega | exact own_at (f := f.fc) hR ‹f.kind = 3› s h0 ‹k < _› | exact pt_in (f := f.fc) hR ‹f.kind = 4› hw | exact lv_in (f := f.fc) (kind_cases hR ‹_› ‹_› ‹_›) hw)) ?_
    refine AT 6 rfl (hH42.sub (sP (sQ (sQ sR)))) (fun w hS => run_ld underlying9 rfl rfl (((hf.mono hK).names.sl.hp hS).cell _ _ (txL_at (by first | omega | exact own_at (f := f.fc) hR ‹f.kind = 3› s h0 ‹k < _› | exact pt_in (f := f.fc) hR ‹f.kind = 4› hw | exact lv_in (f := f.fc) (kind_cases hR ‹_› ‹_› ‹_›) hw)))) ?_
    refine AT 7 rfl (hH42.sub (sP (sQ (sQ sR)))) (fun w hS => run_move e5_38) ?_
    refine AT 8 rfl (hH42.sub (sP (sQ (sQ sR)))) (fun w hS => fA underlying50 2 rfl sizeOf48 e2_38) ?_
    refine AT 9 rfl (hH42.sub (sP (sQ (sQ sR)))) (fun w hS => run_ldBR underlying48 rfl rfl rfl (hS.blk (i := 2) rfl)) ?_
    refine AT 10 rfl (hH42.sub (sP (sQ (sQ sR)))) (fun w hS => run_move e1_38) ?_
    refine AT 11 rfl (hH42.sub (sP (sQ (sQ sR)))) (fun w hS => mV (I _) rfl) ?_
    refine AN.two 1 12 (by kernel_rfl) ?_ ?_
    ·refine AO.read rfl gnone rfl hH42 (sP (sQ (sQ sR))) (run_ld underlying26 rfl rfl (hH42.cell (i := 2) rfl rfl)) ?_
     refine A1 12 ?_
     refine AO.callP rfl gnone rfl hH42 (sP (sQ (sQ sR))) (c_grid_Readers _ _ _  _) (run_call3 call57 rfl rfl rfl) ?_
     intro w45 hH46
     refine A1 13 ?_
     refine AO.callF rfl gnone rfl hH46 (sP (sQ (sQ sR))) (c_spell_constant_1 K b3 f (readersG f.rel s ((lst (ownersG f.rel s)).getD k.toNat 0)) (sub_r (f := f.fc) hR ‹f.kind = 3› _ _) _ (hK.trans hH46.kw) (hf.mono (hK.trans hH46.kw)) (hH46.blk (i := 4) rfl) (hT.hp hH46)) (run_callC1 call52 (cs := [.pointer (some ⟨b3, 0, none⟩)]) rfl rfl) ?_
     intro v49 w50 Z52 hH51 hp53
     have hH54 : Hp _ w50 (_ :: _ :: _ :: _ :: _ :: (Z52 ++ Z)) := hH51.zin (L := [_, _, _, _, _]) (L' := Z)
     have hv55 := hp53
     refine AT 14 rfl (hH54.sub (sP (sQ (sQ (sP (sP (sA sR))))))) (fun w hS => run_bld (vs := [(0, I 6), (2, S (f.names.getD ((lst (ownersG f.rel s)).getD k.toNat 0).toNat tx0)), (3, v49)]) rfl (built_nodeTN (one_slv hv55).2 6 (f.names.getD ((lst (ownersG f.rel s)).getD k.toNat 0).toNat tx0) (namesOf f.names (readersG f.rel s ((lst (ownersG f.rel s)).getD k.toNat 0))))) ?_
     refine A1 15 ?_
     refine AO.new rfl gnone rfl hH54 (sP (sQ (sQ (sP (sP (sA sR)))))) (f := fun b => .slice (some ⟨b, 0, none⟩) 1 1) (run_mkRecs nodeL_len underlying26 rfl rfl rfl (l := [(kindR 6 (f.names.getD ((lst (ownersG f.rel s)).getD k.toNat 0).toNat tx0) v49 (namesOf f.names (readersG f.rel s ((lst (ownersG f.rel s)).getD k.toNat 0))))]) rfl (by decide) (by decide) rfl) ?_
     intro b58 w56 hH57
     refine A1 16 ?_
     refine AO.app rfl gnone rfl hH57 (j := 2) rfl (fun _ => (sQ (sP (sQ (sQ (sP (sP (sA sR)))))))) (Hp.slFlat nodeL_len hH57 (i := 0) (l := [(kindR 6 (f.names.getD ((lst (ownersG f.rel s)).getD k.toNat 0).toNat tx0) v49 (namesOf f.names (readersG f.rel s ((lst (ownersG f.rel s)).getD k.toNat 0))))]) rfl (by simp [maxLen])) rfl rfl underlying26 rfl rfl (size := 5) (bytes := 80) rfl rfl rfl (by decide) (node1_one (kindR_v hv55)) (by simp only [List.length_cons, List.length_nil]; omega) (by simp only [maxLen, List.length_cons, List.length_nil]; omega) ?_
     intro v61 w59 hH60
     simp only [z0, z1] at hH60
     refine AT 17 rfl (hH60.sub (sQ (sP (sQ (sQ (sP (sP (sA sR)))))))) (fun w hS => fA underlying28 4 rfl sizeOf26 e6_38) ?_
     refine A1 18 ?_
     refine AO.set rfl gnone hH60 (j := 3) rfl (sQ (sP (sQ (sQ (sP (sP (sA sR))))))) (run_st rfl rfl (v := v61) rfl (row_cells (hH60.get (i := 2) rfl)).1 (row_cells (hH60.get (i := 2) rfl)).2 (hH60.blk (i := 3) rfl) (by first | (show 4 < 5; decide) | decide | (simp only [List.size_toArray, nodeL_len]; decide) | simp)) ?_
     intro w64 hH65
     simp only [z0, z1] at hH65
     refine AD ?_
     refine CW.region ?_
     refine V (run_add e47_38 rfl (by omega)) ?_
     refine V (mV (I _) rfl) ?_
     refine RL.nil ?_
     refine ⟨(k + 1, v61, (gs ++ [(kindR 6 (f.names.getD ((lst (ownersG f.rel s)).getD k.toNat 0).toNat tx0) v49 (namesOf f.names (readersG f.rel s ((lst (ownersG f.rel s)).getD k.toNat 0))))]), (Z52 ++ Z)), ?_, fr38.u4.u4.u4.u4.u4.u4, (Hp.conv (hH65.sub (sQ sR)) (by first | rfl | (simp; done) | (simp [nodeL, kidsR, kindR, NodeR.kind, NodeR.place, NodeR.text, NodeR.nv, NodeR.kv]; done))), (congrArg I (by first | rfl | omega)), ?_, ?_, ?_, ?_, ?_⟩
     ·((try dsimp only); omega)
     ·omega
     ·omega
     ·rw [rules_next (f := f.fc) h0 ‹k < _›, List.map_append, hm]; exact congrArg (_ ++ [·]) (rule_nd (f := f.fc) (w := s) (o := ((lst (ownersG f.rel s)).getD k.toNat 0)))
     ·exact (hF.mono (Le.zz fun y hy => List.mem_append_right _ hy)).snoc (NodeV.mono (Le.zz fun y hy => List.mem_append_left _ hy) (kindR_v hv55))
     ·simp only [List.length_append, List.length_singleton]; omega
    ·refine AO.callP rfl gnone rfl hH42 (sP (sQ (sQ sR))) (c_grid_Readers _ _ _  _) (run_call3 call57 rfl rfl rfl) ?_
     intro w66 hH67
     refine AN.two 1 13 (by kernel_rfl) ?_ ?_
     ·refine AO.read rfl gnone rfl hH67 (sP (sQ (sQ sR))) (run_ld underlying26 rfl rfl (hH67.cell (i := 2) rfl rfl)) ?_
      refine A1 13 ?_
      refine AO.callF rfl gnone rfl hH67 (sP (sQ (sQ sR))) (c_spell_constant_1 K b3 f (readersG f.rel s ((lst (ownersG f.rel s)).getD k.toNat 0)) (sub_r (f := f.fc) hR ‹f.kind = 3› _ _) _ (hK.trans hH67.kw) (hf.mono (hK.trans hH67.kw)) (hH67.blk (i := 4) rfl) (hT.hp hH67)) (run_callC1 call52 (cs := [.pointer (some ⟨b3, 0, none⟩)]) rfl rfl) ?_
      intro v72 w73 Z75 hH74 hp76
      have hH77 : Hp _ w73 (_ :: _ :: _ :: _ :: _ :: (Z75 ++ Z)) := hH74.zin (L := [_, _, _, _, _]) (L' := Z)
      have hv78 := hp76
      refine AT 14 rfl (hH77.sub (sP (sQ (sQ (sP (sP (sA sR))))))) (fun w hS => run_bld (vs := [(0, I 6), (2, S (f.names.getD ((lst (ownersG f.rel s)).getD k.toNat 0).toNat tx0)), (3, v72)]) rfl (built_nodeTN (one_slv hv78).2 6 (f.names.getD ((lst (ownersG f.rel s)).getD k.toNat 0).toNat tx0) (namesOf f.names (readersG f.rel s ((lst (ownersG f.rel s)).getD k.toNat 0))))) ?_
      refine A1 15 ?_
      refine AO.new rfl gnone rfl hH77 (sP (sQ (sQ (sP (sP (sA sR)))))) (f := fun b => .slice (some ⟨b, 0, none⟩) 1 1) (run_mkRecs nodeL_len underlying26 rfl rfl rfl (l := [(kindR 6 (f.names.getD ((lst (ownersG f.rel s)).getD k.toNat 0).toNat tx0) v72 (namesOf f.names (readersG f.rel s ((lst (ownersG f.rel s)).getD k.toNat 0))))]) rfl (by decide) (by decide) rfl) ?_
      intro b81 w79 hH80
      refine A1 16 ?_
      refine AO.app rfl gnone rfl hH80 (j := 2) rfl (fun _ => (sQ (sP (sQ (sQ (sP (sP (sA sR)))))))) (Hp.slFlat nodeL_len hH80 (i := 0) (l := [(kindR 6 (f.names.getD ((lst (ownersG f.rel s)).getD k.toNat 0).toNat tx0) v72 (namesOf f.names (readersG f.rel s ((lst (ownersG f.rel s)).getD k.toNat 0))))]) rfl (by simp [maxLen])) rfl rfl underlying26 rfl rfl (size := 5) (bytes := 80) rfl rfl rfl (by decide) (node1_one (kindR_v hv78)) (by simp only [List.length_cons, List.length_nil]; omega) (by simp only [maxLen, List.length_cons, List.length_nil]; omega) ?_
      intro v84 w82 hH83
      simp only [z0, z1] at hH83
      refine AT 17 rfl (hH83.sub (sQ (sP (sQ (sQ (sP (sP (sA sR)))))))) (fun w hS => fA underlying28 4 rfl sizeOf26 e6_38) ?_
      refine A1 18 ?_
      refine AO.set rfl gnone hH83 (j := 3) rfl (sQ (sP (sQ (sQ (sP (sP (sA sR))))))) (run_st rfl rfl (v := v84) rfl (row_cells (hH83.get (i := 2) rfl)).1 (row_cells (hH83.get (i := 2) rfl)).2 (hH83.blk (i := 3) rfl) (by first | (show 4 < 5; decide) | decide | (simp only [List.size_toArray, nodeL_len]; decide) | simp)) ?_
      intro w87 hH88
      simp only [z0, z1] at hH88
      refine AD ?_
      refine CW.region ?_
      refine V (run_add e47_38 rfl (by omega)) ?_
      refine V (mV (I _) rfl) ?_
      refine RL.nil ?_
      refine ⟨(k + 1, v84, (gs ++ [(kindR 6 (f.names.getD ((lst (ownersG f.rel s)).getD k.toNat 0).toNat tx0) v72 (namesOf f.names (readersG f.rel s ((lst (ownersG f.rel s)).getD k.toNat 0))))]), (Z75 ++ Z)), ?_, fr38.u4.u4.u4.u4.u4.u4, (Hp.conv (hH88.sub (sQ sR)) (by first | rfl | (simp; done) | (simp [nodeL, kidsR, kindR, NodeR.kind, NodeR.place, NodeR.text, NodeR.nv, NodeR.kv]; done))), (congrArg I (by first | rfl | omega)), ?_, ?_, ?_, ?_, ?_⟩
      ·((try dsimp only); omega)
      ·omega
      ·omega
      ·rw [rules_next (f := f.fc) h0 ‹k < _›, List.map_append, hm]; exact congrArg (_ ++ [·]) (rule_nd (f := f.fc) (w := s) (o := ((lst (ownersG f.rel s)).getD k.toNat 0)))
      ·exact (hF.mono (Le.zz fun y hy => List.mem_append_right _ hy)).snoc (NodeV.mono (Le.zz fun y hy => List.mem_append_left _ hy) (kindR_v hv78))
      ·simp only [List.length_append, List.length_singleton]; omega
     ·refine AO.callF rfl gnone rfl hH67 (sP (sQ (sQ sR))) (c_spell_constant_1 K b3 f (readersG f.rel s ((lst (ownersG f.rel s)).getD k.toNat 0)) (sub_r (f := f.fc) hR ‹f.kind = 3› _ _) _ (hK.trans hH67.kw) (hf.mono (hK.trans hH67.kw)) (hH67.blk (i := 4) rfl) (hT.hp hH67)) (run_callC1 call52 (cs := [.pointer (some ⟨b3, 0, none⟩)]) rfl rfl) ?_
      intro v91 w92 Z94 hH93 hp95
      have hH96 : Hp _ w92 (_ :: _ :: _ :: _ :: _ :: (Z94 ++ Z)) := hH93.zin (L := [_, _, _, _, _]) (L' := Z)
      have hv97 := hp95
      refine AT 14 rfl (hH96.sub (sP (sQ (sQ (sP (sP (sA sR))))))) (fun w hS => run_bld (vs := [(0, I 6), (2, S (f.names.getD ((lst (ownersG f.rel s)).getD k.toNat 0).toNat tx0)), (3, v91)]) rfl (built_nodeTN (one_slv hv97).2 6 (f.names.getD ((lst (ownersG f.rel s)).getD k.toNat 0).toNat tx0) (namesOf f.names (readersG f.rel s ((lst (ownersG f.rel s)).getD k.toNat 0))))) ?_
      refine AN.two 1 15 (by kernel_rfl) ?_ ?_
      ·refine AO.read rfl gnone rfl hH96 (sP (sQ (sQ (sP (sP (sA sR)))))) (run_ld underlying26 rfl rfl (hH96.cell (i := 2) rfl rfl)) ?_
       refine A1 15 ?_
       refine AO.new rfl gnone rfl hH96 (sP (sQ (sQ (sP (sP (sA sR)))))) (f := fun b => .slice (some ⟨b, 0, none⟩) 1 1) (run_mkRecs nodeL_len underlying26 rfl rfl rfl (l := [(kindR 6 (f.names.getD ((lst (ownersG f.rel s)).getD k.toNat 0).toNat tx0) v91 (namesOf f.names (readersG f.rel s ((lst (ownersG f.rel s)).getD k.toNat 0))))]) rfl (by decide) (by decide) rfl) ?_
       intro b102 w100 hH101
       refine A1 16 ?_
       refine AO.app rfl gnone rfl hH101 (j := 2) rfl (fun _ => (sQ (sP (sQ (sQ (sP (sP (sA sR)))))))) (Hp.slFlat nodeL_len hH101 (i := 0) (l := [(kindR 6 (f.names.getD ((lst (ownersG f.rel s)).getD k.toNat 0).toNat tx0) v91 (namesOf f.names (readersG f.rel s ((lst (ownersG f.rel s)).getD k.toNat 0))))]) rfl (by simp [maxLen])) rfl rfl underlying26 rfl rfl (size := 5) (bytes := 80) rfl rfl rfl (by decide) (node1_one (kindR_v hv97)) (by simp only [List.length_cons, List.length_nil]; omega) (by simp only [maxLen, List.length_cons, List.length_nil]; omega) ?_
       intro v105 w103 hH104
       simp only [z0, z1] at hH104
       refine AT 17 rfl (hH104.sub (sQ (sP (sQ (sQ (sP (sP (sA sR)))))))) (fun w hS => fA underlying28 4 rfl sizeOf26 e6_38) ?_
       refine A1 18 ?_
       refine AO.set rfl gnone hH104 (j := 3) rfl (sQ (sP (sQ (sQ (sP (sP (sA sR))))))) (run_st rfl rfl (v := v105) rfl (row_cells (hH104.get (i := 2) rfl)).1 (row_cells (hH104.get (i := 2) rfl)).2 (hH104.blk (i := 3) rfl) (by first | (show 4 < 5; decide) | decide | (simp only [List.size_toArray, nodeL_len]; decide) | simp)) ?_
       intro w108 hH109
       simp only [z0, z1] at hH109
       refine AD ?_
       refine CW.region ?_
       refine V (run_add e47_38 rfl (by omega)) ?_
       refine V (mV (I _) rfl) ?_
       refine RL.nil ?_
       refine ⟨(k + 1, v105, (gs ++ [(kindR 6 (f.names.getD ((lst (ownersG f.rel s)).getD k.toNat 0).toNat tx0) v91 (namesOf f.names (readersG f.rel s ((lst (ownersG f.rel s)).getD k.toNat 0))))]), (Z94 ++ Z)), ?_, fr38.u4.u4.u4.u4.u4.u4, (Hp.conv (hH109.sub (sQ sR)) (by first | rfl | (simp; done) | (simp [nodeL, kidsR, kindR, NodeR.kind, NodeR.place, NodeR.text, NodeR.nv, NodeR.kv]; done))), (congrArg I (by first | rfl | omega)), ?_, ?_, ?_, ?_, ?_⟩
       ·((try dsimp only); omega)
       ·omega
       ·omega
       ·rw [rules_next (f := f.fc) h0 ‹k < _›, List.map_append, hm]; exact congrArg (_ ++ [·]) (rule_nd (f := f.fc) (w := s) (o := ((lst (ownersG f.rel s)).getD k.toNat 0)))
       ·exact (hF.mono (Le.zz fun y hy => List.mem_append_right _ hy)).snoc (NodeV.mono (Le.zz fun y hy => List.mem_append_left _ hy) (kindR_v hv97))
       ·simp only [List.length_append, List.length_singleton]; omega
      ·refine AO.new rfl gnone rfl hH96 (sP (sQ (sQ (sP (sP (sA sR)))))) (f := fun b => .slice (some ⟨b, 0, none⟩) 1 1) (run_mkRecs nodeL_len underlying26 rfl rfl rfl (l := [(kindR 6 (f.names.getD ((lst (ownersG f.rel s)).getD k.toNat 0).toNat tx0) v91 (namesOf f.names (readersG f.rel s ((lst (ownersG f.rel s)).getD k.toNat 0))))]) rfl (by decide) (by decide) rfl) ?_
       intro b112 w110 hH111
       refine A1 1 ?_
       refine AO.read rfl gnone rfl hH111 (sQ (sP (sQ (sQ (sP (sP (sA sR))))))) (run_ld underlying26 rfl rfl (hH111.cell (i := 3) rfl rfl)) ?_
       refine A1 16 ?_
       refine AO.app rfl gnone rfl hH111 (j := 2) rfl (fun _ => (sQ (sP (sQ (sQ (sP (sP (sA sR)))))))) (Hp.slFlat nodeL_len hH111 (i := 0) (l := [(kindR 6 (f.names.getD ((lst (ownersG f.rel s)).getD k.toNat 0).toNat tx0) v91 (namesOf f.names (readersG f.rel s ((lst (ownersG f.rel s)).getD k.toNat 0))))]) rfl (by simp [maxLen])) rfl rfl underlying26 rfl rfl (size := 5) (bytes := 80) rfl rfl rfl (by decide) (node1_one (kindR_v hv97)) (by simp only [List.length_cons, List.length_nil]; omega) (by simp only [maxLen, List.length_cons, List.length_nil]; omega) ?_
       intro v117 w115 hH116
       simp only [z0, z1] at hH116
       refine AT 17 rfl (hH116.sub (sQ (sP (sQ (sQ (sP (sP (sA sR)))))))) (fun w hS => fA underlying28 4 rfl sizeOf26 e6_38) ?_
       refine A1 18 ?_
       refine AO.set rfl gnone hH116 (j := 3) rfl (sQ (sP (sQ (sQ (sP (sP (sA sR))))))) (run_st rfl rfl (v := v117) rfl (row_cells (hH116.get (i := 2) rfl)).1 (row_cells (hH116.get (i := 2) rfl)).2 (hH116.blk (i := 3) rfl) (by first | (show 4 < 5; decide) | decide | (simp only [List.size_toArray, nodeL_len]; decide) | simp)) ?_
       intro w120 hH121
       simp only [z0, z1] at hH121
       refine AD ?_
       refine CW.region ?_
       refine V (run_add e47_38 rfl (by omega)) ?_
       refine V (mV (I _) rfl) ?_
       refine RL.nil ?_
       refine ⟨(k + 1, v117, (gs ++ [(kindR 6 (f.names.getD ((lst (ownersG f.rel s)).getD k.toNat 0).toNat tx0) v91 (namesOf f.names (readersG f.rel s ((lst (ownersG f.rel s)).getD k.toNat 0))))]), (Z94 ++ Z)), ?_, fr38.u4.u4.u4.u4.u4.u4, (Hp.conv (hH121.sub (sQ sR)) (by first | rfl | (simp; done) | (simp [nodeL, kidsR, kindR, NodeR.kind, NodeR.place, NodeR.text, NodeR.nv, NodeR.kv]; done))), (congrArg I (by first | rfl | omega)), ?_, ?_, ?_, ?_, ?_⟩
       ·((try dsimp only); omega)
       ·omega
       ·omega
       ·rw [rules_next (f := f.fc) h0 ‹k < _›, List.map_append, hm]; exact congrArg (_ ++ [·]) (rule_nd (f := f.fc) (w := s) (o := ((lst (ownersG f.rel s)).getD k.toNat 0)))
       ·exact (hF.mono (Le.zz fun y hy => List.mem_append_right _ hy)).snoc (NodeV.mono (Le.zz fun y hy => List.mem_append_left _ hy) (kindR_v hv97))
       ·simp only [List.length_append, List.length_singleton]; omega
   ·refine CW.exit (id := 1) rfl ?_
    refine SR ?_
    obtain ⟨Z122, hz123, hv124, -⟩ := (hH38.perm (((pC pR).trans pS).trans (pC pR))).frz (K)
    have hH125 : Hp _ w38 (_ :: _ :: _ :: _ :: (Z122 ++ Z)) := hz123.zin (L := [_, _, _, _]) (L' := Z)
    have hN126 : NodeV (Kz K (Z122 ++ Z)) ((kidsR (kindN f.fc) kv gs)) := kidsR_v (hv124.mono (Le.zz fun x hx => List.mem_append_left _ hx)) (hF.mono (Le.zz fun x hx => List.mem_append_right _ hx))
    refine V (run_ldA (cs := nodeL ((kidsR (kindN f.fc) kv gs))) underlying28 rfl rfl e6_38 (rangeAt_cells (hH125.blk (i := 1) rfl))) ?_
    refine RL.set hH125 (i := 2) rfl (run_stW (c' := (nodeL ((kidsR (kindN f.fc) kv gs))).toArray) rfl e4_38 rfl (nodeL_one hN126) (hH125.blk (i := 2) rfl) rfl) ?_
    intro w127 hH128
    simp only [z0, z1] at hH128
    refine RL.nil ?_
    refine CW.ret ?_
    refine outCg Tryz.results26 e4_38 hH128 (i := 2) rfl underlying28 rfl rfl ⟨(Z122 ++ Z), (hH128.sub (sQ (sQ (sQ (sQ sR))))), (kidsR (kindN f.fc) kv gs), rfl, ?_, hN126⟩
    exact nd_3 ‹_› (hm.trans (rules_all ‹_›))
  ·refine SR ?_
   refine V (run_eql rfl rfl) ?_
   refine V (aV (B _) rfl) ?_
   refine RL.nil ?_
   refine CW.condP rfl (fun h130 => ?_) (fun h130 => ?_)
   ·refine SR ?_
    refine V (fA underlying50 2 rfl sizeOf48 rfl) ?_
    refine V (run_ldBR underlying48 rfl rfl rfl (hH14.blk (i := 3) rfl)) ?_
    refine V (mV (U _) rfl) ?_
    refine RL.callP rfl hH14 (c_hasse_Point _ _  _ (hT.hp hH14)) (run_call2 call58 rfl rfl) ?_
    intro w131 hH132
    refine V (run_move (by conv => lhs; whnf)) ?_
    refine V (run_extract rfl (v := I _) rfl) ?_
    refine V (run_extract rfl (v := B _) rfl) ?_
    refine V (aV (I _) rfl) ?_
    refine V (aV (B _) rfl) ?_
    refine RL.nil ?_
    refine CW.region ?_
    refine V (fA underlying50 1 rfl sizeOf45 rfl) ?_
    refine V (run_ld underlying45 rfl rfl (hH132.cell (i := 3) rfl rfl)) ?_
    refine V (mV (I _) rfl) ?_
    refine V (run_indexAddrS ((hf.mono hK).names.sl.hp hH132) underlying45 sizeOf9 rfl rfl (by first | omega | exact own_at (f := f.fc) hR ‹f.kind = 3› s h0 ‹k < _› | exact pt_in (f := f.fc) hR ‹f.kind = 4› hw | exact lv_in (f := f.fc) (kind_cases hR ‹_› ‹_› ‹_›) hw)) ?_
    refine V (run_ld underlying9 rfl rfl (((hf.mono hK).names.sl.hp hH132).cell _ _ (txL_at (by first | omega | exact own_at (f := f.fc) hR ‹f.kind = 3› s h0 ‹k < _› | exact pt_in (f := f.fc) hR ‹f.kind = 4› hw | exact lv_in (f := f.fc) (kind_cases hR ‹_› ‹_› ‹_›) hw)))) ?_
    refine V (fA underlying28 2 rfl sizeOf9 rfl) ?_
    refine RL.set hH132 (i := 1) rfl (run_st rfl rfl (v := .string _) rfl rfl rfl (hH132.blk (i := 1) rfl) (by first | (show 2 < 5; decide) | decide | (simp only [List.size_toArray, nodeL_len]; decide) | simp)) ?_
    intro w134 hH135
    simp only [z0, z1] at hH135
    refine RL.nil ?_
    refine SR ?_
    have hN136 : NodeV (Kz K []) ((kindR (kindN f.fc) (f.names.getD (pointV f.rel s).1.toNat tx0) (.slice none 0 0) [])) := kindR_v (SlV.nil _ _)
    refine V (run_ldA (cs := nodeL ((kindR (kindN f.fc) (f.names.getD (pointV f.rel s).1.toNat tx0) (.slice none 0 0) []))) underlying28 rfl rfl rfl (rangeAt_cells (hH135.blk (i := 1) rfl))) ?_
    refine RL.set hH135 (i := 2) rfl (run_stW (c' := (nodeL ((kindR (kindN f.fc) (f.names.getD (pointV f.rel s).1.toNat tx0) (.slice none 0 0) []))).toArray) rfl rfl rfl (nodeL_one hN136) (hH135.blk (i := 2) rfl) rfl) ?_
    intro w137 hH138
    simp only [z0, z1] at hH138
    refine RL.nil ?_
    refine CW.ret ?_
    refine outCg Tryz.results26 rfl hH138 (i := 2) rfl underlying28 rfl rfl ⟨[], (hH138.sub (sQ (sQ (sQ (sQ sR))))), (kindR (kindN f.fc) (f.names.getD (pointV f.rel s).1.toNat tx0) (.slice none 0 0) []), rfl, ?_, hN136⟩
    exact nd_4 ‹_›
   ·refine SR ?_
    refine V (fA underlying50 1 rfl sizeOf45 rfl) ?_
    refine V (run_ld underlying45 rfl rfl (hH14.cell (i := 3) rfl rfl)) ?_
    refine V (run_lenSl ((hf.mono hK).names.sl.hp hH14) rfl underlying45 rfl) ?_
    refine V (mV (U _) rfl) ?_
    refine RL.callP rfl hH14 (c_rung_Level _ _  _) (run_call2 call59 rfl rfl) ?_
    intro w139 hH140
    refine V (run_move (by conv => lhs; whnf)) ?_
    refine V (run_extract rfl (v := I _) rfl) ?_
    refine V (run_extract rfl (v := B _) rfl) ?_
    refine V (aV (I _) rfl) ?_
    refine V (aV (B _) rfl) ?_
    refine RL.nil ?_
    refine CW.region ?_
    refine V (fA underlying50 1 rfl sizeOf45 rfl) ?_
    refine V (run_ld underlying45 rfl rfl (hH140.cell (i := 3) rfl rfl)) ?_
    refine V (mV (I _) rfl) ?_
    refine V (run_indexAddrS ((hf.mono hK).names.sl.hp hH140) underlying45 sizeOf9 rfl rfl (by first | omega | exact own_at (f := f.fc) hR ‹f.kind = 3› s h0 ‹k < _› | exact pt_in (f := f.fc) hR ‹f.kind = 4› hw | exact lv_in (f := f.fc) (kind_cases hR ‹_› ‹_› ‹_›) hw)) ?_
    refine V (run_ld underlying9 rfl rfl (((hf.mono hK).names.sl.hp hH140).cell _ _ (txL_at (by first | omega | exact own_at (f := f.fc) hR ‹f.kind = 3› s h0 ‹k < _› | exact pt_in (f := f.fc) hR ‹f.kind = 4› hw | exact lv_in (f := f.fc) (kind_cases hR ‹_› ‹_› ‹_›) hw)))) ?_
    refine V (fA underlying28 2 rfl sizeOf9 rfl) ?_
    refine RL.set hH140 (i := 1) rfl (run_st rfl rfl (v := .string _) rfl rfl rfl (hH140.blk (i := 1) rfl) (by first | (show 2 < 5; decide) | decide | (simp only [List.size_toArray, nodeL_len]; decide) | simp)) ?_
    intro w142 hH143
    simp only [z0, z1] at hH143
    refine RL.nil ?_
    refine SR ?_
    have hN144 : NodeV (Kz K []) ((kindR (kindN f.fc) (f.names.getD (level f.names.length s).1.toNat tx0) (.slice none 0 0) [])) := kindR_v (SlV.nil _ _)
    refine V (run_ldA (cs := nodeL ((kindR (kindN f.fc) (f.names.getD (level f.names.length s).1.toNat tx0) (.slice none 0 0) []))) underlying28 rfl rfl rfl (rangeAt_cells (hH143.blk (i := 1) rfl))) ?_
    refine RL.set hH143 (i := 2) rfl (run_stW (c' := (nodeL ((kindR (kindN f.fc) (f.names.getD (level f.names.length s).1.toNat tx0) (.slice none 0 0) []))).toArray) rfl rfl rfl (nodeL_one hN144) (hH143.blk (i := 2) rfl) rfl) ?_
    intro w145 hH146
    simp only [z0, z1] at hH146
    refine RL.nil ?_
    refine CW.ret ?_
    refine outCg Tryz.results26 rfl hH146 (i := 2) rfl underlying28 rfl rfl ⟨[], (hH146.sub (sQ (sQ (sQ (sQ sR))))), (kindR (kindN f.fc) (f.names.getD (level f.names.length s).1.toNat tx0) (.slice none 0 0) []), rfl, ?_, hN144⟩
    exact nd_1 ‹_› ‹_› ‹_›

theorem c_spell_Node (K : Vu) (s : Shp) (e : El) (w : World) (hK : Le K (Kw w)) (hs : ShpV K s) (hT : Tab w) : Calls Tryz.prog 12 #[.agg (shpC s), .agg (elC e)] w (PureF K (fun K' u => ∃ n : NodeR, u = .agg (nodeL n).toArray ∧ n.nd = nodeF s.sh e ∧ NodeV K' n) w) := by
 have hsl := sh_len s
 have hm := hs.facs.small
 unfold maxLen at hm
 refine enter Tryz.func12 rfl Tryz.ntmps12 rfl ?_
 have hH := Hp.start w
 refine SR ?_
 refine RL.new rfl hH (f := fun b => (.pointer (some ⟨b, 0, none⟩))) (run_box (v := .agg _) rfl) ?_
 intro b3 w1 hH2
 refine RL.new rfl hH2 (f := fun b => (.pointer (some ⟨b, 0, none⟩))) (run_box (v := .agg _) rfl) ?_
 intro b6 w4 hH5
 refine RL.new rfl hH5 (f := fun b => (.pointer (some ⟨b, 0, none⟩))) (run_alloc Tryz.zeroValue28) ?_
 intro b9 w7 hH8
 refine RL.nil ?_
 refine CW.seq ?_
 refine SR ?_
 refine V (run_ldA (cs := [B _, _]) underlying24 rfl rfl rfl (rangeAt_cells (hH8.blk (i := 2) rfl))) ?_
 refine V (run_ldEl underlying34 rfl rfl rfl (hH8.blk (i := 1) rfl)) ?_
 refine RL.callP rfl hH8 (c_shape_Fits _ _  _ ((hs.mono hK).mono hH8.kw) (hT.hp hH8)) (run_call2 call18 rfl rfl) ?_
 intro w10 hH11
 refine V (run_not rfl) ?_
 refine RL.nil ?_
 refine CW.cond rfl (fun h14 => ?_) (fun h14 => ?_)
 ·refine SR ?_
  refine V (run_bld (vs := []) rfl built_node0) ?_
  refine RL.set hH11 (i := 0) rfl (run_stW (c' := (nodeL node0).toArray) rfl rfl rfl (nodeL_one (node0_v (K := Kw w))) (hH11.blk (i := 0) rfl) rfl) ?_
  intro w15 hH16
  simp only [z0, z1] at hH16
  refine RL.nil ?_
  refine CW.ret ?_
  refine outCg Tryz.results12 rfl hH16 (i := 0) rfl underlying28 rfl rfl ⟨[], (hH16.sub (sQ (sQ (sQ sR)))), node0, rfl, ?_, node0_v⟩
  rw [nodeF_no (nt ‹(!fitsS s.sh e) = true›)]; exact node0_nd
 ·refine CW.skip ?_
  refine CW.seq ?_
  refine SR ?_
  refine V (fA underlying24 0 rfl sizeOf4 rfl) ?_
  refine V (run_ld underlying4 rfl rfl (hH11.cell (i := 2) rfl (v := B _) rfl)) ?_
  refine V (run_not rfl) ?_
  refine RL.nil ?_
  refine CW.cond rfl (fun h19 => ?_) (fun h19 => ?_)
  ·refine CW.seq ?_
   have hfit := nf ‹(!fitsS s.sh e) = false›
   have hfl := fit_len hfit
   refine CW.regionS (by kernel_rfl) hH11 (sQ sR) ?_
   intro w20 hH21
   refine AT 0 rfl (hH21.sub (sQ sR)) (fun w hS => fA underlying24 1 rfl sizeOf22 rfl) ?_
   refine AT 1 rfl (hH21.sub (sQ sR)) (fun w hS => run_ld underlying22 rfl rfl (hS.cell (i := 1) rfl rfl)) ?_
   refine AT 2 rfl (hH21.sub (sQ sR)) (fun w hS => run_indexAddrS ((hs.mono hK).facs.sl.hp hS) underlying22 sizeOf50 rfl rfl (by omega)) ?_
   refine AT 3 rfl (hH21.sub (sQ sR)) (fun w hS => run_ldE (dv := fac0) facL_len ((hs.mono hK).facs.sl.hp hS) underlying50 rfl rfl rfl (by omega)) ?_
   refine AT 4 rfl (hH21.sub (sQ sR)) (fun w hS => run_indexAddrA underlying34 sizeOf32 rfl rfl (by omega)) ?_
   refine AT 5 rfl (hH21.sub (sQ sR)) (fun w hS => run_ld underlying32 rfl rfl (hS.cell (i := 0) rfl (elC_at _ (by omega)))) ?_
   refine A1 6 ?_
   refine AO.callF rfl gnone rfl hH21 (sQ sR) (c_spell_constant K (s.facs.getD (0 : Int).toNat fac0) (e (0 : Int).toNat) (fitR hfit (k := 0) (by omega) (by omega)).1 (fitR hfit (k := 0) (by omega) (by omega)).2 _ (hK.trans hH21.kw) (hs.at (k := 0) (by omega) (by omega)) (hT.hp hH21)) (run_call2 call26 rfl rfl) ?_
   intro v24 w25 Z27 hH26 hp28
   have hH29 : Hp _ w25 (_ :: _ :: _ :: Z27) := hH26.zin0 (L := [_, _, _])
   obtain ⟨n30, rfl, nd31, nv32⟩ := hp28
   refine A1 7 ?_
   refine AO.set rfl gnone hH29 (j := 0) rfl (sQ (sP (sP (List.nil_sublist _)))) (run_stW (c' := (nodeL n30).toArray) rfl rfl rfl (nodeL_one nv32) (hH29.blk (i := 0) rfl) rfl) ?_
   intro w35 hH36
   simp only [z0, z1] at hH36
   refine AD ?_
   refine CW.ret ?_
   refine outCg Tryz.results12 rfl hH36 (i := 0) rfl underlying28 rfl rfl ⟨Z27, (hH36.sub (sQ (sQ (sQ sR)))), n30, rfl, ?_, nv32⟩
   rw [nodeF_1 (nf ‹(!fitsS s.sh e) = false›) (nt ‹(!s.tuple) = true›)]; exact nd31
  ·refine CW.skip ?_
   refine SR ?_
   refine V (run_bld (vs := [(0, I 4)]) rfl (built_nodeK 4)) ?_
   refine RL.new rfl hH11 (f := fun b => (.pointer (some ⟨b, 0, none⟩))) (run_alloc Tryz.zeroValue28) ?_
   intro b39 w37 hH38
   refine RL.set hH38 (i := 0) rfl (run_stW (c' := (nodeL (kindR 4 tx0 (.slice none 0 0) [])).toArray) rfl rfl rfl (nodeL_one (kindR_v (SlV.nil (Kw w) _))) (hH38.blk (i := 0) rfl) rfl) ?_
   intro w40 hH41
   simp only [z0, z1] at hH41
   have hH42 := hH41.nilRow 28 5
   refine RL.nil ?_
   refine CW.seq ?_
   refine SR ?_
   refine V (fA underlying24 1 rfl sizeOf22 rfl) ?_
   refine V (run_ld underlying22 rfl rfl (hH42.cell (i := 4) rfl rfl)) ?_
   refine V (run_lenSl ((hs.mono hK).facs.sl.hp hH42) rfl underlying22 rfl) ?_
   refine V (mV (I 0) rfl) ?_
   refine RL.nil ?_
   refine CW.block ?_
   have hfit := nf ‹(!fitsS s.sh e) = false›
   have hfl := fit_len hfit
   refine CW.loop (G := (Int) × (Value) × (List NodeR) × (List Ent)) (fun (⟨k, kv, gs, Z⟩ : (Int) × (Value) × (List NodeR) × (List Ent)) s' w' => (Fr [6, 7, 27, 28, 29, 30, 31, 32, 33, 34, 35, 36, 37, 38, 39, 40, 41, 42] _ s') ∧ (Hp w w' (.row kv 28 5 (gs.length) (gs.flatMap nodeL) :: .blk b39 (.cells ((nodeL (kidsR 4 kv gs)).toArray) 28 (0, 0)) :: _ :: _ :: _ :: Z)) ∧ (s' 27 = I k) ∧ (0 ≤ k) ∧ (k ≤ s.facs.length) ∧ (gs.map NodeR.nd = constsTo s.sh e k) ∧ (NodesV (Kz K Z) gs) ∧ ((gs.length : Int) = k)) (fun (⟨k, kv, gs, Z⟩ : (Int) × (Value) × (List NodeR) × (List Ent)) => (s.facs.length - k).toNat) ((0, (.slice none 0 0 : Value), [], [])) ⟨Fr.refl _ _, hH42, rfl, (by omega), (by omega), rfl, NodesV.nil _, rfl⟩ ?_
   rintro ⟨k, kv, gs, Z⟩ sg43 w43 ⟨fr43, hH43, e27_43, h0, hk, hm, hF, hb⟩
   have e3_43 : sg43 3 = Pn _ _ := (fr43 3 rfl).trans rfl
   have e4_43 : sg43 4 = Pn _ _ := (fr43 4 rfl).trans rfl
   have e5_43 : sg43 5 = Pn _ _ := (fr43 5 rfl).trans rfl
   have e25_43 := (fr43 25 rfl).trans (by conv => lhs; whnf)
   have e26_43 : sg43 26 = I _ := (fr43 26 rfl).trans rfl
   refine SR ?_
   refine V (run_lss e27_43 e26_43) ?_
   refine RL.nil ?_
   refine CW.seq ?_
   refine CW.condP rfl (fun h45 => ?_) (fun h45 => ?_)
   ·refine CW.skip ?_
    refine CW.seq ?_
    refine CW.block ?_
    refine SR ?_
    refine V (run_move e27_43) ?_
    refine V (run_indexAddrS ((hs.mono hK).facs.sl.hp hH43) underlying22 sizeOf50 e25_43 e27_43 (by omega)) ?_
    refine V (run_ldE (dv := fac0) facL_len ((hs.mono hK).facs.sl.hp hH43) underlying50 rfl rfl rfl (by omega)) ?_
    refine RL.new rfl hH43 (f := fun b => (.pointer (some ⟨b, 0, none⟩))) (run_alloc zero_fac) ?_
    intro b48 w46 hH47
    refine V (aV (I _) rfl) ?_
    refine RL.set hH47 (i := 0) rfl (run_stFac ((hs.mono hK).at (by omega) (by omega)) rfl rfl rfl (hH47.blk (i := 0) rfl)) ?_
    intro w49 hH50
    simp only [z0, z1] at hH50
    refine RL.nil ?_
    refine CW.regionS (by kernel_rfl) hH50 (sP (sQ (sQ sR))) ?_
    intro w51 hH52
    refine AT 0 rfl (hH52.sub (sP (sQ (sQ sR)))) (fun w hS => fA underlying28 4 rfl sizeOf26 e5_43) ?_
    refine AT 2 rfl (hH52.sub (sP (sQ (sQ sR)))) (fun w hS => run_ldFac underlying50 rfl rfl rfl (hS.blk (i := 0) rfl)) ?_
    refine AT 3 rfl (hH52.sub (sP (sQ (sQ sR)))) (fun w hS => mV (I _) rfl) ?_
    refine AT 4 rfl (hH52.sub (sP (sQ (sQ sR)))) (fun w hS => run_indexAddrA underlying34 sizeOf32 e3_43 rfl (by omega)) ?_
    refine AT 5 rfl (hH52.sub (sP (sQ (sQ sR)))) (fun w hS => run_ld underlying32 rfl rfl (hS.cell (i := 2) rfl (elC_at _ (by omega)))) ?_
    refine AN.two 1 6 (by kernel_rfl) ?_ ?_
    ·refine AO.read rfl gnone rfl hH52 (sP (sQ (sQ sR))) (run_ld underlying26 rfl rfl (hH52.cell (i := 2) rfl rfl)) ?_
     refine A1 6 ?_
     refine AO.callF rfl gnone rfl hH52 (sP (sQ (sQ sR))) (c_spell_constant K (s.facs.getD k.toNat fac0) (e k.toNat) (fitR hfit h0 (by omega)).1 (fitR hfit h0 (by omega)).2 _ (hK.trans hH52.kw) (hs.at h0 (by omega)) (hT.hp hH52)) (run_call2 call26 rfl rfl) ?_
     intro v57 w58 Z60 hH59 hp61
     have hH62 : Hp _ w58 (_ :: _ :: _ :: _ :: _ :: _ :: (Z60 ++ Z)) := hH59.zin (L := [_, _, _, _, _, _]) (L' := Z)
     obtain ⟨n63, rfl, nd64, nv65⟩ := hp61
     refine A1 7 ?_
     refine AO.new rfl gnone rfl hH62 (sP (sQ (sQ (sP (sP (sP (sA sR))))))) (f := fun b => .slice (some ⟨b, 0, none⟩) 1 1) (run_mkRecs nodeL_len underlying26 rfl rfl rfl (l := [n63]) rfl (by decide) (by decide) rfl) ?_
     intro b68 w66 hH67
     refine A1 8 ?_
     refine AO.app rfl gnone rfl hH67 (j := 2) rfl (fun _ => (sQ (sP (sQ (sQ (sP (sP (sP (sA sR))))))))) (Hp.slFlat nodeL_len hH67 (i := 0) (l := [n63]) rfl (by simp [maxLen])) rfl rfl underlying26 rfl rfl (size := 5) (bytes := 80) rfl rfl rfl (by decide) (node1_one nv65) (by simp only [List.length_cons, List.length_nil]; omega) (by simp only [maxLen, List.length_cons, List.length_nil]; omega) ?_
     intro v71 w69 hH70
     simp only [z0, z1] at hH70
     refine AT 9 rfl (hH70.sub (sQ (sP (sQ (sQ (sP (sP (sP (sA sR))))))))) (fun w hS => fA underlying28 4 rfl sizeOf26 e5_43) ?_
     refine A1 10 ?_
     refine AO.set rfl gnone hH70 (j := 3) rfl (sQ (sP (sQ (sQ (sP (sP (sP (sA sR)))))))) (run_st rfl rfl (v := v71) rfl (row_cells (hH70.get (i := 2) rfl)).1 (row_cells (hH70.get (i := 2) rfl)).2 (hH70.blk (i := 3) rfl) (by first | (show 4 < 5; decide) | decide | (simp only [List.size_toArray, nodeL_len]; decide) | simp)) ?_
     intro w74 hH75
     simp only [z0, z1] at hH75
     refine AD ?_
     refine CW.region ?_
     refine V (run_add e27_43 rfl (by omega)) ?_
     refine V (mV (I _) rfl) ?_
     refine RL.nil ?_
     refine ⟨(k + 1, v71, (gs ++ [n63]), (Z60 ++ Z)), ?_, fr43.u4.u4.u4.u4.u1.u1, (Hp.conv (hH75.sub (sQ (sQ sR))) (by first | rfl | (simp; done) | (simp [nodeL, kidsR, kindR, NodeR.kind, NodeR.place, NodeR.text, NodeR.nv, NodeR.kv]; done))), (congrArg I (by first | rfl | omega)), ?_, ?_, ?_, ?_, ?_⟩
     ·((try dsimp only); omega)
     ·omega
     ·omega
     ·rw [consts_nextR h0, List.map_append, hm]; exact congrArg (_ ++ [·]) nd64
     ·exact (hF.mono (Le.zz fun y hy => List.mem_append_right _ hy)).snoc (NodeV.mono (Le.zz fun y hy => List.mem_append_left _ hy) nv65)
     ·simp only [List.length_append, List.length_singleton]; omega
    ·refine AO.callF rfl gnone rfl hH52 (sP (sQ (sQ sR))) (c_spell_constant K (s.facs.getD k.toNat fac0) (e k.toNat) (fitR hfit h0 (by omega)).1 (fitR hfit h0 (by omega)).2 _ (hK.trans hH52.kw) (hs.at h0 (by omega)) (hT.hp hH52)) (run_call2 call26 rfl rfl) ?_
     intro v78 w79 Z81 hH80 hp82
     have hH83 : Hp _ w79 (_ :: _ :: _ :: _ :: _ :: _ :: (Z81 ++ Z)) := hH80.zin (L := [_, _, _, _, _, _]) (L' := Z)
     obtain ⟨n84, rfl, nd85, nv86⟩ := hp82
     refine AN.two 1 7 (by kernel_rfl) ?_ ?_
     ·refine AO.read rfl gnone rfl hH83 (sP (sQ (sQ (sP (sP (sP (sA sR))))))) (run_ld underlying26 rfl rfl (hH83.cell (i := 2) rfl rfl)) ?_
      refine A1 7 ?_
      refine AO.new rfl gnone rfl hH83 (sP (sQ (sQ (sP (sP (sP (sA sR))))))) (f := fun b => .slice (some ⟨b, 0, none⟩) 1 1) (run_mkRecs nodeL_len underlying26 rfl rfl rfl (l := [n84]) rfl (by decide) (by decide) rfl) ?_
      intro b91 w89 hH90
      refine A1 8 ?_
      refine AO.app rfl gnone rfl hH90 (j := 2) rfl (fun _ => (sQ (sP (sQ (sQ (sP (sP (sP (sA sR))))))))) (Hp.slFlat nodeL_len hH90 (i := 0) (l := [n84]) rfl (by simp [maxLen])) rfl rfl underlying26 rfl rfl (size := 5) (bytes := 80) rfl rfl rfl (by decide) (node1_one nv86) (by simp only [List.length_cons, List.length_nil]; omega) (by simp only [maxLen, List.length_cons, List.length_nil]; omega) ?_
      intro v94 w92 hH93
      simp only [z0, z1] at hH93
      refine AT 9 rfl (hH93.sub (sQ (sP (sQ (sQ (sP (sP (sP (sA sR))))))))) (fun w hS => fA underlying28 4 rfl sizeOf26 e5_43) ?_
      refine A1 10 ?_
      refine AO.set rfl gnone hH93 (j := 3) rfl (sQ (sP (sQ (sQ (sP (sP (sP (sA sR)))))))) (run_st rfl rfl (v := v94) rfl (row_cells (hH93.get (i := 2) rfl)).1 (row_cells (hH93.get (i := 2) rfl)).2 (hH93.blk (i := 3) rfl) (by first | (show 4 < 5; decide) | decide | (simp only [List.size_toArray, nodeL_len]; decide) | simp)) ?_
      intro w97 hH98
      simp only [z0, z1] at hH98
      refine AD ?_
      refine CW.region ?_
      refine V (run_add e27_43 rfl (by omega)) ?_
      refine V (mV (I _) rfl) ?_
      refine RL.nil ?_
      refine ⟨(k + 1, v94, (gs ++ [n84]), (Z81 ++ Z)), ?_, fr43.u4.u4.u4.u4.u1.u1, (Hp.conv (hH98.sub (sQ (sQ sR))) (by first | rfl | (simp; done) | (simp [nodeL, kidsR, kindR, NodeR.kind, NodeR.place, NodeR.text, NodeR.nv, NodeR.kv]; done))), (congrArg I (by first | rfl | omega)), ?_, ?_, ?_, ?_, ?_⟩
      ·((try dsimp only); omega)
      ·omega
      ·omega
      ·rw [consts_nextR h0, List.map_append, hm]; exact congrArg (_ ++ [·]) nd85
      ·exact (hF.mono (Le.zz fun y hy => List.mem_append_right _ hy)).snoc (NodeV.mono (Le.zz fun y hy => List.mem_append_left _ hy) nv86)
      ·simp only [List.length_append, List.length_singleton]; omega
     ·refine AO.new rfl gnone rfl hH83 (sP (sQ (sQ (sP (sP (sP (sA sR))))))) (f := fun b => .slice (some ⟨b, 0, none⟩) 1 1) (run_mkRecs nodeL_len underlying26 rfl rfl rfl (l := [n84]) rfl (by decide) (by decide) rfl) ?_
      intro b101 w99 hH100
      refine A1 1 ?_
      refine AO.read rfl gnone rfl hH100 (sQ (sP (sQ (sQ (sP (sP (sP (sA sR)))))))) (run_ld underlying26 rfl rfl (hH100.cell (i := 3) rfl rfl)) ?_
      refine A1 8 ?_
      refine AO.app rfl gnone rfl hH100 (j := 2) rfl (fun _ => (sQ (sP (sQ (sQ (sP (sP (sP (sA sR))))))))) (Hp.slFlat nodeL_len hH100 (i := 0) (l := [n84]) rfl (by simp [maxLen])) rfl rfl underlying26 rfl rfl (size := 5) (bytes := 80) rfl rfl rfl (by decide) (node1_one nv86) (by simp only [List.length_cons, List.length_nil]; omega) (by simp only [maxLen, List.length_cons, List.length_nil]; omega) ?_
      intro v106 w104 hH105
      simp only [z0, z1] at hH105
      refine AT 9 rfl (hH105.sub (sQ (sP (sQ (sQ (sP (sP (sP (sA sR))))))))) (fun w hS => fA underlying28 4 rfl sizeOf26 e5_43) ?_
      refine A1 10 ?_
      refine AO.set rfl gnone hH105 (j := 3) rfl (sQ (sP (sQ (sQ (sP (sP (sP (sA sR)))))))) (run_st rfl rfl (v := v106) rfl (row_cells (hH105.get (i := 2) rfl)).1 (row_cells (hH105.get (i := 2) rfl)).2 (hH105.blk (i := 3) rfl) (by first | (show 4 < 5; decide) | decide | (simp only [List.size_toArray, nodeL_len]; decide) | simp)) ?_
      intro w109 hH110
      simp only [z0, z1] at hH110
      refine AD ?_
      refine CW.region ?_
      refine V (run_add e27_43 rfl (by omega)) ?_
      refine V (mV (I _) rfl) ?_
      refine RL.nil ?_
      refine ⟨(k + 1, v106, (gs ++ [n84]), (Z81 ++ Z)), ?_, fr43.u4.u4.u4.u4.u1.u1, (Hp.conv (hH110.sub (sQ (sQ sR))) (by first | rfl | (simp; done) | (simp [nodeL, kidsR, kindR, NodeR.kind, NodeR.place, NodeR.text, NodeR.nv, NodeR.kv]; done))), (congrArg I (by first | rfl | omega)), ?_, ?_, ?_, ?_, ?_⟩
      ·((try dsimp only); omega)
      ·omega
      ·omega
      ·rw [consts_nextR h0, List.map_append, hm]; exact congrArg (_ ++ [·]) nd85
      ·exact (hF.mono (Le.zz fun y hy => List.mem_append_right _ hy)).snoc (NodeV.mono (Le.zz fun y hy => List.mem_append_left _ hy) nv86)
      ·simp only [List.length_append, List.length_singleton]; omega
   ·refine CW.exit (id := 0) rfl ?_
    refine SR ?_
    obtain ⟨Z111, hz112, hv113, -⟩ := hH43.frz (K)
    have hH114 : Hp _ w43 (_ :: _ :: _ :: _ :: (Z111 ++ Z)) := hz112.zin (L := [_, _, _, _]) (L' := Z)
    have hN115 : NodeV (Kz K (Z111 ++ Z)) ((kidsR 4 kv gs)) := kidsR_v (hv113.mono (Le.zz fun x hx => List.mem_append_left _ hx)) (hF.mono (Le.zz fun x hx => List.mem_append_right _ hx))
    refine V (run_ldA (cs := nodeL ((kidsR 4 kv gs))) underlying28 rfl rfl e5_43 (rangeAt_cells (hH114.blk (i := 0) rfl))) ?_
    refine RL.set hH114 (i := 1) rfl (run_stW (c' := (nodeL ((kidsR 4 kv gs))).toArray) rfl e4_43 rfl (nodeL_one hN115) (hH114.blk (i := 1) rfl) rfl) ?_
    intro w116 hH117
    simp only [z0, z1] at hH117
    refine RL.nil ?_
    refine CW.ret ?_
    refine outCg Tryz.results12 e4_43 hH117 (i := 1) rfl underlying28 rfl rfl ⟨(Z111 ++ Z), (hH117.sub (sQ (sQ (sQ (sQ sR))))), (kidsR 4 kv gs), rfl, ?_, hN115⟩
    exact nodeF_t hfit (nf ‹(!s.tuple) = false›) (by omega) hm

theorem c_term_commas (n : Int) (f : FuncId) (cs : List Value) (T : Int → Tx) (hn : 0 ≤ n ∧ n ≤ 9223372036854775807) (hsz : ((upto n).map fun i => (T i).size + 1).sum ≤ 999999996) (w : World) (hf : ∀ args w, (callFunc f args).run Tryz.prog w = .ok (.enter f args) w) (go : ∀ i w', Below w.heap.size w w' → 0 ≤ i → i < n → Calls Tryz.prog f (I i :: cs).toArray w' (Pure (S (T i)) w')) : Calls Tryz.prog 105 #[I n, .func (.func f) #[] cs.toArray] w (Pure (S (commasTo T n)) w) := by
 refine enter Tryz.func105 rfl Tryz.ntmps105 rfl ?_
 have hH := Hp.start w
 refine SR ?_
 refine V (aV (.string ⟨#[]⟩) rfl) ?_
 refine RL.nil ?_
 refine SR ?_
 refine V (aV (.slice none 0 0) rfl) ?_
 have hH1 := hH.nilRow 5 1
 refine RL.nil ?_
 refine CW.seq ?_
 refine SR ?_
 refine V (mV (I _) rfl) ?_
 refine V (mV (I 0) rfl) ?_
 refine RL.nil ?_
 refine CW.block ?_
 refine CW.loop (G := (Int) × (Tx) × (Value)) (fun (⟨k, m, v5⟩ : (Int) × (Tx) × (Value)) s' w' => (Fr [5, 6, 8, 9, 10, 11, 12, 13, 14, 15, 16, 17, 18, 19, 20, 21] _ s') ∧ (Hp w w' (.row v5 5 1 (m.size) (byL m) :: _)) ∧ (s' 5 = v5) ∧ (s' 8 = I k) ∧ (0 ≤ k) ∧ (k ≤ n) ∧ (m = commasTo T k)) (fun (⟨k, m, v5⟩ : (Int) × (Tx) × (Value)) => (n - k).toNat) ((0, tx0, (.slice none 0 0 : Value))) ⟨Fr.refl _ _, hH1, rfl, rfl, (by omega), (by omega), rfl⟩ ?_
 rintro ⟨k, m, v5⟩ sg2 w2 ⟨fr2, hH2, e5_2, e8_2, h0, hk, hm⟩
 have e1_2 : sg2 1 = .func _ _ _ := (fr2 1 rfl).trans rfl
 have e4_2 : sg2 4 = .string _ := (fr2 4 rfl).trans rfl
 have e7_2 : sg2 7 = I _ := (fr2 7 rfl).trans rfl
 subst hm
 refine SR ?_
 refine V (run_lss e8_2 e7_2) ?_
 refine RL.nil ?_
 refine CW.seq ?_
 refine CW.condP rfl (fun h4 => ?_) (fun h4 => ?_)
 ·refine CW.skip ?_
  refine CW.seq ?_
  refine CW.block ?_
  refine SR ?_
  refine V (run_move e8_2) ?_
  refine V (aV (I _) rfl) ?_
  refine RL.nil ?_
  refine CW.seq ?_
  refine SR ?_
  refine V (mV (I _) rfl) ?_
  refine V (run_gtr rfl rfl) ?_
  refine RL.nil ?_
  refine CW.condP rfl (fun h6 => ?_) (fun h6 => ?_)
  ·refine CW.region ?_
   refine V (run_move e5_2) ?_
   refine RL.new rfl hH2 (f := fun b => (.slice (some ⟨b, 0, none⟩) 1 1)) (run_mkL underlying117 rfl rfl (sz := 1) (vs := [.int .u8 44]) rfl rfl (by decide) (by decide) rfl rfl) ?_
   intro b9 w7 hH8
   (try simp only [List.flatMap_cons, List.flatMap_nil, clI, clB, clS, clP, clL, clA, List.append_nil, List.cons_append, List.nil_append] at hH8)
   refine RL.app rfl hH8 (i := 1) rfl (hH8.slBlk (i := 0) (n := 1) (sz := 1) rfl rfl (by decide)) rfl rfl underlying117 rfl rfl (size := 1) (bytes := 1) rfl rfl rfl (by decide) (by simp [Value.oneCell']) (by have := T_sz T h0 ‹k < n›; omega) (by have := T_sz T h0 ‹k < n›; simp only [maxLen]; omega) ?_
   intro v10 w11 hH12
   simp only [z0, z1] at hH12
   refine V (run_assign (by conv => lhs; whnf)) ?_
   refine RL.nil ?_
   refine CW.region ?_
   refine V (run_move (by conv => lhs; whnf)) ?_
   refine V (run_move e1_2) ?_
   refine V (mV (I _) rfl) ?_
   refine RL.callP rfl hH12 (go _ _ hH12.below (by omega) (by omega)) (run_callC1 hf (cs := cs) rfl rfl) ?_
   intro w13 hH14
   refine RL.appS rfl hH14 (i := 1) rfl rfl rfl underlying117 underlying9 rfl rfl rfl rfl (by have := T_sz T h0 ‹k < n›; (try simp only [List.length_cons, List.length_nil]); omega) ?_
   intro v15 w16 hH17
   simp only [z0, z1] at hH17
   refine V (run_assign (by conv => lhs; whnf)) ?_
   refine RL.nil ?_
   refine CW.region ?_
   refine V (run_add e8_2 rfl (by omega)) ?_
   refine V (mV (I _) rfl) ?_
   refine RL.nil ?_
   refine ⟨(k + 1, commasTo T (k + 1), v15), ?_, fr2.u4.u4.u4.u4.u1, (Hp.conv (hH17.sub (sQ sR)) (by first | (rw [← commas_2 ‹0 < k›, tx_size_app, tx_size_app, byL_app, byL_app]; rfl) | (rw [← commas_1 (show k = 0 by omega), tx_size_app, byL_app]))), rfl, (congrArg I (by first | rfl | omega)), ?_, ?_, ?_⟩
   ·((try dsimp only); omega)
   ·omega
   ·omega
   ·rfl
  ·refine CW.skip ?_
   refine CW.region ?_
   refine V (run_move e5_2) ?_
   refine V (run_move e1_2) ?_
   refine V (mV (I _) rfl) ?_
   refine RL.callP rfl hH2 (go _ _ hH2.below (by omega) (by omega)) (run_callC1 hf (cs := cs) rfl rfl) ?_
   intro w18 hH19
   refine RL.appS rfl hH19 (i := 0) rfl rfl rfl underlying117 underlying9 rfl rfl rfl rfl (by have := T_sz T h0 ‹k < n›; (try simp only [List.length_cons, List.length_nil]); omega) ?_
   intro v20 w21 hH22
   simp only [z0, z1] at hH22
   refine V (run_assign (by conv => lhs; whnf)) ?_
   refine RL.nil ?_
   refine CW.region ?_
   refine V (run_add e8_2 rfl (by omega)) ?_
   refine V (mV (I _) rfl) ?_
   refine RL.nil ?_
   refine ⟨(k + 1, commasTo T (k + 1), v20), ?_, fr2.u4.u4.u4.u1, (Hp.conv hH22 (by first | (rw [← commas_2 ‹0 < k›, tx_size_app, tx_size_app, byL_app, byL_app]; rfl) | (rw [← commas_1 (show k = 0 by omega), tx_size_app, byL_app]))), rfl, (congrArg I (by first | rfl | omega)), ?_, ?_, ?_⟩
   ·((try dsimp only); omega)
   ·omega
   ·omega
   ·rfl
 ·refine CW.exit (id := 0) rfl ?_
  refine SR ?_
  refine V (run_move e5_2) ?_
  refine V (run_convBS (s := (commasTo T k)) (hH2.sl (i := 0) rfl) underlying117 underlying5 underlying9 rfl) ?_
  refine V (aV (.string _) rfl) ?_
  refine RL.nil ?_
  refine CW.ret ?_
  refine outP1 Tryz.results105 ?_ hH2.below
  exact congrArg S (by rw [show n = k by omega])

theorem c_term_names_1 (b : Nat) (n : NodeR) (i : Int) (hi : 0 ≤ i ∧ i < n.names.length) (w : World) (hn : NodeV (Kw w) n) (hb : w.heap[b]? = some (.cells (nodeL n).toArray 28 (0, 0))) : Calls Tryz.prog 106 #[I i, .pointer (some ⟨b, 0, none⟩)] w (Pure (S (n.names.getD i.toNat wd0).text) w) := by
 refine enter Tryz.func106 rfl Tryz.ntmps106 rfl ?_
 have hH := Hp.start w
 refine SR ?_
 refine V (aV (.string ⟨#[]⟩) rfl) ?_
 refine RL.nil ?_
 refine SR ?_
 refine V (fA underlying28 3 rfl sizeOf25 rfl) ?_
 refine V (run_ldV (hn.names_.sl.hp hH) underlying25 rfl rfl (hH.extCell hb rfl)) ?_
 refine V (mV (I _) rfl) ?_
 refine V (run_indexAddrS (hn.names_.sl.hp hH) underlying25 sizeOf53 rfl rfl (by omega)) ?_
 refine V (fA underlying53 0 rfl sizeOf9 rfl) ?_
 refine V (run_ldE1 (dv := wd0) (off := 0) wdL_len (hn.names_.sl.hp hH) underlying9 rfl rfl (by omega) rfl) ?_
 refine V (aV (.string _) rfl) ?_
 refine RL.nil ?_
 refine CW.ret ?_
 refine outP1 Tryz.results106 ?_ hH.below
 rfl

theorem c_term_kids_1 (b : Nat) (n : NodeR) (i : Int) (hi : 0 ≤ i ∧ i < n.kids.length) (htx : TxN n.nd) (w : World) (hn : NodeV (Kw w) n) (hb : w.heap[b]? = some (.cells (nodeL n).toArray 28 (0, 0))) (ih : ∀ x ∈ n.kids, TxN x.nd → ∀ w, NodeV (Kw w) x → Calls Tryz.prog 29 #[.agg (nodeL x).toArray] w (Pure (S (textF x.nd)) w)) : Calls Tryz.prog 107 #[I i, .pointer (some ⟨b, 0, none⟩)] w (Pure (S (textF (n.kids.getD i.toNat node0).nd)) w) := by
 refine enter Tryz.func107 rfl Tryz.ntmps107 rfl ?_
 have hH := Hp.start w
 refine SR ?_
 refine V (aV (.string ⟨#[]⟩) rfl) ?_
 refine RL.nil ?_
 refine SR ?_
 refine V (fA underlying28 4 rfl sizeOf26 rfl) ?_
 refine V (run_ldV (hn.kids_.sl.hp hH) underlying26 rfl rfl (hH.extCell hb rfl)) ?_
 refine V (mV (I _) rfl) ?_
 refine V (run_indexAddrS (hn.kids_.sl.hp hH) underlying26 sizeOf28 rfl rfl (by omega)) ?_
 refine V (run_ldE (dv := node0) nodeL_len (hn.kids_.sl.hp hH) underlying28 rfl rfl rfl (by omega)) ?_
 refine RL.callP rfl hH (ih _ (List.mem_of_getElem? (getD_at (d := node0) hi.1 hi.2)) (htx.kidR (List.mem_of_getElem? (getD_at (d := node0) hi.1 hi.2))) _ (NodeV.mono hH.kw (hn.at hi.1 hi.2))) (run_call1 call29 rfl) ?_
 intro w1 hH2
 refine V (aV (.string _) rfl) ?_
 refine RL.nil ?_
 refine CW.ret ?_
 refine outP1 Tryz.results107 ?_ hH2.below
 rfl

theorem c_term_names (n : NodeR) (htx : TxN n.nd) (w : World) (hn : NodeV (Kw w) n) : Calls Tryz.prog 67 #[.agg (nodeL n).toArray] w (Pure (S (namesT n.nd.names)) w) := by
 have hm1 := hn.kids_.small
 have hm2 := hn.names_.small
 unfold maxLen at hm1 hm2
 refine enter Tryz.func67 rfl Tryz.ntmps67 rfl ?_
 have hH := Hp.start w
 refine SR ?_
 refine RL.new rfl hH (f := fun b => (.pointer (some ⟨b, 0, none⟩))) (run_box (v := .agg _) rfl) ?_
 intro b3 w1 hH2
 refine V (aV (.string ⟨#[]⟩) rfl) ?_
 refine RL.nil ?_
 refine SR ?_
 refine V (fA underlying28 3 rfl sizeOf25 rfl) ?_
 refine V (run_ldV (hn.names_.sl.hp hH2) underlying25 rfl rfl (hH2.cell (i := 0) rfl rfl)) ?_
 refine V (run_lenSl (hn.names_.sl.hp hH2) rfl underlying25 rfl) ?_
 refine V (run_mkF1 (by conv => lhs; whnf)) ?_
 refine RL.callP rfl hH2 (c_term_commas _ 106 [.pointer (some ⟨b3, 0, none⟩)] (fun i => (n.names.getD i.toNat wd0).text) (by omega) (names_bd htx) _ call106 (fun i w h h0 h1 => c_term_names_1 b3 n i ⟨h0, h1⟩ w (NodeV.mono (hH2.kw.trans (Kw.below h)) hn) (keep h (hH2.blk (i := 0) rfl)))) (run_call2 call105 rfl rfl) ?_
 intro w4 hH5
 refine V (aV (.string _) rfl) ?_
 refine RL.nil ?_
 refine CW.ret ?_
 refine outP1 Tryz.results67 ?_ hH5.below
 exact congrArg S (names_commas n)

theorem c_term_kids (n : NodeR) (htx : TxN n.nd) (w : World) (hn : NodeV (Kw w) n) (ih : ∀ x ∈ n.kids, TxN x.nd → ∀ w, NodeV (Kw w) x → Calls Tryz.prog 29 #[.agg (nodeL x).toArray] w (Pure (S (textF x.nd)) w)) : Calls Tryz.prog 68 #[.agg (nodeL n).toArray] w (Pure (S (commasF (n.nd.kids.map textF))) w) := by
 have hm1 := hn.kids_.small
 have hm2 := hn.names_.small
 unfold maxLen at hm1 hm2
 refine enter Tryz.func68 rfl Tryz.ntmps68 rfl ?_
 have hH := Hp.start w
 refine SR ?_
 refine RL.new rfl hH (f := fun b => (.pointer (some ⟨b, 0, none⟩))) (run_box (v := .agg _) rfl) ?_
 intro b3 w1 hH2
 refine V (aV (.string ⟨#[]⟩) rfl) ?_
 refine RL.nil ?_
 refine SR ?_
 refine V (fA underlying28 4 rfl sizeOf26 rfl) ?_
 refine V (run_ldV (hn.kids_.sl.hp hH2) underlying26 rfl rfl (hH2.cell (i := 0) rfl rfl)) ?_
 refine V (run_lenSl (hn.kids_.sl.hp hH2) rfl underlying26 rfl) ?_
 refine V (run_mkF1 (by conv => lhs; whnf)) ?_
 refine RL.callP rfl hH2 (c_term_commas _ 107 [.pointer (some ⟨b3, 0, none⟩)] (fun i => textF (n.kids.getD i.toNat node0).nd) (by omega) (kids_bd htx) _ call107 (fun i w h h0 h1 => c_term_kids_1 b3 n i ⟨h0, h1⟩ htx w (NodeV.mono (hH2.kw.trans (Kw.below h)) hn) (keep h (hH2.blk (i := 0) rfl)) ih)) (run_call2 call105 rfl rfl) ?_
 intro w4 hH5
 refine V (aV (.string _) rfl) ?_
 refine RL.nil ?_
 refine CW.ret ?_
 refine outP1 Tryz.results68 ?_ hH5.below
 exact congrArg S (kids_commas n)

theorem s_text (n : NodeR) (htx : TxN n.nd) (w : World) (hn : NodeV (Kw w) n) (ih : ∀ x ∈ n.kids, TxN x.nd → ∀ w, NodeV (Kw w) x → Calls Tryz.prog 29 #[.agg (nodeL x).toArray] w (Pure (S (textF x.nd)) w)) : Calls Tryz.prog 29 #[.agg (nodeL n).toArray] w (Pure (S (textF n.nd)) w) := by
 have hm1 := hn.kids_.small
 have hm2 := hn.names_.small
 unfold maxLen at hm1 hm2
 have hkd := htx.kind
 rw [nd_kind] at hkd
 refine enter Tryz.func29 rfl Tryz.ntmps29 rfl ?_
 have hH := Hp.start w
 refine SR ?_
 refine RL.new rfl hH (f := fun b => (.pointer (some ⟨b, 0, none⟩))) (run_box (v := .agg _) rfl) ?_
 intro b3 w1 hH2
 refine V (aV (.string ⟨#[]⟩) rfl) ?_
 refine RL.nil ?_
 refine CW.seq ?_
 refine SR ?_
 refine V (fA underlying28 0 rfl sizeOf3 rfl) ?_
 refine V (run_ld underlying3 rfl rfl (hH2.cell (i := 0) rfl (v := I _) rfl)) ?_
 refine RL.nil ?_
 refine CW.block ?_
 refine CW.seq ?_
 refine SR ?_
 refine V (run_eql rfl rfl) ?_
 refine V (aV (B _) rfl) ?_
 refine RL.nil ?_
 refine CW.condP rfl (fun h5 => ?_) (fun h5 => ?_)
 ·refine CW.skip ?_
  refine CW.condT (bT h5) ?_
  refine SR ?_
  refine V (fA underlying28 2 rfl sizeOf9 rfl) ?_
  refine V (run_ld underlying9 rfl rfl (hH2.cell (i := 0) rfl (v := .string _) rfl)) ?_
  refine V (aV (.string _) rfl) ?_
  refine RL.nil ?_
  refine CW.ret ?_
  refine outP1 Tryz.results29 ?_ hH2.below
  (refine congrArg S ?_; first | (rw [text_eq, nd_kind, if_pos (.inl ‹n.kind = 1›), nd_text]; done) | (rw [text_eq, nd_kind, if_pos (.inr ‹n.kind = 2›), nd_text]; done) | (rw [text_eq, nd_kind, if_neg (by omega), if_pos ‹n.kind = 3›]; rfl) | (rw [text_eq, nd_kind, if_neg (by omega), if_neg (by omega), if_pos ‹n.kind = 4›]; rfl) | (rw [text_eq, nd_kind, if_neg (by omega), if_neg (by omega), if_neg (by omega), if_pos ‹n.kind = 5›]; rfl) | (rw [text_eq, nd_kind, if_neg (by omega), if_neg (by omega), if_neg (by omega), if_neg (by omega), if_pos ‹n.kind = 6›, nd_text]; rfl) | (rw [text_eq, nd_kind, if_neg (by omega), if_neg (by omega), if_neg (by omega), if_neg (by omega), if_neg (by omega)]))
 ·refine CW.region ?_
  refine V (run_eql rfl rfl) ?_
  refine V (aV (B _) rfl) ?_
  refine RL.nil ?_
  refine CW.condP rfl (fun h7 => ?_) (fun h7 => ?_)
  ·refine SR ?_
   refine V (fA underlying28 2 rfl sizeOf9 rfl) ?_
   refine V (run_ld underlying9 rfl rfl (hH2.cell (i := 0) rfl (v := .string _) rfl)) ?_
   refine V (aV (.string _) rfl) ?_
   refine RL.nil ?_
   refine CW.ret ?_
   refine outP1 Tryz.results29 ?_ hH2.below
   (refine congrArg S ?_; first | (rw [text_eq, nd_kind, if_pos (.inl ‹n.kind = 1›), nd_text]; done) | (rw [text_eq, nd_kind, if_pos (.inr ‹n.kind = 2›), nd_text]; done) | (rw [text_eq, nd_kind, if_neg (by omega), if_pos ‹n.kind = 3›]; rfl) | (rw [text_eq, nd_kind, if_neg (by omega), if_neg (by omega), if_pos ‹n.kind = 4›]; rfl) | (rw [text_eq, nd_kind, if_neg (by omega), if_neg (by omega), if_neg (by omega), if_pos ‹n.kind = 5›]; rfl) | (rw [text_eq, nd_kind, if_neg (by omega), if_neg (by omega), if_neg (by omega), if_neg (by omega), if_pos ‹n.kind = 6›, nd_text]; rfl) | (rw [text_eq, nd_kind, if_neg (by omega), if_neg (by omega), if_neg (by omega), if_neg (by omega), if_neg (by omega)]))
  ·refine SR ?_
   refine V (run_eql rfl rfl) ?_
   refine V (aV (B _) rfl) ?_
   refine RL.nil ?_
   refine CW.condP rfl (fun h9 => ?_) (fun h9 => ?_)
   ·refine SR ?_
    refine V (run_ldA (cs := nodeL _) underlying28 rfl rfl rfl (rangeAt_cells (hH2.blk (i := 0) rfl))) ?_
    refine RL.callP rfl hH2 (c_term_names n htx _ (NodeV.mono hH2.kw hn)) (run_call1 call67 rfl) ?_
    intro w10 hH11
    refine V (run_addS rfl rfl (by have ha := htx.nmT; have hb := htx.kdT; have hc := htx.txT; rw [nd_text] at hc; (try simp only [tx_size_app]); (try simp only [tsz1, tsz2]); omega)) ?_
    refine V (run_addS rfl rfl (by have ha := htx.nmT; have hb := htx.kdT; have hc := htx.txT; rw [nd_text] at hc; (try simp only [tx_size_app]); (try simp only [tsz1, tsz2]); omega)) ?_
    refine V (aV (.string _) rfl) ?_
    refine RL.nil ?_
    refine CW.ret ?_
    refine outP1 Tryz.results29 ?_ hH11.below
    (refine congrArg S ?_; first | (rw [text_eq, nd_kind, if_pos (.inl ‹n.kind = 1›), nd_text]; done) | (rw [text_eq, nd_kind, if_pos (.inr ‹n.kind = 2›), nd_text]; done) | (rw [text_eq, nd_kind, if_neg (by omega), if_pos ‹n.kind = 3›]; rfl) | (rw [text_eq, nd_kind, if_neg (by omega), if_neg (by omega), if_pos ‹n.kind = 4›]; rfl) | (rw [text_eq, nd_kind, if_neg (by omega), if_neg (by omega), if_neg (by omega), if_pos ‹n.kind = 5›]; rfl) | (rw [text_eq, nd_kind, if_neg (by omega), if_neg (by omega), if_neg (by omega), if_neg (by omega), if_pos ‹n.kind = 6›, nd_text]; rfl) | (rw [text_eq, nd_kind, if_neg (by omega), if_neg (by omega), if_neg (by omega), if_neg (by omega), if_neg (by omega)]))
   ·refine SR ?_
    refine V (run_eql rfl rfl) ?_
    refine V (aV (B _) rfl) ?_
    refine RL.nil ?_
    refine CW.condP rfl (fun h13 => ?_) (fun h13 => ?_)
    ·refine SR ?_
     refine V (run_ldA (cs := nodeL _) underlying28 rfl rfl rfl (rangeAt_cells (hH2.blk (i := 0) rfl))) ?_
     refine RL.callP rfl hH2 (c_term_kids n htx _ (NodeV.mono hH2.kw hn) ih) (run_call1 call68 rfl) ?_
     intro w14 hH15
     refine V (run_addS rfl rfl (by have ha := htx.nmT; have hb := htx.kdT; have hc := htx.txT; rw [nd_text] at hc; (try simp only [tx_size_app]); (try simp only [tsz1, tsz2]); omega)) ?_
     refine V (run_addS rfl rfl (by have ha := htx.nmT; have hb := htx.kdT; have hc := htx.txT; rw [nd_text] at hc; (try simp only [tx_size_app]); (try simp only [tsz1, tsz2]); omega)) ?_
     refine V (aV (.string _) rfl) ?_
     refine RL.nil ?_
     refine CW.ret ?_
     refine outP1 Tryz.results29 ?_ hH15.below
     (refine congrArg S ?_; first | (rw [text_eq, nd_kind, if_pos (.inl ‹n.kind = 1›), nd_text]; done) | (rw [text_eq, nd_kind, if_pos (.inr ‹n.kind = 2›), nd_text]; done) | (rw [text_eq, nd_kind, if_neg (by omega), if_pos ‹n.kind = 3›]; rfl) | (rw [text_eq, nd_kind, if_neg (by omega), if_neg (by omega), if_pos ‹n.kind = 4›]; rfl) | (rw [text_eq, nd_kind, if_neg (by omega), if_neg (by omega), if_neg (by omega), if_pos ‹n.kind = 5›]; rfl) | (rw [text_eq, nd_kind, if_neg (by omega), if_neg (by omega), if_neg (by omega), if_neg (by omega), if_pos ‹n.kind = 6›, nd_text]; rfl) | (rw [text_eq, nd_kind, if_neg (by omega), if_neg (by omega), if_neg (by omega), if_neg (by omega), if_neg (by omega)]))
    ·refine SR ?_
     refine V (run_eql rfl rfl) ?_
     refine V (aV (B _) rfl) ?_
     refine RL.nil ?_
     refine CW.condP rfl (fun h17 => ?_) (fun h17 => ?_)
     ·refine SR ?_
      refine V (run_ldA (cs := nodeL _) underlying28 rfl rfl rfl (rangeAt_cells (hH2.blk (i := 0) rfl))) ?_
      refine RL.callP rfl hH2 (c_term_kids n htx _ (NodeV.mono hH2.kw hn) ih) (run_call1 call68 rfl) ?_
      intro w18 hH19
      refine V (run_addS rfl rfl (by have ha := htx.nmT; have hb := htx.kdT; have hc := htx.txT; rw [nd_text] at hc; (try simp only [tx_size_app]); (try simp only [tsz1, tsz2]); omega)) ?_
      refine V (run_addS rfl rfl (by have ha := htx.nmT; have hb := htx.kdT; have hc := htx.txT; rw [nd_text] at hc; (try simp only [tx_size_app]); (try simp only [tsz1, tsz2]); omega)) ?_
      refine V (aV (.string _) rfl) ?_
      refine RL.nil ?_
      refine CW.ret ?_
      refine outP1 Tryz.results29 ?_ hH19.below
      (refine congrArg S ?_; first | (rw [text_eq, nd_kind, if_pos (.inl ‹n.kind = 1›), nd_text]; done) | (rw [text_eq, nd_kind, if_pos (.inr ‹n.kind = 2›), nd_text]; done) | (rw [text_eq, nd_kind, if_neg (by omega), if_pos ‹n.kind = 3›]; rfl) | (rw [text_eq, nd_kind, if_neg (by omega), if_neg (by omega), if_pos ‹n.kind = 4›]; rfl) | (rw [text_eq, nd_kind, if_neg (by omega), if_neg (by omega), if_neg (by omega), if_pos ‹n.kind = 5›]; rfl) | (rw [text_eq, nd_kind, if_neg (by omega), if_neg (by omega), if_neg (by omega), if_neg (by omega), if_pos ‹n.kind = 6›, nd_text]; rfl) | (rw [text_eq, nd_kind, if_neg (by omega), if_neg (by omega), if_neg (by omega), if_neg (by omega), if_neg (by omega)]))
     ·refine SR ?_
      refine V (run_eql rfl rfl) ?_
      refine V (aV (B _) rfl) ?_
      refine RL.nil ?_
      refine CW.condP rfl (fun h21 => ?_) (fun h21 => ?_)
      ·refine CW.seq ?_
       refine CW.regionD (by kernel_rfl) hH2 ?_
       intro w22 hH23
       refine AT 0 rfl (hH23.sub sR) (fun w hS => fA underlying28 2 rfl sizeOf9 rfl) ?_
       refine AT 1 rfl (hH23.sub sR) (fun w hS => run_ld underlying9 rfl rfl (hS.cell (i := 0) rfl (v := .string _) rfl)) ?_
       refine AT 2 rfl (hH23.sub sR) (fun w hS => run_addS rfl rfl (by have ha := htx.nmT; have hb := htx.kdT; have hc := htx.txT; rw [nd_text] at hc; (try simp only [tx_size_app]); (try simp only [tsz1, tsz2]); omega)) ?_
       refine AT 3 rfl (hH23.sub sR) (fun w hS => run_ldA (cs := nodeL _) underlying28 rfl rfl rfl (rangeAt_cells (hS.blk (i := 0) rfl))) ?_
       refine A1 4 ?_
       refine AO.callP rfl gnone rfl hH23 sR (c_term_names n htx _ (NodeV.mono hH23.kw hn)) (run_call1 call67 rfl) ?_
       intro w24 hH25
       refine AT 5 rfl (hH25.sub sR) (fun w hS => run_addS rfl rfl (by have ha := htx.nmT; have hb := htx.kdT; have hc := htx.txT; rw [nd_text] at hc; (try simp only [tx_size_app]); (try simp only [tsz1, tsz2]); omega)) ?_
       refine AT 6 rfl (hH25.sub sR) (fun w hS => run_addS rfl rfl (by have ha := htx.nmT; have hb := htx.kdT; have hc := htx.txT; rw [nd_text] at hc; (try simp only [tx_size_app]); (try simp only [tsz1, tsz2]); omega)) ?_
       refine AT 7 rfl (hH25.sub sR) (fun w hS => aV (.string _) rfl) ?_
       refine AD ?_
       refine CW.ret ?_
       refine outP1 Tryz.results29 ?_ hH25.below
       (refine congrArg S ?_; first | (rw [text_eq, nd_kind, if_pos (.inl ‹n.kind = 1›), nd_text]; done) | (rw [text_eq, nd_kind, if_pos (.inr ‹n.kind = 2›), nd_text]; done) | (rw [text_eq, nd_kind, if_neg (by omega), if_pos ‹n.kind = 3›]; rfl) | (rw [text_eq, nd_kind, if_neg (by omega), if_neg (by omega), if_pos ‹n.kind = 4›]; rfl) | (rw [text_eq, nd_kind, if_neg (by omega), if_neg (by omega), if_neg (by omega), if_pos ‹n.kind = 5›]; rfl) | (rw [text_eq, nd_kind, if_neg (by omega), if_neg (by omega), if_neg (by omega), if_neg (by omega), if_pos ‹n.kind = 6›, nd_text]; rfl) | (rw [text_eq, nd_kind, if_neg (by omega), if_neg (by omega), if_neg (by omega), if_neg (by omega), if_neg (by omega)]))
      ·refine SR ?_
       refine V (run_eql rfl rfl) ?_
       refine V (aV (B _) rfl) ?_
       refine RL.nil ?_
       refine CW.condF (bF ((by omega))) ?_
       refine SR ?_
       refine V (run_eql rfl rfl) ?_
       refine V (aV (B _) rfl) ?_
       refine RL.nil ?_
       refine CW.condF (bF ((by omega))) ?_
       refine SR ?_
       refine V (run_eql rfl rfl) ?_
       refine V (aV (B _) rfl) ?_
       refine RL.nil ?_
       refine CW.condF (bF ((by omega))) ?_
       refine SR ?_
       refine V (run_eql rfl rfl) ?_
       refine V (aV (B _) rfl) ?_
       refine RL.nil ?_
       refine CW.condF (bF ((by omega))) ?_
       refine SR ?_
       refine V (run_eql rfl rfl) ?_
       refine V (aV (B _) rfl) ?_
       refine RL.nil ?_
       refine CW.condF (bF ((by omega))) ?_
       refine CW.skip ?_
       refine SR ?_
       refine V (aV (.string ⟨#[]⟩) rfl) ?_
       refine RL.nil ?_
       refine CW.ret ?_
       refine outP1 Tryz.results29 ?_ hH2.below
       (refine congrArg S ?_; first | (rw [text_eq, nd_kind, if_pos (.inl ‹n.kind = 1›), nd_text]; done) | (rw [text_eq, nd_kind, if_pos (.inr ‹n.kind = 2›), nd_text]; done) | (rw [text_eq, nd_kind, if_neg (by omega), if_pos ‹n.kind = 3›]; rfl) | (rw [text_eq, nd_kind, if_neg (by omega), if_neg (by omega), if_pos ‹n.kind = 4›]; rfl) | (rw [text_eq, nd_kind, if_neg (by omega), if_neg (by omega), if_neg (by omega), if_pos ‹n.kind = 5›]; rfl) | (rw [text_eq, nd_kind, if_neg (by omega), if_neg (by omega), if_neg (by omega), if_neg (by omega), if_pos ‹n.kind = 6›, nd_text]; rfl) | (rw [text_eq, nd_kind, if_neg (by omega), if_neg (by omega), if_neg (by omega), if_neg (by omega), if_neg (by omega)]))
theorem c_term_Text (n : NodeR) : TxN n.nd → ∀ w, NodeV (Kw w) n → Calls Tryz.prog 29 #[.agg (nodeL n).toArray] w (Pure (S (textF n.nd)) w) := node_ind (C := fun n => TxN n.nd → ∀ w, NodeV (Kw w) n → Calls Tryz.prog 29 #[.agg (nodeL n).toArray] w (Pure (S (textF n.nd)) w)) (fun n ih htx w hn => s_text n htx w hn ih) n

theorem c_spell_Text (s : Shp) (e : El) (w : World) (hs : ShpV (Kw w) s) (hT : Tab w) : Calls Tryz.prog 14 #[.agg (shpC s), .agg (elC e)] w (Pure (S (spellF s.sh e)) w) := by
 refine enter Tryz.func14 rfl Tryz.ntmps14 rfl ?_
 have hH := Hp.start w
 refine SR ?_
 refine RL.new rfl hH (f := fun b => (.pointer (some ⟨b, 0, none⟩))) (run_box (v := .agg _) rfl) ?_
 intro b3 w1 hH2
 refine RL.new rfl hH2 (f := fun b => (.pointer (some ⟨b, 0, none⟩))) (run_box (v := .agg _) rfl) ?_
 intro b6 w4 hH5
 refine V (aV (.string ⟨#[]⟩) rfl) ?_
 refine RL.nil ?_
 refine SR ?_
 refine V (run_ldA (cs := [B _, _]) underlying24 rfl rfl rfl (rangeAt_cells (hH5.blk (i := 1) rfl))) ?_
 refine V (run_ldEl underlying34 rfl rfl rfl (hH5.blk (i := 0) rfl)) ?_
 refine RL.callF rfl hH5 (c_spell_Node (Kw w) s e _ hH5.kw hs (hT.hp hH5)) (run_call2 call12 rfl rfl) ?_
 intro v9 w10 Z12 hH11 hp13
 have hH14 : Hp _ w10 (_ :: _ :: Z12) := hH11.zin0 (L := [_, _])
 obtain ⟨n15, rfl, nd16, nv17⟩ := hp13
 refine RL.callP rfl hH14 (c_term_Text n15 (by rw [nd16]; exact node_tx _ _) _ (NodeV.mono (hH14.kz (Le.refl _) (fun x hx => (mT (mT hx)))) nv17)) (run_call1 call29 rfl) ?_
 intro w18 hH19
 refine V (run_addS rfl rfl (by rw [nd16]; have hq := (node_tx s.sh e).text; (try simp only [tx_size_app]); (try simp only [tsz1, tsz2, *]); omega)) ?_
 refine V (aV (.string _) rfl) ?_
 refine RL.nil ?_
 refine CW.ret ?_
 refine outP1 Tryz.results14 ?_ hH19.below
 (rw [nd16]; rfl)

theorem c_clearancelaw11_alive  (w : World) (hT : Tab w) : Calls Tryz.prog 8 #[] w (Pure (B true) w) := by
 refine enter Tryz.func8 rfl Tryz.ntmps8 rfl ?_
 have hH := Hp.start w
 refine SR ?_
 refine V (aV (B false) rfl) ?_
 refine RL.nil ?_
 refine SR ?_
 refine RL.new rfl hH (f := fun b => (.slice (some ⟨b, 0, none⟩) 2 2)) (run_mkL underlying45 rfl rfl (sz := 1) (vs := [.string ⟨#[112]⟩, .string ⟨#[113]⟩]) rfl rfl (by decide) (by decide) rfl rfl) ?_
 intro b3 w1 hH2
 (try simp only [List.flatMap_cons, List.flatMap_nil, clI, clB, clS, clP, clL, clA, List.append_nil, List.cons_append, List.nil_append] at hH2)
 have hH4 : Hp _ w1 ([Ent.blk b3 (.cells (txL exPQ).toArray 9 (0, 0))]) := Hp.zin0 (Z := [Ent.blk b3 (.cells (txL exPQ).toArray 9 (0, 0))]) (L := []) hH2
 have hv5 : SlV (Kz (Kw w) [Ent.blk b3 (.cells (txL exPQ).toArray 9 (0, 0))]) (.slice (some ⟨b3, 0, none⟩) 2 2) 1 2 (txL exPQ) := slv_blk (List.mem_cons_self ..) rfl (by simp [maxLen])
 refine V (run_bld (vs := [(0, U 3#64), (1, U 2#64)]) rfl built_up2) ?_
 refine V (run_bld (vs := [(0, I 2), (1, .agg ((relL twoR).drop 1).toArray)]) rfl built_relA) ?_
 refine V (run_bld (vs := [(0, I 3), (1, .slice (some ⟨b3, 0, none⟩) 2 2), (2, .agg (relC twoR))]) rfl (built_facR 3 b3 2 exPQ)) ?_
 refine RL.new rfl hH4 (f := fun b => (.slice (some ⟨b, 0, none⟩) 1 1)) (run_mkFacs underlying22 rfl rfl rfl (l := [_]) rfl (by decide) (by decide) rfl) ?_
 intro b8 w6 hH7
 have hH9 : Hp _ w6 (([Ent.blk b8 (.cells ([(⟨3, .slice (some ⟨b3, 0, none⟩) 2 2, exPQ, twoR⟩ : Fac)].flatMap facL).toArray 50 (0, 0))] ++ [Ent.blk b3 (.cells (txL exPQ).toArray 9 (0, 0))])) := Hp.zin (Z := [Ent.blk b8 (.cells ([(⟨3, .slice (some ⟨b3, 0, none⟩) 2 2, exPQ, twoR⟩ : Fac)].flatMap facL).toArray 50 (0, 0))]) (L := []) (L' := [Ent.blk b3 (.cells (txL exPQ).toArray 9 (0, 0))]) hH7
 have hv10 : SlV (Kz (Kw w) ([Ent.blk b8 (.cells ([(⟨3, .slice (some ⟨b3, 0, none⟩) 2 2, exPQ, twoR⟩ : Fac)].flatMap facL).toArray 50 (0, 0))] ++ [Ent.blk b3 (.cells (txL exPQ).toArray 9 (0, 0))])) (.slice (some ⟨b8, 0, none⟩) 1 1) 67 1 ([(⟨3, .slice (some ⟨b3, 0, none⟩) 2 2, exPQ, twoR⟩ : Fac)].flatMap facL) := slv_blk (List.mem_cons_self ..) (flat_length facL_len [_]) (by simp [maxLen])
 refine V (run_bld (vs := [(1, .slice (some ⟨b8, 0, none⟩) 1 1)]) rfl (built_shp1 rfl)) ?_
 have hs11 : ShpV (Kz (Kw w) (([Ent.blk b8 (.cells ([(⟨3, .slice (some ⟨b3, 0, none⟩) 2 2, exPQ, twoR⟩ : Fac)].flatMap facL).toArray 50 (0, 0))] ++ [Ent.blk b3 (.cells (txL exPQ).toArray 9 (0, 0))]))) (⟨false, .slice (some ⟨b8, 0, none⟩) 1 1, [(⟨3, .slice (some ⟨b3, 0, none⟩) 2 2, exPQ, twoR⟩ : Fac)]⟩ : Shp) := ⟨hv10, fun x hx => by rw [List.mem_singleton.1 hx]; exact ⟨hv5.mono (Le.zz fun y hy => List.mem_append_right _ hy)⟩⟩
 refine RL.new rfl hH9 (f := fun b => (.pointer (some ⟨b, 0, none⟩))) (run_alloc Tryz.zeroValue24) ?_
 intro b14 w12 hH13
 refine RL.set hH13 (i := 0) rfl (run_stW (c' := #[B false, .slice (some ⟨b8, 0, none⟩) 1 1]) rfl rfl rfl (by simp [Value.oneCell']) (hH13.blk (i := 0) rfl) rfl) ?_
 intro w15 hH16
 simp only [z0, z1] at hH16
 refine RL.nil ?_
 refine SR ?_
 refine V (run_bld (vs := [(0, .string ⟨#[113]⟩)]) rfl (built_wdLs _)) ?_
 refine RL.new rfl hH16 (f := fun b => (.slice (some ⟨b, 0, none⟩) 1 1)) (run_mkRecs wdL_len underlying25 rfl rfl rfl (l := [_]) rfl (by decide) (by decide) rfl) ?_
 intro b19 w17 hH18
 have hH20 : Hp _ w17 (_ :: ([Ent.blk b19 (.cells ([(⟨⟨#[113]⟩, 0⟩ : Wd)].flatMap wdL).toArray 53 (0, 0))] ++ ([Ent.blk b8 (.cells ([(⟨3, .slice (some ⟨b3, 0, none⟩) 2 2, exPQ, twoR⟩ : Fac)].flatMap facL).toArray 50 (0, 0))] ++ [Ent.blk b3 (.cells (txL exPQ).toArray 9 (0, 0))]))) := Hp.zin (Z := [Ent.blk b19 (.cells ([(⟨⟨#[113]⟩, 0⟩ : Wd)].flatMap wdL).toArray 53 (0, 0))]) (L := [_]) (L' := ([Ent.blk b8 (.cells ([(⟨3, .slice (some ⟨b3, 0, none⟩) 2 2, exPQ, twoR⟩ : Fac)].flatMap facL).toArray 50 (0, 0))] ++ [Ent.blk b3 (.cells (txL exPQ).toArray 9 (0, 0))])) hH18
 have hv21 : SlV (Kz (Kw w) ([Ent.blk b19 (.cells ([(⟨⟨#[113]⟩, 0⟩ : Wd)].flatMap wdL).toArray 53 (0, 0))] ++ ([Ent.blk b8 (.cells ([(⟨3, .slice (some ⟨b3, 0, none⟩) 2 2, exPQ, twoR⟩ : Fac)].flatMap facL).toArray 50 (0, 0))] ++ [Ent.blk b3 (.cells (txL exPQ).toArray 9 (0, 0))]))) (.slice (some ⟨b19, 0, none⟩) 1 1) 2 1 ([(⟨⟨#[113]⟩, 0⟩ : Wd)].flatMap wdL) := slv_blk (List.mem_cons_self ..) (flat_length wdL_len [_]) (by simp [maxLen])
 refine V (run_bld (vs := [(0, I 6), (2, S ⟨#[112]⟩), (3, .slice (some ⟨b19, 0, none⟩) 1 1)]) rfl (built_nodeTN rfl 6 ⟨#[112]⟩ [⟨⟨#[113]⟩, 0⟩])) ?_
 refine RL.new rfl hH20 (f := fun b => (.slice (some ⟨b, 0, none⟩) 1 1)) (run_mkRecs nodeL_len underlying26 rfl rfl rfl (l := [_]) rfl (by decide) (by decide) rfl) ?_
 intro b24 w22 hH23
 have hH25 : Hp _ w22 (_ :: ([Ent.blk b24 (.cells ([(kindR 6 ⟨#[112]⟩ (.slice (some ⟨b19, 0, none⟩) 1 1) [⟨⟨#[113]⟩, 0⟩])].flatMap nodeL).toArray 28 (0, 0))] ++ ([Ent.blk b19 (.cells ([(⟨⟨#[113]⟩, 0⟩ : Wd)].flatMap wdL).toArray 53 (0, 0))] ++ ([Ent.blk b8 (.cells ([(⟨3, .slice (some ⟨b3, 0, none⟩) 2 2, exPQ, twoR⟩ : Fac)].flatMap facL).toArray 50 (0, 0))] ++ [Ent.blk b3 (.cells (txL exPQ).toArray 9 (0, 0))])))) := Hp.zin (Z := [Ent.blk b24 (.cells ([(kindR 6 ⟨#[112]⟩ (.slice (some ⟨b19, 0, none⟩) 1 1) [⟨⟨#[113]⟩, 0⟩])].flatMap nodeL).toArray 28 (0, 0))]) (L := [_]) (L' := ([Ent.blk b19 (.cells ([(⟨⟨#[113]⟩, 0⟩ : Wd)].flatMap wdL).toArray 53 (0, 0))] ++ ([Ent.blk b8 (.cells ([(⟨3, .slice (some ⟨b3, 0, none⟩) 2 2, exPQ, twoR⟩ : Fac)].flatMap facL).toArray 50 (0, 0))] ++ [Ent.blk b3 (.cells (txL exPQ).toArray 9 (0, 0))]))) hH23
 have hv26 : SlV (Kz (Kw w) ([Ent.blk b24 (.cells ([(kindR 6 ⟨#[112]⟩ (.slice (some ⟨b19, 0, none⟩) 1 1) [⟨⟨#[113]⟩, 0⟩])].flatMap nodeL).toArray 28 (0, 0))] ++ ([Ent.blk b19 (.cells ([(⟨⟨#[113]⟩, 0⟩ : Wd)].flatMap wdL).toArray 53 (0, 0))] ++ ([Ent.blk b8 (.cells ([(⟨3, .slice (some ⟨b3, 0, none⟩) 2 2, exPQ, twoR⟩ : Fac)].flatMap facL).toArray 50 (0, 0))] ++ [Ent.blk b3 (.cells (txL exPQ).toArray 9 (0, 0))])))) (.slice (some ⟨b24, 0, none⟩) 1 1) 5 1 ([(kindR 6 ⟨#[112]⟩ (.slice (some ⟨b19, 0, none⟩) 1 1) [⟨⟨#[113]⟩, 0⟩])].flatMap nodeL) := slv_blk (List.mem_cons_self ..) (flat_length nodeL_len [_]) (by simp [maxLen])
 refine V (run_bld (vs := [(0, I 5), (4, .slice (some ⟨b24, 0, none⟩) 1 1)]) rfl (built_nodeKd 5 b24 1 [(kindR 6 ⟨#[112]⟩ (.slice (some ⟨b19, 0, none⟩) 1 1) [⟨⟨#[113]⟩, 0⟩])])) ?_
 have hn27 : NodeV (Kz (Kw w) (([Ent.blk b24 (.cells ([(kindR 6 ⟨#[112]⟩ (.slice (some ⟨b19, 0, none⟩) 1 1) [⟨⟨#[113]⟩, 0⟩])].flatMap nodeL).toArray 28 (0, 0))] ++ ([Ent.blk b19 (.cells ([(⟨⟨#[113]⟩, 0⟩ : Wd)].flatMap wdL).toArray 53 (0, 0))] ++ ([Ent.blk b8 (.cells ([(⟨3, .slice (some ⟨b3, 0, none⟩) 2 2, exPQ, twoR⟩ : Fac)].flatMap facL).toArray 50 (0, 0))] ++ [Ent.blk b3 (.cells (txL exPQ).toArray 9 (0, 0))]))))) (kidsR 5 (.slice (some ⟨b24, 0, none⟩) 1 1) [(kindR 6 ⟨#[112]⟩ (.slice (some ⟨b19, 0, none⟩) 1 1) [⟨⟨#[113]⟩, 0⟩])]) := kidsR_v hv26 ⟨fun x hx => by rw [List.mem_singleton.1 hx]; exact kindR_v (hv21.mono (Le.zz fun y hy => List.mem_append_right _ hy))⟩
 have hnd : (kidsR 5 (.slice (some ⟨b24, 0, none⟩) 1 1) [(kindR 6 ⟨#[112]⟩ (.slice (some ⟨b19, 0, none⟩) 1 1) [⟨⟨#[113]⟩, 0⟩])]).nd = exNd := by rw [kidsR_nd, List.map_cons, List.map_nil, kindR_nd]; rfl
 refine RL.new rfl hH25 (f := fun b => (.pointer (some ⟨b, 0, none⟩))) (run_alloc Tryz.zeroValue28) ?_
 intro b30 w28 hH29
 refine RL.set hH29 (i := 0) rfl (run_stW (c' := (nodeL (kidsR 5 (.slice (some ⟨b24, 0, none⟩) 1 1) [(kindR 6 ⟨#[112]⟩ (.slice (some ⟨b19, 0, none⟩) 1 1) [⟨⟨#[113]⟩, 0⟩])])).toArray) rfl rfl rfl (nodeL_one hn27) (hH29.blk (i := 0) rfl) rfl) ?_
 intro w31 hH32
 simp only [z0, z1] at hH32
 refine RL.nil ?_
 refine SR ?_
 refine V (run_ldA (cs := [B _, _]) underlying24 rfl rfl rfl (rangeAt_cells (hH32.blk (i := 1) rfl))) ?_
 refine V (run_ldA (cs := nodeL _) underlying28 rfl rfl rfl (rangeAt_cells (hH32.blk (i := 0) rfl))) ?_
 refine RL.callP rfl hH32 (c_spell_Elem (⟨false, .slice (some ⟨b8, 0, none⟩) 1 1, [(⟨3, .slice (some ⟨b3, 0, none⟩) 2 2, exPQ, twoR⟩ : Fac)]⟩ : Shp) (kidsR 5 (.slice (some ⟨b24, 0, none⟩) 1 1) [(kindR 6 ⟨#[112]⟩ (.slice (some ⟨b19, 0, none⟩) 1 1) [⟨⟨#[113]⟩, 0⟩])]) _ (hs11.mono (hH32.kz (Le.refl _) (fun x hx => (mT (mT (List.mem_append_right _ (List.mem_append_right _ hx))))))) (NodeV.mono (hH32.kz (Le.refl _) (fun x hx => (mT (mT hx)))) hn27) (hT.hp hH32)) (run_call2 call9 rfl rfl) ?_
 intro w33 hH34
 refine V (run_move (by conv => lhs; whnf)) ?_
 refine V (run_extract rfl (v := .agg _) rfl) ?_
 refine V (run_extract rfl (v := .agg _) rfl) ?_
 refine RL.new rfl hH34 (f := fun b => (.pointer (some ⟨b, 0, none⟩))) (run_alloc zero_el) ?_
 intro b37 w35 hH36
 refine RL.new rfl hH36 (f := fun b => (.pointer (some ⟨b, 0, none⟩))) (run_alloc zero_flt) ?_
 intro b40 w38 hH39
 refine RL.set hH39 (i := 1) rfl (run_stEl rfl rfl rfl (hH39.blk (i := 1) rfl)) ?_
 intro w41 hH42
 simp only [z0, z1] at hH42
 refine RL.set hH42 (i := 0) rfl (run_stW (c' := (fltL _).toArray) rfl rfl rfl (by simp [fltL, Value.oneCell']) (hH42.blk (i := 0) rfl) rfl) ?_
 intro w43 hH44
 simp only [z0, z1] at hH44
 refine RL.nil ?_
 refine SR ?_
 refine V (run_ldA (cs := fltL _) underlying36 rfl rfl rfl (rangeAt_cells (hH44.blk (i := 0) rfl))) ?_
 refine V (run_bld (vs := []) rfl (built_fltL0)) ?_
 refine V (run_eqlT (eq_flt _ _) rfl rfl) ?_
 refine V (mV (B _) rfl) ?_
 refine RL.gT rfl (bT ((by rw [hnd]; exact exG_E.1))) ?_
 refine V (run_ldEl underlying34 rfl rfl rfl (hH44.blk (i := 1) rfl)) ?_
 refine RL.gT rfl (bT ((by rw [hnd]; exact exG_E.1))) ?_
 refine V (run_bld (vs := [(0, U 1#64)]) rfl (built_el1 _)) ?_
 refine RL.gT rfl (bT ((by rw [hnd]; exact exG_E.1))) ?_
 refine V (run_eqlEl elT_fact rfl rfl) ?_
 refine V (run_pickT (bT ((by rw [hnd]; exact exG_E.1))) (v := B _) rfl) ?_
 refine V (mV (B _) rfl) ?_
 refine RL.gT rfl (bT ((by rw [hnd]; exact exG_E.2))) ?_
 refine V (run_ldA (cs := [B _, _]) underlying24 rfl rfl rfl (rangeAt_cells (hH44.blk (i := 3) rfl))) ?_
 refine RL.gT rfl (bT ((by rw [hnd]; exact exG_E.2))) ?_
 refine V (run_ldEl underlying34 rfl rfl rfl (hH44.blk (i := 1) rfl)) ?_
 refine RL.gT rfl (bT ((by rw [hnd]; exact exG_E.2))) ?_
 refine RL.callP rfl hH44 (c_spell_Text (⟨false, .slice (some ⟨b8, 0, none⟩) 1 1, [(⟨3, .slice (some ⟨b3, 0, none⟩) 2 2, exPQ, twoR⟩ : Fac)]⟩ : Shp) _ _ (hs11.mono (hH44.kz (Le.refl _) (fun x hx => (mT (mT (mT (mT (List.mem_append_right _ (List.mem_append_right _ hx))))))))) (hT.hp hH44)) (run_call2 call14 rfl rfl) ?_
 intro w47 hH48
 refine RL.gT rfl (bT ((by rw [hnd]; exact exG_E.2))) ?_
 refine V (run_eqlS rfl rfl) ?_
 refine V (run_pickT (bT ((by rw [hnd]; exact exG_E.2))) (v := B _) rfl) ?_
 refine V (aV (B _) rfl) ?_
 refine RL.nil ?_
 refine CW.ret ?_
 refine outP1 Tryz.results8 (congrArg B ?_) hH48.below
 exact decide_eq_true (by rw [hnd]; exact exG_S exG_E.2)

theorem c_clearancelaw11_SpellSound (s : Shp) (n : NodeR) (w : World) (hs : ShpV (Kw w) s) (hn : NodeV (Kw w) n) (hT : Tab w) : Calls Tryz.prog 5 #[.agg (shpC s), .agg (nodeL n).toArray] w (Pure (B true) w) := by
 refine enter Tryz.func5 rfl Tryz.ntmps5 rfl ?_
 have hH := Hp.start w
 refine SR ?_
 refine RL.new rfl hH (f := fun b => (.pointer (some ⟨b, 0, none⟩))) (run_box (v := .agg _) rfl) ?_
 intro b3 w1 hH2
 refine RL.new rfl hH2 (f := fun b => (.pointer (some ⟨b, 0, none⟩))) (run_box (v := .agg _) rfl) ?_
 intro b6 w4 hH5
 refine V (aV (B false) rfl) ?_
 refine RL.nil ?_
 refine CW.seq ?_
 refine SR ?_
 refine V (run_ldA (cs := [B _, _]) underlying24 rfl rfl rfl (rangeAt_cells (hH5.blk (i := 1) rfl))) ?_
 refine RL.callP rfl hH5 (c_clearancelaw07_Big _  _ (hs.mono hH5.kw)) (run_call1 call6 rfl) ?_
 intro w7 hH8
 refine V (mV (B _) rfl) ?_
 refine RL.split (dj := 11) rfl (fun h10 => ?_) (fun h10 => ?_)
 ·refine RL.gF rfl rfl (bR (c := true) h10) rfl ?_
  refine RL.gF rfl rfl (bR (c := true) h10) rfl ?_
  refine RL.gF rfl rfl (bR (c := true) h10) rfl ?_
  refine V (run_pickT (bR (c := true) h10) (v := B true) rfl) ?_
  refine RL.nil ?_
  refine CW.condT rfl ?_
  refine SR ?_
  refine RL.callP rfl hH8 (c_clearancelaw11_alive   _ (hT.hp hH8)) (run_call0 call8) ?_
  intro w11 hH12
  refine V (aV (B _) rfl) ?_
  refine RL.nil ?_
  refine CW.ret ?_
  refine outP1 Tryz.results5 (congrArg B ?_) hH12.below
  rfl
 ·refine RL.gT rfl (bR (c := false) h10) ?_
  refine V (run_ldA (cs := nodeL _) underlying28 rfl rfl rfl (rangeAt_cells (hH8.blk (i := 0) rfl))) ?_
  refine RL.gT rfl (bR (c := false) h10) ?_
  refine RL.new rfl hH8 (f := fun b => (.slice (some ⟨b, 0, none⟩) 1 1)) (run_mkRecs nodeL_len underlying26 rfl rfl rfl (l := [_]) rfl (by decide) (by decide) rfl) ?_
  intro b16 w14 hH15
  refine RL.gT rfl (bR (c := false) h10) ?_
  refine RL.callT rfl (c_clearancelaw10_Big _ [n] _ (Hp.slFlat nodeL_len hH15 (i := 0) (l := [_]) rfl (by simp [maxLen])) ⟨fun x hx => by rw [List.mem_singleton.1 hx]; exact NodeV.mono hH15.kw hn⟩) (run_call1 call7 rfl) ?_
  rintro _ w19 ⟨⟨b22, rfl⟩, hb20⟩
  have hH21 := hH15.call hb20
  refine V (run_pickF (bR (c := false) h10) (v := B _) rfl) ?_
  refine RL.nil ?_
  refine CW.cond rfl (fun h24 => ?_) (fun h24 => ?_)
  ·refine SR ?_
   refine RL.callP rfl hH21 (c_clearancelaw11_alive   _ (hT.hp hH21)) (run_call0 call8) ?_
   intro w25 hH26
   refine V (aV (B _) rfl) ?_
   refine RL.nil ?_
   refine CW.ret ?_
   refine outP1 Tryz.results5 (congrArg B ?_) hH26.below
   rfl
  ·refine CW.skip ?_
   refine SR ?_
   refine V (run_ldA (cs := [B _, _]) underlying24 rfl rfl rfl (rangeAt_cells (hH21.blk (i := 2) rfl))) ?_
   refine V (run_ldA (cs := nodeL _) underlying28 rfl rfl rfl (rangeAt_cells (hH21.blk (i := 1) rfl))) ?_
   refine RL.callP rfl hH21 (c_spell_Elem _ _  _ (hs.mono hH21.kw) (hn.mono hH21.kw) (hT.hp hH21)) (run_call2 call9 rfl rfl) ?_
   intro w28 hH29
   refine V (run_move (by conv => lhs; whnf)) ?_
   refine V (run_extract rfl (v := .agg _) rfl) ?_
   refine V (run_extract rfl (v := .agg _) rfl) ?_
   refine RL.new rfl hH29 (f := fun b => (.pointer (some ⟨b, 0, none⟩))) (run_alloc zero_el) ?_
   intro b32 w30 hH31
   refine RL.new rfl hH31 (f := fun b => (.pointer (some ⟨b, 0, none⟩))) (run_alloc zero_flt) ?_
   intro b35 w33 hH34
   refine RL.set hH34 (i := 1) rfl (run_stEl rfl rfl rfl (hH34.blk (i := 1) rfl)) ?_
   intro w36 hH37
   simp only [z0, z1] at hH37
   refine RL.set hH37 (i := 0) rfl (run_stW (c' := (fltL _).toArray) rfl rfl rfl (by simp [fltL, Value.oneCell']) (hH37.blk (i := 0) rfl) rfl) ?_
   intro w38 hH39
   simp only [z0, z1] at hH39
   refine RL.nil ?_
   refine CW.seq ?_
   refine SR ?_
   refine V (run_ldA (cs := fltL _) underlying36 rfl rfl rfl (rangeAt_cells (hH39.blk (i := 0) rfl))) ?_
   refine V (run_bld (vs := []) rfl (built_fltL0)) ?_
   refine V (run_neqT (eq_flt _ _) rfl rfl) ?_
   refine RL.nil ?_
   refine CW.cond rfl (fun h41 => ?_) (fun h41 => ?_)
   ·refine SR ?_
    refine V (fA underlying36 0 rfl sizeOf3 rfl) ?_
    refine V (run_ld underlying3 rfl rfl (hH39.cell (i := 0) rfl (v := I _) rfl)) ?_
    refine V (run_eql rfl rfl) ?_
    refine V (mV (B _) rfl) ?_
    refine RL.gT rfl (bT ((res_flt (nt' ‹(!decide ((resE (elemG s.sh n.nd)).2 = flt0)) = true›)).1)) ?_
    refine V (run_ldEl underlying34 rfl rfl rfl (hH39.blk (i := 1) rfl)) ?_
    refine RL.gT rfl (bT ((res_flt (nt' ‹(!decide ((resE (elemG s.sh n.nd)).2 = flt0)) = true›)).1)) ?_
    refine V (run_bld (vs := []) rfl (built_el0)) ?_
    refine RL.gT rfl (bT ((res_flt (nt' ‹(!decide ((resE (elemG s.sh n.nd)).2 = flt0)) = true›)).1)) ?_
    refine V (run_eqlEl elT_fact rfl rfl) ?_
    refine V (run_pickT (bT ((res_flt (nt' ‹(!decide ((resE (elemG s.sh n.nd)).2 = flt0)) = true›)).1)) (v := B _) rfl) ?_
    refine V (mV (B _) rfl) ?_
    refine RL.gT rfl (bT ((res_flt (nt' ‹(!decide ((resE (elemG s.sh n.nd)).2 = flt0)) = true›)).2)) ?_
    refine RL.callP rfl hH39 (c_clearancelaw11_alive   _ (hT.hp hH39)) (run_call0 call8) ?_
    intro w44 hH45
    refine V (run_pickT (bT ((res_flt (nt' ‹(!decide ((resE (elemG s.sh n.nd)).2 = flt0)) = true›)).2)) (v := B _) rfl) ?_
    refine V (aV (B _) rfl) ?_
    refine RL.nil ?_
    refine CW.ret ?_
    refine outP1 Tryz.results5 (congrArg B ?_) hH45.below
    rfl
   ·refine CW.skip ?_
    refine CW.seq ?_
    have hok := res_is (nf' ‹(!decide ((resE (elemG s.sh n.nd)).2 = flt0)) = false›)
    have hso := elem_sound hok
    refine CW.regionD (by kernel_rfl) hH39 ?_
    intro w47 hH48
    refine AT 0 rfl (hH48.sub sR) (fun w hS => run_ldA (cs := [B _, _]) underlying24 rfl rfl rfl (rangeAt_cells (hS.blk (i := 4) rfl))) ?_
    refine AT 1 rfl (hH48.sub sR) (fun w hS => run_ldA (cs := [B _, _]) underlying24 rfl rfl rfl (rangeAt_cells (hS.blk (i := 4) rfl))) ?_
    refine AT 2 rfl (hH48.sub sR) (fun w hS => run_ldEl underlying34 rfl rfl rfl (hS.blk (i := 1) rfl)) ?_
    refine AN.three 3 8 9 (by kernel_rfl) ?_ ?_ ?_
    ·refine AO.callF rfl gnone rfl hH48 sR (c_spell_Node (Kw w) s (resE (elemG s.sh n.nd)).1 _ hH48.kw hs (hT.hp hH48)) (run_call2 call12 rfl rfl) ?_
     intro v51 w52 Z54 hH53 hp55
     have hH56 : Hp _ w52 (_ :: _ :: _ :: _ :: _ :: Z54) := hH53.zin0 (L := [_, _, _, _, _])
     obtain ⟨n57, rfl, nd58, nv59⟩ := hp55
     refine AN.three 4 8 9 (by kernel_rfl) ?_ ?_ ?_
     ·refine AO.callP rfl gnone rfl hH56 (sP (sP (sP (sP (sP (List.nil_sublist _)))))) (c_spell_Elem s n57 _ (hs.mono hH56.kw) (NodeV.mono (hH56.kz (Le.refl _) (fun x hx => (mT (mT (mT (mT (mT hx))))))) nv59) (hT.hp hH56)) (run_call2 call9 rfl rfl) ?_
      intro w60 hH61
      refine AT 5 rfl (hH61.sub (sP (sP (sP (sP (sP (List.nil_sublist _))))))) (fun w hS => run_move (by conv => lhs; whnf)) ?_
      refine AT 6 rfl (hH61.sub (sP (sP (sP (sP (sP (List.nil_sublist _))))))) (fun w hS => run_extract rfl (v := .agg _) rfl) ?_
      refine AT 7 rfl (hH61.sub (sP (sP (sP (sP (sP (List.nil_sublist _))))))) (fun w hS => run_extract rfl (v := .agg _) rfl) ?_
      refine AN.two 8 9 (by kernel_rfl) ?_ ?_
      ·refine AO.new rfl gnone rfl hH61 (sP (sP (sP (sP (sP (List.nil_sublist _)))))) (f := fun b => .pointer (some ⟨b, 0, none⟩)) (run_alloc zero_el) ?_
       intro b64 w62 hH63
       refine A1 9 ?_
       refine AO.new rfl gnone rfl hH63 (sQ (sP (sP (sP (sP (sP (List.nil_sublist _))))))) (f := fun b => .pointer (some ⟨b, 0, none⟩)) (run_alloc zero_flt) ?_
       intro b67 w65 hH66
       refine A1 10 ?_
       refine AO.set rfl gnone hH66 (j := 1) rfl (sQ (sQ (sP (sP (sP (sP (sP (List.nil_sublist _)))))))) (run_stEl rfl rfl rfl (hH66.blk (i := 1) rfl)) ?_
       intro w70 hH71
       simp only [z0, z1] at hH71
       refine A1 11 ?_
       refine AO.set rfl gnone hH71 (j := 0) rfl (sQ (sQ (sP (sP (sP (sP (sP (List.nil_sublist _)))))))) (run_stW (c' := (fltL _).toArray) rfl rfl rfl (by simp [fltL, Value.oneCell']) (hH71.blk (i := 0) rfl) rfl) ?_
       intro w74 hH75
       simp only [z0, z1] at hH75
       refine AD ?_
       refine SR ?_
       refine V (run_ldA (cs := [B _, _]) underlying24 rfl rfl rfl (rangeAt_cells (hH75.blk (i := 6) rfl))) ?_
       refine RL.callP rfl hH75 (c_clearanceref07_Right _  _ (hs.mono hH75.kw)) (run_call1 call16 rfl) ?_
       intro w76 hH77
       refine V (mV (B _) rfl) ?_
       refine RL.gT rfl (bR (c := true) (hso.1)) ?_
       refine V (run_ldA (cs := nodeL _) underlying28 rfl rfl rfl (rangeAt_cells (hH77.blk (i := 5) rfl))) ?_
       refine RL.gT rfl (bR (c := true) (hso.1)) ?_
       refine RL.callP rfl hH77 (c_clearanceref10_IsConst _  _ (hn.mono hH77.kw)) (run_call1 call17 rfl) ?_
       intro w79 hH80
       refine V (run_pickT (bR (c := true) (hso.1)) (v := B _) rfl) ?_
       refine V (mV (B _) rfl) ?_
       refine RL.gT rfl (bR (c := true) (hso.2.1)) ?_
       refine V (run_ldA (cs := [B _, _]) underlying24 rfl rfl rfl (rangeAt_cells (hH80.blk (i := 6) rfl))) ?_
       refine RL.gT rfl (bR (c := true) (hso.2.1)) ?_
       refine V (run_ldEl underlying34 rfl rfl rfl (hH80.blk (i := 3) rfl)) ?_
       refine RL.gT rfl (bR (c := true) (hso.2.1)) ?_
       refine RL.callP rfl hH80 (c_shape_Fits _ _  _ (hs.mono hH80.kw) (hT.hp hH80)) (run_call2 call18 rfl rfl) ?_
       intro w82 hH83
       refine V (run_pickT (bR (c := true) (hso.2.1)) (v := B _) rfl) ?_
       refine V (mV (B _) rfl) ?_
       refine RL.gT rfl (bR (c := true) (hso.2.2)) ?_
       refine V (run_ldA (cs := fltL _) underlying36 rfl rfl rfl (rangeAt_cells (hH83.blk (i := 0) rfl))) ?_
       refine RL.gT rfl (bR (c := true) (hso.2.2)) ?_
       refine V (run_bld (vs := []) rfl (built_fltL0)) ?_
       refine RL.gT rfl (bR (c := true) (hso.2.2)) ?_
       refine V (run_eqlT (eq_flt _ _) rfl rfl) ?_
       refine V (run_pickT (bR (c := true) (hso.2.2)) (v := B _) rfl) ?_
       refine V (mV (B _) rfl) ?_
       refine RL.gT rfl (bT ((res_back nd58 hso.2.2).1)) ?_
       refine V (run_ldEl underlying34 rfl rfl rfl (hH83.blk (i := 1) rfl)) ?_
       refine RL.gT rfl (bT ((res_back nd58 hso.2.2).1)) ?_
       refine V (run_ldEl underlying34 rfl rfl rfl (hH83.blk (i := 3) rfl)) ?_
       refine RL.gT rfl (bT ((res_back nd58 hso.2.2).1)) ?_
       refine V (run_eqlEl elT_fact rfl rfl) ?_
       refine V (run_pickT (bT ((res_back nd58 hso.2.2).1)) (v := B _) rfl) ?_
       refine V (mV (B _) rfl) ?_
       refine RL.gT rfl (bT ((res_back nd58 hso.2.2).2)) ?_
       refine RL.callP rfl hH83 (c_clearancelaw11_alive   _ (hT.hp hH83)) (run_call0 call8) ?_
       intro w87 hH88
       refine V (run_pickT (bT ((res_back nd58 hso.2.2).2)) (v := B _) rfl) ?_
       refine V (aV (B _) rfl) ?_
       refine RL.nil ?_
       refine CW.ret ?_
       refine outP1 Tryz.results5 (congrArg B ?_) hH88.below
       rfl
      ·refine AO.new rfl gnone rfl hH61 (sP (sP (sP (sP (sP (List.nil_sublist _)))))) (f := fun b => .pointer (some ⟨b, 0, none⟩)) (run_alloc zero_flt) ?_
       intro b92 w90 hH91
       refine A1 8 ?_
       refine AO.new rfl gnone rfl hH91 (sQ (sP (sP (sP (sP (sP (List.nil_sublist _))))))) (f := fun b => .pointer (some ⟨b, 0, none⟩)) (run_alloc zero_el) ?_
       intro b95 w93 hH94
       refine A1 10 ?_
       refine AO.set rfl gnone hH94 (j := 0) rfl (sQ (sQ (sP (sP (sP (sP (sP (List.nil_sublist _)))))))) (run_stEl rfl rfl rfl (hH94.blk (i := 0) rfl)) ?_
       intro w98 hH99
       simp only [z0, z1] at hH99
       refine A1 11 ?_
       refine AO.set rfl gnone hH99 (j := 1) rfl (sQ (sQ (sP (sP (sP (sP (sP (List.nil_sublist _)))))))) (run_stW (c' := (fltL _).toArray) rfl rfl rfl (by simp [fltL, Value.oneCell']) (hH99.blk (i := 1) rfl) rfl) ?_
       intro w102 hH103
       simp only [z0, z1] at hH103
       refine AD ?_
       refine SR ?_
       refine V (run_ldA (cs := [B _, _]) underlying24 rfl rfl rfl (rangeAt_cells (hH103.blk (i := 6) rfl))) ?_
       refine RL.callP rfl hH103 (c_clearanceref07_Right _  _ (hs.mono hH103.kw)) (run_call1 call16 rfl) ?_
       intro w104 hH105
       refine V (mV (B _) rfl) ?_
       refine RL.gT rfl (bR (c := true) (hso.1)) ?_
       refine V (run_ldA (cs := nodeL _) underlying28 rfl rfl rfl (rangeAt_cells (hH105.blk (i := 5) rfl))) ?_
       refine RL.gT rfl (bR (c := true) (hso.1)) ?_
       refine RL.callP rfl hH105 (c_clearanceref10_IsConst _  _ (hn.mono hH105.kw)) (run_call1 call17 rfl) ?_
       intro w107 hH108
       refine V (run_pickT (bR (c := true) (hso.1)) (v := B _) rfl) ?_
       refine V (mV (B _) rfl) ?_
       refine RL.gT rfl (bR (c := true) (hso.2.1)) ?_
       refine V (run_ldA (cs := [B _, _]) underlying24 rfl rfl rfl (rangeAt_cells (hH108.blk (i := 6) rfl))) ?_
       refine RL.gT rfl (bR (c := true) (hso.2.1)) ?_
       refine V (run_ldEl underlying34 rfl rfl rfl (hH108.blk (i := 3) rfl)) ?_
       refine RL.gT rfl (bR (c := true) (hso.2.1)) ?_
       refine RL.callP rfl hH108 (c_shape_Fits _ _  _ (hs.mono hH108.kw) (hT.hp hH108)) (run_call2 call18 rfl rfl) ?_
       intro w110 hH111
       refine V (run_pickT (bR (c := true) (hso.2.1)) (v := B _) rfl) ?_
       refine V (mV (B _) rfl) ?_
       refine RL.gT rfl (bR (c := true) (hso.2.2)) ?_
       refine V (run_ldA (cs := fltL _) underlying36 rfl rfl rfl (rangeAt_cells (hH111.blk (i := 1) rfl))) ?_
       refine RL.gT rfl (bR (c := true) (hso.2.2)) ?_
       refine V (run_bld (vs := []) rfl (built_fltL0)) ?_
       refine RL.gT rfl (bR (c := true) (hso.2.2)) ?_
       refine V (run_eqlT (eq_flt _ _) rfl rfl) ?_
       refine V (run_pickT (bR (c := true) (hso.2.2)) (v := B _) rfl) ?_
       refine V (mV (B _) rfl) ?_
       refine RL.gT rfl (bT ((res_back nd58 hso.2.2).1)) ?_
       refine V (run_ldEl underlying34 rfl rfl rfl (hH111.blk (i := 0) rfl)) ?_
       refine RL.gT rfl (bT ((res_back nd58 hso.2.2).1)) ?_
       refine V (run_ldEl underlying34 rfl rfl rfl (hH111.blk (i := 3) rfl)) ?_
       refine RL.gT rfl (bT ((res_back nd58 hso.2.2).1)) ?_
       refine V (run_eqlEl elT_fact rfl rfl) ?_
       refine V (run_pickT (bT ((res_back nd58 hso.2.2).1)) (v := B _) rfl) ?_
       refine V (mV (B _) rfl) ?_
       refine RL.gT rfl (bT ((res_back nd58 hso.2.2).2)) ?_
       refine RL.callP rfl hH111 (c_clearancelaw11_alive   _ (hT.hp hH111)) (run_call0 call8) ?_
       intro w115 hH116
       refine V (run_pickT (bT ((res_back nd58 hso.2.2).2)) (v := B _) rfl) ?_
       refine V (aV (B _) rfl) ?_
       refine RL.nil ?_
       refine CW.ret ?_
       refine outP1 Tryz.results5 (congrArg B ?_) hH116.below
       rfl
     ·refine AO.new rfl gnone rfl hH56 (sP (sP (sP (sP (sP (List.nil_sublist _)))))) (f := fun b => .pointer (some ⟨b, 0, none⟩)) (run_alloc zero_el) ?_
      intro b120 w118 hH119
      refine AN.two 4 9 (by kernel_rfl) ?_ ?_
      ·refine AO.callP rfl gnone rfl hH119 (sQ (sP (sP (sP (sP (sP (List.nil_sublist _))))))) (c_spell_Elem s n57 _ (hs.mono hH119.kw) (NodeV.mono (hH119.kz (Le.refl _) (fun x hx => (mT (mT (mT (mT (mT (mT hx)))))))) nv59) (hT.hp hH119)) (run_call2 call9 rfl rfl) ?_
       intro w121 hH122
       refine AT 5 rfl (hH122.sub (sQ (sP (sP (sP (sP (sP (List.nil_sublist _)))))))) (fun w hS => run_move (by conv => lhs; whnf)) ?_
       refine AT 6 rfl (hH122.sub (sQ (sP (sP (sP (sP (sP (List.nil_sublist _)))))))) (fun w hS => run_extract rfl (v := .agg _) rfl) ?_
       refine AT 7 rfl (hH122.sub (sQ (sP (sP (sP (sP (sP (List.nil_sublist _)))))))) (fun w hS => run_extract rfl (v := .agg _) rfl) ?_
       refine A1 9 ?_
       refine AO.new rfl gnone rfl hH122 (sQ (sP (sP (sP (sP (sP (List.nil_sublist _))))))) (f := fun b => .pointer (some ⟨b, 0, none⟩)) (run_alloc zero_flt) ?_
       intro b125 w123 hH124
       refine A1 10 ?_
       refine AO.set rfl gnone hH124 (j := 1) rfl (sQ (sQ (sP (sP (sP (sP (sP (List.nil_sublist _)))))))) (run_stEl rfl rfl rfl (hH124.blk (i := 1) rfl)) ?_
       intro w128 hH129
       simp only [z0, z1] at hH129
       refine A1 11 ?_
       refine AO.set rfl gnone hH129 (j := 0) rfl (sQ (sQ (sP (sP (sP (sP (sP (List.nil_sublist _)))))))) (run_stW (c' := (fltL _).toArray) rfl rfl rfl (by simp [fltL, Value.oneCell']) (hH129.blk (i := 0) rfl) rfl) ?_
       intro w132 hH133
       simp only [z0, z1] at hH133
       refine AD ?_
       refine SR ?_
       refine V (run_ldA (cs := [B _, _]) underlying24 rfl rfl rfl (rangeAt_cells (hH133.blk (i := 6) rfl))) ?_
       refine RL.callP rfl hH133 (c_clearanceref07_Right _  _ (hs.mono hH133.kw)) (run_call1 call16 rfl) ?_
       intro w134 hH135
       refine V (mV (B _) rfl) ?_
       refine RL.gT rfl (bR (c := true) (hso.1)) ?_
       refine V (run_ldA (cs := nodeL _) underlying28 rfl rfl rfl (rangeAt_cells (hH135.blk (i := 5) rfl))) ?_
       refine RL.gT rfl (bR (c := true) (hso.1)) ?_
       refine RL.callP rfl hH135 (c_clearanceref10_IsConst _  _ (hn.mono hH135.kw)) (run_call1 call17 rfl) ?_
       intro w137 hH138
       refine V (run_pickT (bR (c := true) (hso.1)) (v := B _) rfl) ?_
       refine V (mV (B _) rfl) ?_
       refine RL.gT rfl (bR (c := true) (hso.2.1)) ?_
       refine V (run_ldA (cs := [B _, _]) underlying24 rfl rfl rfl (rangeAt_cells (hH138.blk (i := 6) rfl))) ?_
       refine RL.gT rfl (bR (c := true) (hso.2.1)) ?_
       refine V (run_ldEl underlying34 rfl rfl rfl (hH138.blk (i := 3) rfl)) ?_
       refine RL.gT rfl (bR (c := true) (hso.2.1)) ?_
       refine RL.callP rfl hH138 (c_shape_Fits _ _  _ (hs.mono hH138.kw) (hT.hp hH138)) (run_call2 call18 rfl rfl) ?_
       intro w140 hH141
       refine V (run_pickT (bR (c := true) (hso.2.1)) (v := B _) rfl) ?_
       refine V (mV (B _) rfl) ?_
       refine RL.gT rfl (bR (c := true) (hso.2.2)) ?_
       refine V (run_ldA (cs := fltL _) underlying36 rfl rfl rfl (rangeAt_cells (hH141.blk (i := 0) rfl))) ?_
       refine RL.gT rfl (bR (c := true) (hso.2.2)) ?_
       refine V (run_bld (vs := []) rfl (built_fltL0)) ?_
       refine RL.gT rfl (bR (c := true) (hso.2.2)) ?_
       refine V (run_eqlT (eq_flt _ _) rfl rfl) ?_
       refine V (run_pickT (bR (c := true) (hso.2.2)) (v := B _) rfl) ?_
       refine V (mV (B _) rfl) ?_
       refine RL.gT rfl (bT ((res_back nd58 hso.2.2).1)) ?_
       refine V (run_ldEl underlying34 rfl rfl rfl (hH141.blk (i := 1) rfl)) ?_
       refine RL.gT rfl (bT ((res_back nd58 hso.2.2).1)) ?_
       refine V (run_ldEl underlying34 rfl rfl rfl (hH141.blk (i := 3) rfl)) ?_
       refine RL.gT rfl (bT ((res_back nd58 hso.2.2).1)) ?_
       refine V (run_eqlEl elT_fact rfl rfl) ?_
       refine V (run_pickT (bT ((res_back nd58 hso.2.2).1)) (v := B _) rfl) ?_
       refine V (mV (B _) rfl) ?_
       refine RL.gT rfl (bT ((res_back nd58 hso.2.2).2)) ?_
       refine RL.callP rfl hH141 (c_clearancelaw11_alive   _ (hT.hp hH141)) (run_call0 call8) ?_
       intro w145 hH146
       refine V (run_pickT (bT ((res_back nd58 hso.2.2).2)) (v := B _) rfl) ?_
       refine V (aV (B _) rfl) ?_
       refine RL.nil ?_
       refine CW.ret ?_
       refine outP1 Tryz.results5 (congrArg B ?_) hH146.below
       rfl
      ·refine AO.new rfl gnone rfl hH119 (sQ (sP (sP (sP (sP (sP (List.nil_sublist _))))))) (f := fun b => .pointer (some ⟨b, 0, none⟩)) (run_alloc zero_flt) ?_
       intro b150 w148 hH149
       refine A1 4 ?_
       refine AO.callP rfl gnone rfl hH149 (sQ (sQ (sP (sP (sP (sP (sP (List.nil_sublist _)))))))) (c_spell_Elem s n57 _ (hs.mono hH149.kw) (NodeV.mono (hH149.kz (Le.refl _) (fun x hx => (mT (mT (mT (mT (mT (mT (mT hx))))))))) nv59) (hT.hp hH149)) (run_call2 call9 rfl rfl) ?_
       intro w151 hH152
       refine AT 5 rfl (hH152.sub (sQ (sQ (sP (sP (sP (sP (sP (List.nil_sublist _))))))))) (fun w hS => run_move (by conv => lhs; whnf)) ?_
       refine AT 6 rfl (hH152.sub (sQ (sQ (sP (sP (sP (sP (sP (List.nil_sublist _))))))))) (fun w hS => run_extract rfl (v := .agg _) rfl) ?_
       refine AT 7 rfl (hH152.sub (sQ (sQ (sP (sP (sP (sP (sP (List.nil_sublist _))))))))) (fun w hS => run_extract rfl (v := .agg _) rfl) ?_
       refine A1 10 ?_
       refine AO.set rfl gnone hH152 (j := 1) rfl (sQ (sQ (sP (sP (sP (sP (sP (List.nil_sublist _)))))))) (run_stEl rfl rfl rfl (hH152.blk (i := 1) rfl)) ?_
       intro w155 hH156
       simp only [z0, z1] at hH156
       refine A1 11 ?_
       refine AO.set rfl gnone hH156 (j := 0) rfl (sQ (sQ (sP (sP (sP (sP (sP (List.nil_sublist _)))))))) (run_stW (c' := (fltL _).toArray) rfl rfl rfl (by simp [fltL, Value.oneCell']) (hH156.blk (i := 0) rfl) rfl) ?_
       intro w159 hH160
       simp only [z0, z1] at hH160
       refine AD ?_
       refine SR ?_
       refine V (run_ldA (cs := [B _, _]) underlying24 rfl rfl rfl (rangeAt_cells (hH160.blk (i := 6) rfl))) ?_
       refine RL.callP rfl hH160 (c_clearanceref07_Right _  _ (hs.mono hH160.kw)) (run_call1 call16 rfl) ?_
       intro w161 hH162
       refine V (mV (B _) rfl) ?_
       refine RL.gT rfl (bR (c := true) (hso.1)) ?_
       refine V (run_ldA (cs := nodeL _) underlying28 rfl rfl rfl (rangeAt_cells (hH162.blk (i := 5) rfl))) ?_
       refine RL.gT rfl (bR (c := true) (hso.1)) ?_
       refine RL.callP rfl hH162 (c_clearanceref10_IsConst _  _ (hn.mono hH162.kw)) (run_call1 call17 rfl) ?_
       intro w164 hH165
       refine V (run_pickT (bR (c := true) (hso.1)) (v := B _) rfl) ?_
       refine V (mV (B _) rfl) ?_
       refine RL.gT rfl (bR (c := true) (hso.2.1)) ?_
       refine V (run_ldA (cs := [B _, _]) underlying24 rfl rfl rfl (rangeAt_cells (hH165.blk (i := 6) rfl))) ?_
       refine RL.gT rfl (bR (c := true) (hso.2.1)) ?_
       refine V (run_ldEl underlying34 rfl rfl rfl (hH165.blk (i := 3) rfl)) ?_
       refine RL.gT rfl (bR (c := true) (hso.2.1)) ?_
       refine RL.callP rfl hH165 (c_shape_Fits _ _  _ (hs.mono hH165.kw) (hT.hp hH165)) (run_call2 call18 rfl rfl) ?_
       intro w167 hH168
       refine V (run_pickT (bR (c := true) (hso.2.1)) (v := B _) rfl) ?_
       refine V (mV (B _) rfl) ?_
       refine RL.gT rfl (bR (c := true) (hso.2.2)) ?_
       refine V (run_ldA (cs := fltL _) underlying36 rfl rfl rfl (rangeAt_cells (hH168.blk (i := 0) rfl))) ?_
       refine RL.gT rfl (bR (c := true) (hso.2.2)) ?_
       refine V (run_bld (vs := []) rfl (built_fltL0)) ?_
       refine RL.gT rfl (bR (c := true) (hso.2.2)) ?_
       refine V (run_eqlT (eq_flt _ _) rfl rfl) ?_
       refine V (run_pickT (bR (c := true) (hso.2.2)) (v := B _) rfl) ?_
       refine V (mV (B _) rfl) ?_
       refine RL.gT rfl (bT ((res_back nd58 hso.2.2).1)) ?_
       refine V (run_ldEl underlying34 rfl rfl rfl (hH168.blk (i := 1) rfl)) ?_
       refine RL.gT rfl (bT ((res_back nd58 hso.2.2).1)) ?_
       refine V (run_ldEl underlying34 rfl rfl rfl (hH168.blk (i := 3) rfl)) ?_
       refine RL.gT rfl (bT ((res_back nd58 hso.2.2).1)) ?_
       refine V (run_eqlEl elT_fact rfl rfl) ?_
       refine V (run_pickT (bT ((res_back nd58 hso.2.2).1)) (v := B _) rfl) ?_
       refine V (mV (B _) rfl) ?_
       refine RL.gT rfl (bT ((res_back nd58 hso.2.2).2)) ?_
       refine RL.callP rfl hH168 (c_clearancelaw11_alive   _ (hT.hp hH168)) (run_call0 call8) ?_
       intro w172 hH173
       refine V (run_pickT (bT ((res_back nd58 hso.2.2).2)) (v := B _) rfl) ?_
       refine V (aV (B _) rfl) ?_
       refine RL.nil ?_
       refine CW.ret ?_
       refine outP1 Tryz.results5 (congrArg B ?_) hH173.below
       rfl
     ·refine AO.new rfl gnone rfl hH56 (sP (sP (sP (sP (sP (List.nil_sublist _)))))) (f := fun b => .pointer (some ⟨b, 0, none⟩)) (run_alloc zero_flt) ?_
      intro b177 w175 hH176
      refine AN.two 4 8 (by kernel_rfl) ?_ ?_
      ·refine AO.callP rfl gnone rfl hH176 (sQ (sP (sP (sP (sP (sP (List.nil_sublist _))))))) (c_spell_Elem s n57 _ (hs.mono hH176.kw) (NodeV.mono (hH176.kz (Le.refl _) (fun x hx => (mT (mT (mT (mT (mT (mT hx)))))))) nv59) (hT.hp hH176)) (run_call2 call9 rfl rfl) ?_
       intro w178 hH179
       refine AT 5 rfl (hH179.sub (sQ (sP (sP (sP (sP (sP (List.nil_sublist _)))))))) (fun w hS => run_move (by conv => lhs; whnf)) ?_
       refine AT 6 rfl (hH179.sub (sQ (sP (sP (sP (sP (sP (List.nil_sublist _)))))))) (fun w hS => run_extract rfl (v := .agg _) rfl) ?_
       refine AT 7 rfl (hH179.sub (sQ (sP (sP (sP (sP (sP (List.nil_sublist _)))))))) (fun w hS => run_extract rfl (v := .agg _) rfl) ?_
       refine A1 8 ?_
       refine AO.new rfl gnone rfl hH179 (sQ (sP (sP (sP (sP (sP (List.nil_sublist _))))))) (f := fun b => .pointer (some ⟨b, 0, none⟩)) (run_alloc zero_el) ?_
       intro b182 w180 hH181
       refine A1 10 ?_
       refine AO.set rfl gnone hH181 (j := 0) rfl (sQ (sQ (sP (sP (sP (sP (sP (List.nil_sublist _)))))))) (run_stEl rfl rfl rfl (hH181.blk (i := 0) rfl)) ?_
       intro w185 hH186
       simp only [z0, z1] at hH186
       refine A1 11 ?_
       refine AO.set rfl gnone hH186 (j := 1) rfl (sQ (sQ (sP (sP (sP (sP (sP (List.nil_sublist _)))))))) (run_stW (c' := (fltL _).toArray) rfl rfl rfl (by simp [fltL, Value.oneCell']) (hH186.blk (i := 1) rfl) rfl) ?_
       intro w189 hH190
       simp only [z0, z1] at hH190
       refine AD ?_
       refine SR ?_
       refine V (run_ldA (cs := [B _, _]) underlying24 rfl rfl rfl (rangeAt_cells (hH190.blk (i := 6) rfl))) ?_
       refine RL.callP rfl hH190 (c_clearanceref07_Right _  _ (hs.mono hH190.kw)) (run_call1 call16 rfl) ?_
       intro w191 hH192
       refine V (mV (B _) rfl) ?_
       refine RL.gT rfl (bR (c := true) (hso.1)) ?_
       refine V (run_ldA (cs := nodeL _) underlying28 rfl rfl rfl (rangeAt_cells (hH192.blk (i := 5) rfl))) ?_
       refine RL.gT rfl (bR (c := true) (hso.1)) ?_
       refine RL.callP rfl hH192 (c_clearanceref10_IsConst _  _ (hn.mono hH192.kw)) (run_call1 call17 rfl) ?_
       intro w194 hH195
       refine V (run_pickT (bR (c := true) (hso.1)) (v := B _) rfl) ?_
       refine V (mV (B _) rfl) ?_
       refine RL.gT rfl (bR (c := true) (hso.2.1)) ?_
       refine V (run_ldA (cs := [B _, _]) underlying24 rfl rfl rfl (rangeAt_cells (hH195.blk (i := 6) rfl))) ?_
       refine RL.gT rfl (bR (c := true) (hso.2.1)) ?_
       refine V (run_ldEl underlying34 rfl rfl rfl (hH195.blk (i := 3) rfl)) ?_
       refine RL.gT rfl (bR (c := true) (hso.2.1)) ?_
       refine RL.callP rfl hH195 (c_shape_Fits _ _  _ (hs.mono hH195.kw) (hT.hp hH195)) (run_call2 call18 rfl rfl) ?_
       intro w197 hH198
       refine V (run_pickT (bR (c := true) (hso.2.1)) (v := B _) rfl) ?_
       refine V (mV (B _) rfl) ?_
       refine RL.gT rfl (bR (c := true) (hso.2.2)) ?_
       refine V (run_ldA (cs := fltL _) underlying36 rfl rfl rfl (rangeAt_cells (hH198.blk (i := 1) rfl))) ?_
       refine RL.gT rfl (bR (c := true) (hso.2.2)) ?_
       refine V (run_bld (vs := []) rfl (built_fltL0)) ?_
       refine RL.gT rfl (bR (c := true) (hso.2.2)) ?_
       refine V (run_eqlT (eq_flt _ _) rfl rfl) ?_
       refine V (run_pickT (bR (c := true) (hso.2.2)) (v := B _) rfl) ?_
       refine V (mV (B _) rfl) ?_
       refine RL.gT rfl (bT ((res_back nd58 hso.2.2).1)) ?_
       refine V (run_ldEl underlying34 rfl rfl rfl (hH198.blk (i := 0) rfl)) ?_
       refine RL.gT rfl (bT ((res_back nd58 hso.2.2).1)) ?_
       refine V (run_ldEl underlying34 rfl rfl rfl (hH198.blk (i := 3) rfl)) ?_
       refine RL.gT rfl (bT ((res_back nd58 hso.2.2).1)) ?_
       refine V (run_eqlEl elT_fact rfl rfl) ?_
       refine V (run_pickT (bT ((res_back nd58 hso.2.2).1)) (v := B _) rfl) ?_
       refine V (mV (B _) rfl) ?_
       refine RL.gT rfl (bT ((res_back nd58 hso.2.2).2)) ?_
       refine RL.callP rfl hH198 (c_clearancelaw11_alive   _ (hT.hp hH198)) (run_call0 call8) ?_
       intro w202 hH203
       refine V (run_pickT (bT ((res_back nd58 hso.2.2).2)) (v := B _) rfl) ?_
       refine V (aV (B _) rfl) ?_
       refine RL.nil ?_
       refine CW.ret ?_
       refine outP1 Tryz.results5 (congrArg B ?_) hH203.below
       rfl
      ·refine AO.new rfl gnone rfl hH176 (sQ (sP (sP (sP (sP (sP (List.nil_sublist _))))))) (f := fun b => .pointer (some ⟨b, 0, none⟩)) (run_alloc zero_el) ?_
       intro b207 w205 hH206
       refine A1 4 ?_
       refine AO.callP rfl gnone rfl hH206 (sQ (sQ (sP (sP (sP (sP (sP (List.nil_sublist _)))))))) (c_spell_Elem s n57 _ (hs.mono hH206.kw) (NodeV.mono (hH206.kz (Le.refl _) (fun x hx => (mT (mT (mT (mT (mT (mT (mT hx))))))))) nv59) (hT.hp hH206)) (run_call2 call9 rfl rfl) ?_
       intro w208 hH209
       refine AT 5 rfl (hH209.sub (sQ (sQ (sP (sP (sP (sP (sP (List.nil_sublist _))))))))) (fun w hS => run_move (by conv => lhs; whnf)) ?_
       refine AT 6 rfl (hH209.sub (sQ (sQ (sP (sP (sP (sP (sP (List.nil_sublist _))))))))) (fun w hS => run_extract rfl (v := .agg _) rfl) ?_
       refine AT 7 rfl (hH209.sub (sQ (sQ (sP (sP (sP (sP (sP (List.nil_sublist _))))))))) (fun w hS => run_extract rfl (v := .agg _) rfl) ?_
       refine A1 10 ?_
       refine AO.set rfl gnone hH209 (j := 0) rfl (sQ (sQ (sP (sP (sP (sP (sP (List.nil_sublist _)))))))) (run_stEl rfl rfl rfl (hH209.blk (i := 0) rfl)) ?_
       intro w212 hH213
       simp only [z0, z1] at hH213
       refine A1 11 ?_
       refine AO.set rfl gnone hH213 (j := 1) rfl (sQ (sQ (sP (sP (sP (sP (sP (List.nil_sublist _)))))))) (run_stW (c' := (fltL _).toArray) rfl rfl rfl (by simp [fltL, Value.oneCell']) (hH213.blk (i := 1) rfl) rfl) ?_
       intro w216 hH217
       simp only [z0, z1] at hH217
       refine AD ?_
       refine SR ?_
       refine V (run_ldA (cs := [B _, _]) underlying24 rfl rfl rfl (rangeAt_cells (hH217.blk (i := 6) rfl))) ?_
       refine RL.callP rfl hH217 (c_clearanceref07_Right _  _ (hs.mono hH217.kw)) (run_call1 call16 rfl) ?_
       intro w218 hH219
       refine V (mV (B _) rfl) ?_
       refine RL.gT rfl (bR (c := true) (hso.1)) ?_
       refine V (run_ldA (cs := nodeL _) underlying28 rfl rfl rfl (rangeAt_cells (hH219.blk (i := 5) rfl))) ?_
       refine RL.gT rfl (bR (c := true) (hso.1)) ?_
       refine RL.callP rfl hH219 (c_clearanceref10_IsConst _  _ (hn.mono hH219.kw)) (run_call1 call17 rfl) ?_
       intro w221 hH222
       refine V (run_pickT (bR (c := true) (hso.1)) (v := B _) rfl) ?_
       refine V (mV (B _) rfl) ?_
       refine RL.gT rfl (bR (c := true) (hso.2.1)) ?_
       refine V (run_ldA (cs := [B _, _]) underlying24 rfl rfl rfl (rangeAt_cells (hH222.blk (i := 6) rfl))) ?_
       refine RL.gT rfl (bR (c := true) (hso.2.1)) ?_
       refine V (run_ldEl underlying34 rfl rfl rfl (hH222.blk (i := 3) rfl)) ?_
       refine RL.gT rfl (bR (c := true) (hso.2.1)) ?_
       refine RL.callP rfl hH222 (c_shape_Fits _ _  _ (hs.mono hH222.kw) (hT.hp hH222)) (run_call2 call18 rfl rfl) ?_
       intro w224 hH225
       refine V (run_pickT (bR (c := true) (hso.2.1)) (v := B _) rfl) ?_
       refine V (mV (B _) rfl) ?_
       refine RL.gT rfl (bR (c := true) (hso.2.2)) ?_
       refine V (run_ldA (cs := fltL _) underlying36 rfl rfl rfl (rangeAt_cells (hH225.blk (i := 1) rfl))) ?_
       refine RL.gT rfl (bR (c := true) (hso.2.2)) ?_
       refine V (run_bld (vs := []) rfl (built_fltL0)) ?_
       refine RL.gT rfl (bR (c := true) (hso.2.2)) ?_
       refine V (run_eqlT (eq_flt _ _) rfl rfl) ?_
       refine V (run_pickT (bR (c := true) (hso.2.2)) (v := B _) rfl) ?_
       refine V (mV (B _) rfl) ?_
       refine RL.gT rfl (bT ((res_back nd58 hso.2.2).1)) ?_
       refine V (run_ldEl underlying34 rfl rfl rfl (hH225.blk (i := 0) rfl)) ?_
       refine RL.gT rfl (bT ((res_back nd58 hso.2.2).1)) ?_
       refine V (run_ldEl underlying34 rfl rfl rfl (hH225.blk (i := 3) rfl)) ?_
       refine RL.gT rfl (bT ((res_back nd58 hso.2.2).1)) ?_
       refine V (run_eqlEl elT_fact rfl rfl) ?_
       refine V (run_pickT (bT ((res_back nd58 hso.2.2).1)) (v := B _) rfl) ?_
       refine V (mV (B _) rfl) ?_
       refine RL.gT rfl (bT ((res_back nd58 hso.2.2).2)) ?_
       refine RL.callP rfl hH225 (c_clearancelaw11_alive   _ (hT.hp hH225)) (run_call0 call8) ?_
       intro w229 hH230
       refine V (run_pickT (bT ((res_back nd58 hso.2.2).2)) (v := B _) rfl) ?_
       refine V (aV (B _) rfl) ?_
       refine RL.nil ?_
       refine CW.ret ?_
       refine outP1 Tryz.results5 (congrArg B ?_) hH230.below
       rfl
    ·refine AO.new rfl gnone rfl hH48 sR (f := fun b => .pointer (some ⟨b, 0, none⟩)) (run_alloc zero_el) ?_
     intro b234 w232 hH233
     refine AN.two 3 9 (by kernel_rfl) ?_ ?_
     ·refine AO.callF rfl gnone rfl hH233 (sQ sR) (c_spell_Node (Kw w) s (resE (elemG s.sh n.nd)).1 _ hH233.kw hs (hT.hp hH233)) (run_call2 call12 rfl rfl) ?_
      intro v237 w238 Z240 hH239 hp241
      have hH242 : Hp _ w238 (_ :: _ :: _ :: _ :: _ :: _ :: Z240) := hH239.zin0 (L := [_, _, _, _, _, _])
      obtain ⟨n243, rfl, nd244, nv245⟩ := hp241
      refine AN.two 4 9 (by kernel_rfl) ?_ ?_
      ·refine AO.callP rfl gnone rfl hH242 (sQ (sP (sP (sP (sP (sP (List.nil_sublist _))))))) (c_spell_Elem s n243 _ (hs.mono hH242.kw) (NodeV.mono (hH242.kz (Le.refl _) (fun x hx => (mT (mT (mT (mT (mT (mT hx)))))))) nv245) (hT.hp hH242)) (run_call2 call9 rfl rfl) ?_
       intro w246 hH247
       refine AT 5 rfl (hH247.sub (sQ (sP (sP (sP (sP (sP (List.nil_sublist _)))))))) (fun w hS => run_move (by conv => lhs; whnf)) ?_
       refine AT 6 rfl (hH247.sub (sQ (sP (sP (sP (sP (sP (List.nil_sublist _)))))))) (fun w hS => run_extract rfl (v := .agg _) rfl) ?_
       refine AT 7 rfl (hH247.sub (sQ (sP (sP (sP (sP (sP (List.nil_sublist _)))))))) (fun w hS => run_extract rfl (v := .agg _) rfl) ?_
       refine A1 9 ?_
       refine AO.new rfl gnone rfl hH247 (sQ (sP (sP (sP (sP (sP (List.nil_sublist _))))))) (f := fun b => .pointer (some ⟨b, 0, none⟩)) (run_alloc zero_flt) ?_
       intro b250 w248 hH249
       refine A1 10 ?_
       refine AO.set rfl gnone hH249 (j := 1) rfl (sQ (sQ (sP (sP (sP (sP (sP (List.nil_sublist _)))))))) (run_stEl rfl rfl rfl (hH249.blk (i := 1) rfl)) ?_
       intro w253 hH254
       simp only [z0, z1] at hH254
       refine A1 11 ?_
       refine AO.set rfl gnone hH254 (j := 0) rfl (sQ (sQ (sP (sP (sP (sP (sP (List.nil_sublist _)))))))) (run_stW (c' := (fltL _).toArray) rfl rfl rfl (by simp [fltL, Value.oneCell']) (hH254.blk (i := 0) rfl) rfl) ?_
       intro w257 hH258
       simp only [z0, z1] at hH258
       refine AD ?_
       refine SR ?_
       refine V (run_ldA (cs := [B _, _]) underlying24 rfl rfl rfl (rangeAt_cells (hH258.blk (i := 6) rfl))) ?_
       refine RL.callP rfl hH258 (c_clearanceref07_Right _  _ (hs.mono hH258.kw)) (run_call1 call16 rfl) ?_
       intro w259 hH260
       refine V (mV (B _) rfl) ?_
       refine RL.gT rfl (bR (c := true) (hso.1)) ?_
       refine V (run_ldA (cs := nodeL _) underlying28 rfl rfl rfl (rangeAt_cells (hH260.blk (i := 5) rfl))) ?_
       refine RL.gT rfl (bR (c := true) (hso.1)) ?_
       refine RL.callP rfl hH260 (c_clearanceref10_IsConst _  _ (hn.mono hH260.kw)) (run_call1 call17 rfl) ?_
       intro w262 hH263
       refine V (run_pickT (bR (c := true) (hso.1)) (v := B _) rfl) ?_
       refine V (mV (B _) rfl) ?_
       refine RL.gT rfl (bR (c := true) (hso.2.1)) ?_
       refine V (run_ldA (cs := [B _, _]) underlying24 rfl rfl rfl (rangeAt_cells (hH263.blk (i := 6) rfl))) ?_
       refine RL.gT rfl (bR (c := true) (hso.2.1)) ?_
       refine V (run_ldEl underlying34 rfl rfl rfl (hH263.blk (i := 3) rfl)) ?_
       refine RL.gT rfl (bR (c := true) (hso.2.1)) ?_
       refine RL.callP rfl hH263 (c_shape_Fits _ _  _ (hs.mono hH263.kw) (hT.hp hH263)) (run_call2 call18 rfl rfl) ?_
       intro w265 hH266
       refine V (run_pickT (bR (c := true) (hso.2.1)) (v := B _) rfl) ?_
       refine V (mV (B _) rfl) ?_
       refine RL.gT rfl (bR (c := true) (hso.2.2)) ?_
       refine V (run_ldA (cs := fltL _) underlying36 rfl rfl rfl (rangeAt_cells (hH266.blk (i := 0) rfl))) ?_
       refine RL.gT rfl (bR (c := true) (hso.2.2)) ?_
       refine V (run_bld (vs := []) rfl (built_fltL0)) ?_
       refine RL.gT rfl (bR (c := true) (hso.2.2)) ?_
       refine V (run_eqlT (eq_flt _ _) rfl rfl) ?_
       refine V (run_pickT (bR (c := true) (hso.2.2)) (v := B _) rfl) ?_
       refine V (mV (B _) rfl) ?_
       refine RL.gT rfl (bT ((res_back nd244 hso.2.2).1)) ?_
       refine V (run_ldEl underlying34 rfl rfl rfl (hH266.blk (i := 1) rfl)) ?_
       refine RL.gT rfl (bT ((res_back nd244 hso.2.2).1)) ?_
       refine V (run_ldEl underlying34 rfl rfl rfl (hH266.blk (i := 3) rfl)) ?_
       refine RL.gT rfl (bT ((res_back nd244 hso.2.2).1)) ?_
       refine V (run_eqlEl elT_fact rfl rfl) ?_
       refine V (run_pickT (bT ((res_back nd244 hso.2.2).1)) (v := B _) rfl) ?_
       refine V (mV (B _) rfl) ?_
       refine RL.gT rfl (bT ((res_back nd244 hso.2.2).2)) ?_
       refine RL.callP rfl hH266 (c_clearancelaw11_alive   _ (hT.hp hH266)) (run_call0 call8) ?_
       intro w270 hH271
       refine V (run_pickT (bT ((res_back nd244 hso.2.2).2)) (v := B _) rfl) ?_
       refine V (aV (B _) rfl) ?_
       refine RL.nil ?_
       refine CW.ret ?_
       refine outP1 Tryz.results5 (congrArg B ?_) hH271.below
       rfl
      ·refine AO.new rfl gnone rfl hH242 (sQ (sP (sP (sP (sP (sP (List.nil_sublist _))))))) (f := fun b => .pointer (some ⟨b, 0, none⟩)) (run_alloc zero_flt) ?_
       intro b275 w273 hH274
       refine A1 4 ?_
       refine AO.callP rfl gnone rfl hH274 (sQ (sQ (sP (sP (sP (sP (sP (List.nil_sublist _)))))))) (c_spell_Elem s n243 _ (hs.mono hH274.kw) (NodeV.mono (hH274.kz (Le.refl _) (fun x hx => (mT (mT (mT (mT (mT (mT (mT hx))))))))) nv245) (hT.hp hH274)) (run_call2 call9 rfl rfl) ?_
       intro w276 hH277
       refine AT 5 rfl (hH277.sub (sQ (sQ (sP (sP (sP (sP (sP (List.nil_sublist _))))))))) (fun w hS => run_move (by conv => lhs; whnf)) ?_
       refine AT 6 rfl (hH277.sub (sQ (sQ (sP (sP (sP (sP (sP (List.nil_sublist _))))))))) (fun w hS => run_extract rfl (v := .agg _) rfl) ?_
       refine AT 7 rfl (hH277.sub (sQ (sQ (sP (sP (sP (sP (sP (List.nil_sublist _))))))))) (fun w hS => run_extract rfl (v := .agg _) rfl) ?_
       refine A1 10 ?_
       refine AO.set rfl gnone hH277 (j := 1) rfl (sQ (sQ (sP (sP (sP (sP (sP (List.nil_sublist _)))))))) (run_stEl rfl rfl rfl (hH277.blk (i := 1) rfl)) ?_
       intro w280 hH281
       simp only [z0, z1] at hH281
       refine A1 11 ?_
       refine AO.set rfl gnone hH281 (j := 0) rfl (sQ (sQ (sP (sP (sP (sP (sP (List.nil_sublist _)))))))) (run_stW (c' := (fltL _).toArray) rfl rfl rfl (by simp [fltL, Value.oneCell']) (hH281.blk (i := 0) rfl) rfl) ?_
       intro w284 hH285
       simp only [z0, z1] at hH285
       refine AD ?_
       refine SR ?_
       refine V (run_ldA (cs := [B _, _]) underlying24 rfl rfl rfl (rangeAt_cells (hH285.blk (i := 6) rfl))) ?_
       refine RL.callP rfl hH285 (c_clearanceref07_Right _  _ (hs.mono hH285.kw)) (run_call1 call16 rfl) ?_
       intro w286 hH287
       refine V (mV (B _) rfl) ?_
       refine RL.gT rfl (bR (c := true) (hso.1)) ?_
       refine V (run_ldA (cs := nodeL _) underlying28 rfl rfl rfl (rangeAt_cells (hH287.blk (i := 5) rfl))) ?_
       refine RL.gT rfl (bR (c := true) (hso.1)) ?_
       refine RL.callP rfl hH287 (c_clearanceref10_IsConst _  _ (hn.mono hH287.kw)) (run_call1 call17 rfl) ?_
       intro w289 hH290
       refine V (run_pickT (bR (c := true) (hso.1)) (v := B _) rfl) ?_
       refine V (mV (B _) rfl) ?_
       refine RL.gT rfl (bR (c := true) (hso.2.1)) ?_
       refine V (run_ldA (cs := [B _, _]) underlying24 rfl rfl rfl (rangeAt_cells (hH290.blk (i := 6) rfl))) ?_
       refine RL.gT rfl (bR (c := true) (hso.2.1)) ?_
       refine V (run_ldEl underlying34 rfl rfl rfl (hH290.blk (i := 3) rfl)) ?_
       refine RL.gT rfl (bR (c := true) (hso.2.1)) ?_
       refine RL.callP rfl hH290 (c_shape_Fits _ _  _ (hs.mono hH290.kw) (hT.hp hH290)) (run_call2 call18 rfl rfl) ?_
       intro w292 hH293
       refine V (run_pickT (bR (c := true) (hso.2.1)) (v := B _) rfl) ?_
       refine V (mV (B _) rfl) ?_
       refine RL.gT rfl (bR (c := true) (hso.2.2)) ?_
       refine V (run_ldA (cs := fltL _) underlying36 rfl rfl rfl (rangeAt_cells (hH293.blk (i := 0) rfl))) ?_
       refine RL.gT rfl (bR (c := true) (hso.2.2)) ?_
       refine V (run_bld (vs := []) rfl (built_fltL0)) ?_
       refine RL.gT rfl (bR (c := true) (hso.2.2)) ?_
       refine V (run_eqlT (eq_flt _ _) rfl rfl) ?_
       refine V (run_pickT (bR (c := true) (hso.2.2)) (v := B _) rfl) ?_
       refine V (mV (B _) rfl) ?_
       refine RL.gT rfl (bT ((res_back nd244 hso.2.2).1)) ?_
       refine V (run_ldEl underlying34 rfl rfl rfl (hH293.blk (i := 1) rfl)) ?_
       refine RL.gT rfl (bT ((res_back nd244 hso.2.2).1)) ?_
       refine V (run_ldEl underlying34 rfl rfl rfl (hH293.blk (i := 3) rfl)) ?_
       refine RL.gT rfl (bT ((res_back nd244 hso.2.2).1)) ?_
       refine V (run_eqlEl elT_fact rfl rfl) ?_
       refine V (run_pickT (bT ((res_back nd244 hso.2.2).1)) (v := B _) rfl) ?_
       refine V (mV (B _) rfl) ?_
       refine RL.gT rfl (bT ((res_back nd244 hso.2.2).2)) ?_
       refine RL.callP rfl hH293 (c_clearancelaw11_alive   _ (hT.hp hH293)) (run_call0 call8) ?_
       intro w297 hH298
       refine V (run_pickT (bT ((res_back nd244 hso.2.2).2)) (v := B _) rfl) ?_
       refine V (aV (B _) rfl) ?_
       refine RL.nil ?_
       refine CW.ret ?_
       refine outP1 Tryz.results5 (congrArg B ?_) hH298.below
       rfl
     ·refine AO.new rfl gnone rfl hH233 (sQ sR) (f := fun b => .pointer (some ⟨b, 0, none⟩)) (run_alloc zero_flt) ?_
      intro b302 w300 hH301
      refine A1 3 ?_
      refine AO.callF rfl gnone rfl hH301 (sQ (sQ sR)) (c_spell_Node (Kw w) s (resE (elemG s.sh n.nd)).1 _ hH301.kw hs (hT.hp hH301)) (run_call2 call12 rfl rfl) ?_
      intro v305 w306 Z308 hH307 hp309
      have hH310 : Hp _ w306 (_ :: _ :: _ :: _ :: _ :: _ :: _ :: Z308) := hH307.zin0 (L := [_, _, _, _, _, _, _])
      obtain ⟨n311, rfl, nd312, nv313⟩ := hp309
      refine A1 4 ?_
      refine AO.callP rfl gnone rfl hH310 (sQ (sQ (sP (sP (sP (sP (sP (List.nil_sublist _)))))))) (c_spell_Elem s n311 _ (hs.mono hH310.kw) (NodeV.mono (hH310.kz (Le.refl _) (fun x hx => (mT (mT (mT (mT (mT (mT (mT hx))))))))) nv313) (hT.hp hH310)) (run_call2 call9 rfl rfl) ?_
      intro w314 hH315
      refine AT 5 rfl (hH315.sub (sQ (sQ (sP (sP (sP (sP (sP (List.nil_sublist _))))))))) (fun w hS => run_move (by conv => lhs; whnf)) ?_
      refine AT 6 rfl (hH315.sub (sQ (sQ (sP (sP (sP (sP (sP (List.nil_sublist _))))))))) (fun w hS => run_extract rfl (v := .agg _) rfl) ?_
      refine AT 7 rfl (hH315.sub (sQ (sQ (sP (sP (sP (sP (sP (List.nil_sublist _))))))))) (fun w hS => run_extract rfl (v := .agg _) rfl) ?_
      refine A1 10 ?_
      refine AO.set rfl gnone hH315 (j := 1) rfl (sQ (sQ (sP (sP (sP (sP (sP (List.nil_sublist _)))))))) (run_stEl rfl rfl rfl (hH315.blk (i := 1) rfl)) ?_
      intro w318 hH319
      simp only [z0, z1] at hH319
      refine A1 11 ?_
      refine AO.set rfl gnone hH319 (j := 0) rfl (sQ (sQ (sP (sP (sP (sP (sP (List.nil_sublist _)))))))) (run_stW (c' := (fltL _).toArray) rfl rfl rfl (by simp [fltL, Value.oneCell']) (hH319.blk (i := 0) rfl) rfl) ?_
      intro w322 hH323
      simp only [z0, z1] at hH323
      refine AD ?_
      refine SR ?_
      refine V (run_ldA (cs := [B _, _]) underlying24 rfl rfl rfl (rangeAt_cells (hH323.blk (i := 6) rfl))) ?_
      refine RL.callP rfl hH323 (c_clearanceref07_Right _  _ (hs.mono hH323.kw)) (run_call1 call16 rfl) ?_
      intro w324 hH325
      refine V (mV (B _) rfl) ?_
      refine RL.gT rfl (bR (c := true) (hso.1)) ?_
      refine V (run_ldA (cs := nodeL _) underlying28 rfl rfl rfl (rangeAt_cells (hH325.blk (i := 5) rfl))) ?_
      refine RL.gT rfl (bR (c := true) (hso.1)) ?_
      refine RL.callP rfl hH325 (c_clearanceref10_IsConst _  _ (hn.mono hH325.kw)) (run_call1 call17 rfl) ?_
      intro w327 hH328
      refine V (run_pickT (bR (c := true) (hso.1)) (v := B _) rfl) ?_
      refine V (mV (B _) rfl) ?_
      refine RL.gT rfl (bR (c := true) (hso.2.1)) ?_
      refine V (run_ldA (cs := [B _, _]) underlying24 rfl rfl rfl (rangeAt_cells (hH328.blk (i := 6) rfl))) ?_
      refine RL.gT rfl (bR (c := true) (hso.2.1)) ?_
      refine V (run_ldEl underlying34 rfl rfl rfl (hH328.blk (i := 3) rfl)) ?_
      refine RL.gT rfl (bR (c := true) (hso.2.1)) ?_
      refine RL.callP rfl hH328 (c_shape_Fits _ _  _ (hs.mono hH328.kw) (hT.hp hH328)) (run_call2 call18 rfl rfl) ?_
      intro w330 hH331
      refine V (run_pickT (bR (c := true) (hso.2.1)) (v := B _) rfl) ?_
      refine V (mV (B _) rfl) ?_
      refine RL.gT rfl (bR (c := true) (hso.2.2)) ?_
      refine V (run_ldA (cs := fltL _) underlying36 rfl rfl rfl (rangeAt_cells (hH331.blk (i := 0) rfl))) ?_
      refine RL.gT rfl (bR (c := true) (hso.2.2)) ?_
      refine V (run_bld (vs := []) rfl (built_fltL0)) ?_
      refine RL.gT rfl (bR (c := true) (hso.2.2)) ?_
      refine V (run_eqlT (eq_flt _ _) rfl rfl) ?_
      refine V (run_pickT (bR (c := true) (hso.2.2)) (v := B _) rfl) ?_
      refine V (mV (B _) rfl) ?_
      refine RL.gT rfl (bT ((res_back nd312 hso.2.2).1)) ?_
      refine V (run_ldEl underlying34 rfl rfl rfl (hH331.blk (i := 1) rfl)) ?_
      refine RL.gT rfl (bT ((res_back nd312 hso.2.2).1)) ?_
      refine V (run_ldEl underlying34 rfl rfl rfl (hH331.blk (i := 3) rfl)) ?_
      refine RL.gT rfl (bT ((res_back nd312 hso.2.2).1)) ?_
      refine V (run_eqlEl elT_fact rfl rfl) ?_
      refine V (run_pickT (bT ((res_back nd312 hso.2.2).1)) (v := B _) rfl) ?_
      refine V (mV (B _) rfl) ?_
      refine RL.gT rfl (bT ((res_back nd312 hso.2.2).2)) ?_
      refine RL.callP rfl hH331 (c_clearancelaw11_alive   _ (hT.hp hH331)) (run_call0 call8) ?_
      intro w335 hH336
      refine V (run_pickT (bT ((res_back nd312 hso.2.2).2)) (v := B _) rfl) ?_
      refine V (aV (B _) rfl) ?_
      refine RL.nil ?_
      refine CW.ret ?_
      refine outP1 Tryz.results5 (congrArg B ?_) hH336.below
      rfl
    ·refine AO.new rfl gnone rfl hH48 sR (f := fun b => .pointer (some ⟨b, 0, none⟩)) (run_alloc zero_flt) ?_
     intro b340 w338 hH339
     refine AN.two 3 8 (by kernel_rfl) ?_ ?_
     ·refine AO.callF rfl gnone rfl hH339 (sQ sR) (c_spell_Node (Kw w) s (resE (elemG s.sh n.nd)).1 _ hH339.kw hs (hT.hp hH339)) (run_call2 call12 rfl rfl) ?_
      intro v343 w344 Z346 hH345 hp347
      have hH348 : Hp _ w344 (_ :: _ :: _ :: _ :: _ :: _ :: Z346) := hH345.zin0 (L := [_, _, _, _, _, _])
      obtain ⟨n349, rfl, nd350, nv351⟩ := hp347
      refine AN.two 4 8 (by kernel_rfl) ?_ ?_
      ·refine AO.callP rfl gnone rfl hH348 (sQ (sP (sP (sP (sP (sP (List.nil_sublist _))))))) (c_spell_Elem s n349 _ (hs.mono hH348.kw) (NodeV.mono (hH348.kz (Le.refl _) (fun x hx => (mT (mT (mT (mT (mT (mT hx)))))))) nv351) (hT.hp hH348)) (run_call2 call9 rfl rfl) ?_
       intro w352 hH353
       refine AT 5 rfl (hH353.sub (sQ (sP (sP (sP (sP (sP (List.nil_sublist _)))))))) (fun w hS => run_move (by conv => lhs; whnf)) ?_
       refine AT 6 rfl (hH353.sub (sQ (sP (sP (sP (sP (sP (List.nil_sublist _)))))))) (fun w hS => run_extract rfl (v := .agg _) rfl) ?_
       refine AT 7 rfl (hH353.sub (sQ (sP (sP (sP (sP (sP (List.nil_sublist _)))))))) (fun w hS => run_extract rfl (v := .agg _) rfl) ?_
       refine A1 8 ?_
       refine AO.new rfl gnone rfl hH353 (sQ (sP (sP (sP (sP (sP (List.nil_sublist _))))))) (f := fun b => .pointer (some ⟨b, 0, none⟩)) (run_alloc zero_el) ?_
       intro b356 w354 hH355
       refine A1 10 ?_
       refine AO.set rfl gnone hH355 (j := 0) rfl (sQ (sQ (sP (sP (sP (sP (sP (List.nil_sublist _)))))))) (run_stEl rfl rfl rfl (hH355.blk (i := 0) rfl)) ?_
       intro w359 hH360
       simp only [z0, z1] at hH360
       refine A1 11 ?_
       refine AO.set rfl gnone hH360 (j := 1) rfl (sQ (sQ (sP (sP (sP (sP (sP (List.nil_sublist _)))))))) (run_stW (c' := (fltL _).toArray) rfl rfl rfl (by simp [fltL, Value.oneCell']) (hH360.blk (i := 1) rfl) rfl) ?_
       intro w363 hH364
       simp only [z0, z1] at hH364
       refine AD ?_
       refine SR ?_
       refine V (run_ldA (cs := [B _, _]) underlying24 rfl rfl rfl (rangeAt_cells (hH364.blk (i := 6) rfl))) ?_
       refine RL.callP rfl hH364 (c_clearanceref07_Right _  _ (hs.mono hH364.kw)) (run_call1 call16 rfl) ?_
       intro w365 hH366
       refine V (mV (B _) rfl) ?_
       refine RL.gT rfl (bR (c := true) (hso.1)) ?_
       refine V (run_ldA (cs := nodeL _) underlying28 rfl rfl rfl (rangeAt_cells (hH366.blk (i := 5) rfl))) ?_
       refine RL.gT rfl (bR (c := true) (hso.1)) ?_
       refine RL.callP rfl hH366 (c_clearanceref10_IsConst _  _ (hn.mono hH366.kw)) (run_call1 call17 rfl) ?_
       intro w368 hH369
       refine V (run_pickT (bR (c := true) (hso.1)) (v := B _) rfl) ?_
       refine V (mV (B _) rfl) ?_
       refine RL.gT rfl (bR (c := true) (hso.2.1)) ?_
       refine V (run_ldA (cs := [B _, _]) underlying24 rfl rfl rfl (rangeAt_cells (hH369.blk (i := 6) rfl))) ?_
       refine RL.gT rfl (bR (c := true) (hso.2.1)) ?_
       refine V (run_ldEl underlying34 rfl rfl rfl (hH369.blk (i := 3) rfl)) ?_
       refine RL.gT rfl (bR (c := true) (hso.2.1)) ?_
       refine RL.callP rfl hH369 (c_shape_Fits _ _  _ (hs.mono hH369.kw) (hT.hp hH369)) (run_call2 call18 rfl rfl) ?_
       intro w371 hH372
       refine V (run_pickT (bR (c := true) (hso.2.1)) (v := B _) rfl) ?_
       refine V (mV (B _) rfl) ?_
       refine RL.gT rfl (bR (c := true) (hso.2.2)) ?_
       refine V (run_ldA (cs := fltL _) underlying36 rfl rfl rfl (rangeAt_cells (hH372.blk (i := 1) rfl))) ?_
       refine RL.gT rfl (bR (c := true) (hso.2.2)) ?_
       refine V (run_bld (vs := []) rfl (built_fltL0)) ?_
       refine RL.gT rfl (bR (c := true) (hso.2.2)) ?_
       refine V (run_eqlT (eq_flt _ _) rfl rfl) ?_
       refine V (run_pickT (bR (c := true) (hso.2.2)) (v := B _) rfl) ?_
       refine V (mV (B _) rfl) ?_
       refine RL.gT rfl (bT ((res_back nd350 hso.2.2).1)) ?_
       refine V (run_ldEl underlying34 rfl rfl rfl (hH372.blk (i := 0) rfl)) ?_
       refine RL.gT rfl (bT ((res_back nd350 hso.2.2).1)) ?_
       refine V (run_ldEl underlying34 rfl rfl rfl (hH372.blk (i := 3) rfl)) ?_
       refine RL.gT rfl (bT ((res_back nd350 hso.2.2).1)) ?_
       refine V (run_eqlEl elT_fact rfl rfl) ?_
       refine V (run_pickT (bT ((res_back nd350 hso.2.2).1)) (v := B _) rfl) ?_
       refine V (mV (B _) rfl) ?_
       refine RL.gT rfl (bT ((res_back nd350 hso.2.2).2)) ?_
       refine RL.callP rfl hH372 (c_clearancelaw11_alive   _ (hT.hp hH372)) (run_call0 call8) ?_
       intro w376 hH377
       refine V (run_pickT (bT ((res_back nd350 hso.2.2).2)) (v := B _) rfl) ?_
       refine V (aV (B _) rfl) ?_
       refine RL.nil ?_
       refine CW.ret ?_
       refine outP1 Tryz.results5 (congrArg B ?_) hH377.below
       rfl
      ·refine AO.new rfl gnone rfl hH348 (sQ (sP (sP (sP (sP (sP (List.nil_sublist _))))))) (f := fun b => .pointer (some ⟨b, 0, none⟩)) (run_alloc zero_el) ?_
       intro b381 w379 hH380
       refine A1 4 ?_
       refine AO.callP rfl gnone rfl hH380 (sQ (sQ (sP (sP (sP (sP (sP (List.nil_sublist _)))))))) (c_spell_Elem s n349 _ (hs.mono hH380.kw) (NodeV.mono (hH380.kz (Le.refl _) (fun x hx => (mT (mT (mT (mT (mT (mT (mT hx))))))))) nv351) (hT.hp hH380)) (run_call2 call9 rfl rfl) ?_
       intro w382 hH383
       refine AT 5 rfl (hH383.sub (sQ (sQ (sP (sP (sP (sP (sP (List.nil_sublist _))))))))) (fun w hS => run_move (by conv => lhs; whnf)) ?_
       refine AT 6 rfl (hH383.sub (sQ (sQ (sP (sP (sP (sP (sP (List.nil_sublist _))))))))) (fun w hS => run_extract rfl (v := .agg _) rfl) ?_
       refine AT 7 rfl (hH383.sub (sQ (sQ (sP (sP (sP (sP (sP (List.nil_sublist _))))))))) (fun w hS => run_extract rfl (v := .agg _) rfl) ?_
       refine A1 10 ?_
       refine AO.set rfl gnone hH383 (j := 0) rfl (sQ (sQ (sP (sP (sP (sP (sP (List.nil_sublist _)))))))) (run_stEl rfl rfl rfl (hH383.blk (i := 0) rfl)) ?_
       intro w386 hH387
       simp only [z0, z1] at hH387
       refine A1 11 ?_
       refine AO.set rfl gnone hH387 (j := 1) rfl (sQ (sQ (sP (sP (sP (sP (sP (List.nil_sublist _)))))))) (run_stW (c' := (fltL _).toArray) rfl rfl rfl (by simp [fltL, Value.oneCell']) (hH387.blk (i := 1) rfl) rfl) ?_
       intro w390 hH391
       simp only [z0, z1] at hH391
       refine AD ?_
       refine SR ?_
       refine V (run_ldA (cs := [B _, _]) underlying24 rfl rfl rfl (rangeAt_cells (hH391.blk (i := 6) rfl))) ?_
       refine RL.callP rfl hH391 (c_clearanceref07_Right _  _ (hs.mono hH391.kw)) (run_call1 call16 rfl) ?_
       intro w392 hH393
       refine V (mV (B _) rfl) ?_
       refine RL.gT rfl (bR (c := true) (hso.1)) ?_
       refine V (run_ldA (cs := nodeL _) underlying28 rfl rfl rfl (rangeAt_cells (hH393.blk (i := 5) rfl))) ?_
       refine RL.gT rfl (bR (c := true) (hso.1)) ?_
       refine RL.callP rfl hH393 (c_clearanceref10_IsConst _  _ (hn.mono hH393.kw)) (run_call1 call17 rfl) ?_
       intro w395 hH396
       refine V (run_pickT (bR (c := true) (hso.1)) (v := B _) rfl) ?_
       refine V (mV (B _) rfl) ?_
       refine RL.gT rfl (bR (c := true) (hso.2.1)) ?_
       refine V (run_ldA (cs := [B _, _]) underlying24 rfl rfl rfl (rangeAt_cells (hH396.blk (i := 6) rfl))) ?_
       refine RL.gT rfl (bR (c := true) (hso.2.1)) ?_
       refine V (run_ldEl underlying34 rfl rfl rfl (hH396.blk (i := 3) rfl)) ?_
       refine RL.gT rfl (bR (c := true) (hso.2.1)) ?_
       refine RL.callP rfl hH396 (c_shape_Fits _ _  _ (hs.mono hH396.kw) (hT.hp hH396)) (run_call2 call18 rfl rfl) ?_
       intro w398 hH399
       refine V (run_pickT (bR (c := true) (hso.2.1)) (v := B _) rfl) ?_
       refine V (mV (B _) rfl) ?_
       refine RL.gT rfl (bR (c := true) (hso.2.2)) ?_
       refine V (run_ldA (cs := fltL _) underlying36 rfl rfl rfl (rangeAt_cells (hH399.blk (i := 1) rfl))) ?_
       refine RL.gT rfl (bR (c := true) (hso.2.2)) ?_
       refine V (run_bld (vs := []) rfl (built_fltL0)) ?_
       refine RL.gT rfl (bR (c := true) (hso.2.2)) ?_
       refine V (run_eqlT (eq_flt _ _) rfl rfl) ?_
       refine V (run_pickT (bR (c := true) (hso.2.2)) (v := B _) rfl) ?_
       refine V (mV (B _) rfl) ?_
       refine RL.gT rfl (bT ((res_back nd350 hso.2.2).1)) ?_
       refine V (run_ldEl underlying34 rfl rfl rfl (hH399.blk (i := 0) rfl)) ?_
       refine RL.gT rfl (bT ((res_back nd350 hso.2.2).1)) ?_
       refine V (run_ldEl underlying34 rfl rfl rfl (hH399.blk (i := 3) rfl)) ?_
       refine RL.gT rfl (bT ((res_back nd350 hso.2.2).1)) ?_
       refine V (run_eqlEl elT_fact rfl rfl) ?_
       refine V (run_pickT (bT ((res_back nd350 hso.2.2).1)) (v := B _) rfl) ?_
       refine V (mV (B _) rfl) ?_
       refine RL.gT rfl (bT ((res_back nd350 hso.2.2).2)) ?_
       refine RL.callP rfl hH399 (c_clearancelaw11_alive   _ (hT.hp hH399)) (run_call0 call8) ?_
       intro w403 hH404
       refine V (run_pickT (bT ((res_back nd350 hso.2.2).2)) (v := B _) rfl) ?_
       refine V (aV (B _) rfl) ?_
       refine RL.nil ?_
       refine CW.ret ?_
       refine outP1 Tryz.results5 (congrArg B ?_) hH404.below
       rfl
     ·refine AO.new rfl gnone rfl hH339 (sQ sR) (f := fun b => .pointer (some ⟨b, 0, none⟩)) (run_alloc zero_el) ?_
      intro b408 w406 hH407
      refine A1 3 ?_
      refine AO.callF rfl gnone rfl hH407 (sQ (sQ sR)) (c_spell_Node (Kw w) s (resE (elemG s.sh n.nd)).1 _ hH407.kw hs (hT.hp hH407)) (run_call2 call12 rfl rfl) ?_
      intro v411 w412 Z414 hH413 hp415
      have hH416 : Hp _ w412 (_ :: _ :: _ :: _ :: _ :: _ :: _ :: Z414) := hH413.zin0 (L := [_, _, _, _, _, _, _])
      obtain ⟨n417, rfl, nd418, nv419⟩ := hp415
      refine A1 4 ?_
      refine AO.callP rfl gnone rfl hH416 (sQ (sQ (sP (sP (sP (sP (sP (List.nil_sublist _)))))))) (c_spell_Elem s n417 _ (hs.mono hH416.kw) (NodeV.mono (hH416.kz (Le.refl _) (fun x hx => (mT (mT (mT (mT (mT (mT (mT hx))))))))) nv419) (hT.hp hH416)) (run_call2 call9 rfl rfl) ?_
      intro w420 hH421
      refine AT 5 rfl (hH421.sub (sQ (sQ (sP (sP (sP (sP (sP (List.nil_sublist _))))))))) (fun w hS => run_move (by conv => lhs; whnf)) ?_
      refine AT 6 rfl (hH421.sub (sQ (sQ (sP (sP (sP (sP (sP (List.nil_sublist _))))))))) (fun w hS => run_extract rfl (v := .agg _) rfl) ?_
      refine AT 7 rfl (hH421.sub (sQ (sQ (sP (sP (sP (sP (sP (List.nil_sublist _))))))))) (fun w hS => run_extract rfl (v := .agg _) rfl) ?_
      refine A1 10 ?_
      refine AO.set rfl gnone hH421 (j := 0) rfl (sQ (sQ (sP (sP (sP (sP (sP (List.nil_sublist _)))))))) (run_stEl rfl rfl rfl (hH421.blk (i := 0) rfl)) ?_
      intro w424 hH425
      simp only [z0, z1] at hH425
      refine A1 11 ?_
      refine AO.set rfl gnone hH425 (j := 1) rfl (sQ (sQ (sP (sP (sP (sP (sP (List.nil_sublist _)))))))) (run_stW (c' := (fltL _).toArray) rfl rfl rfl (by simp [fltL, Value.oneCell']) (hH425.blk (i := 1) rfl) rfl) ?_
      intro w428 hH429
      simp only [z0, z1] at hH429
      refine AD ?_
      refine SR ?_
      refine V (run_ldA (cs := [B _, _]) underlying24 rfl rfl rfl (rangeAt_cells (hH429.blk (i := 6) rfl))) ?_
      refine RL.callP rfl hH429 (c_clearanceref07_Right _  _ (hs.mono hH429.kw)) (run_call1 call16 rfl) ?_
      intro w430 hH431
      refine V (mV (B _) rfl) ?_
      refine RL.gT rfl (bR (c := true) (hso.1)) ?_
      refine V (run_ldA (cs := nodeL _) underlying28 rfl rfl rfl (rangeAt_cells (hH431.blk (i := 5) rfl))) ?_
      refine RL.gT rfl (bR (c := true) (hso.1)) ?_
      refine RL.callP rfl hH431 (c_clearanceref10_IsConst _  _ (hn.mono hH431.kw)) (run_call1 call17 rfl) ?_
      intro w433 hH434
      refine V (run_pickT (bR (c := true) (hso.1)) (v := B _) rfl) ?_
      refine V (mV (B _) rfl) ?_
      refine RL.gT rfl (bR (c := true) (hso.2.1)) ?_
      refine V (run_ldA (cs := [B _, _]) underlying24 rfl rfl rfl (rangeAt_cells (hH434.blk (i := 6) rfl))) ?_
      refine RL.gT rfl (bR (c := true) (hso.2.1)) ?_
      refine V (run_ldEl underlying34 rfl rfl rfl (hH434.blk (i := 3) rfl)) ?_
      refine RL.gT rfl (bR (c := true) (hso.2.1)) ?_
      refine RL.callP rfl hH434 (c_shape_Fits _ _  _ (hs.mono hH434.kw) (hT.hp hH434)) (run_call2 call18 rfl rfl) ?_
      intro w436 hH437
      refine V (run_pickT (bR (c := true) (hso.2.1)) (v := B _) rfl) ?_
      refine V (mV (B _) rfl) ?_
      refine RL.gT rfl (bR (c := true) (hso.2.2)) ?_
      refine V (run_ldA (cs := fltL _) underlying36 rfl rfl rfl (rangeAt_cells (hH437.blk (i := 1) rfl))) ?_
      refine RL.gT rfl (bR (c := true) (hso.2.2)) ?_
      refine V (run_bld (vs := []) rfl (built_fltL0)) ?_
      refine RL.gT rfl (bR (c := true) (hso.2.2)) ?_
      refine V (run_eqlT (eq_flt _ _) rfl rfl) ?_
      refine V (run_pickT (bR (c := true) (hso.2.2)) (v := B _) rfl) ?_
      refine V (mV (B _) rfl) ?_
      refine RL.gT rfl (bT ((res_back nd418 hso.2.2).1)) ?_
      refine V (run_ldEl underlying34 rfl rfl rfl (hH437.blk (i := 0) rfl)) ?_
      refine RL.gT rfl (bT ((res_back nd418 hso.2.2).1)) ?_
      refine V (run_ldEl underlying34 rfl rfl rfl (hH437.blk (i := 3) rfl)) ?_
      refine RL.gT rfl (bT ((res_back nd418 hso.2.2).1)) ?_
      refine V (run_eqlEl elT_fact rfl rfl) ?_
      refine V (run_pickT (bT ((res_back nd418 hso.2.2).1)) (v := B _) rfl) ?_
      refine V (mV (B _) rfl) ?_
      refine RL.gT rfl (bT ((res_back nd418 hso.2.2).2)) ?_
      refine RL.callP rfl hH437 (c_clearancelaw11_alive   _ (hT.hp hH437)) (run_call0 call8) ?_
      intro w441 hH442
      refine V (run_pickT (bT ((res_back nd418 hso.2.2).2)) (v := B _) rfl) ?_
      refine V (aV (B _) rfl) ?_
      refine RL.nil ?_
      refine CW.ret ?_
      refine outP1 Tryz.results5 (congrArg B ?_) hH442.below
      rfl

end Go.Proofs.YtningfhcklabmaaGreatDoor.W
