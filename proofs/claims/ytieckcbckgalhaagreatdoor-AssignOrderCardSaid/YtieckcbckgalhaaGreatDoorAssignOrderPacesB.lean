/-
  The walks of the functions that the laws of this seat reach, part 2: each returns what its plain counterpart tells, and turns nothing that was there.
-/
import Derived.Test.YtieckcbckgalhaaGreatDoorProg
import Derived.Test.YtieckcbckgalhaaGreatDoorEnv
import Derived.Test.YtieckcbckgalhaaGreatDoorPlain
import Derived.Test.YtieckcbckgalhaaGreatDoorBase
import Derived.Test.YtieckcbckgalhaaGreatDoorOrd
import Derived.Test.YtieckcbckgalhaaGreatDoorRel
import Derived.Test.YtieckcbckgalhaaGreatDoorClo
import Derived.Test.YtieckcbckgalhaaGreatDoorCov
import Derived.Test.YtieckcbckgalhaaGreatDoorArr
import Derived.Test.YtieckcbckgalhaaGreatDoorHas
import Derived.Test.YtieckcbckgalhaaGreatDoorGrd
import Derived.Test.YtieckcbckgalhaaGreatDoorStr
import Derived.Test.YtieckcbckgalhaaGreatDoorVu
import Derived.Test.YtieckcbckgalhaaGreatDoorShp
import Derived.Test.YtieckcbckgalhaaGreatDoorShl
import Derived.Test.YtieckcbckgalhaaGreatDoorShq
import Derived.Test.YtieckcbckgalhaaGreatDoorShr
import Derived.Test.YtieckcbckgalhaaGreatDoorCut
import Derived.Test.YtieckcbckgalhaaGreatDoorRec
import Derived.Test.YtieckcbckgalhaaGreatDoorOut
import Derived.Test.YtieckcbckgalhaaGreatDoorScp
import Derived.Test.YtieckcbckgalhaaGreatDoorScq
import Derived.Test.YtieckcbckgalhaaGreatDoorByt
import Derived.Test.YtieckcbckgalhaaGreatDoorNod
import Derived.Test.YtieckcbckgalhaaGreatDoorSpl
import Derived.Test.YtieckcbckgalhaaGreatDoorSpb
import Derived.Test.YtieckcbckgalhaaGreatDoorSpt
import Derived.Test.YtieckcbckgalhaaGreatDoorSpn
import Derived.Test.YtieckcbckgalhaaGreatDoorSpx
import Derived.Test.YtieckcbckgalhaaGreatDoorSpy
import Derived.Test.YtieckcbckgalhaaGreatDoorMk
import Derived.Test.YtieckcbckgalhaaGreatDoorAsn
import Derived.Test.YtieckcbckgalhaaGreatDoorAsp
import Derived.Test.YtieckcbckgalhaaGreatDoorAsr
import Derived.Test.YtieckcbckgalhaaGreatDoorAst
import Derived.Test.YtieckcbckgalhaaGreatDoorMin
import Derived.Test.YtieckcbckgalhaaGreatDoorAssignOrderPacesA
namespace Go.Proofs.YtieckcbckgalhaaGreatDoor.W
open Go Go.RowKit Go.Proofs.YtieckcbckgalhaaGreatDoor.E Go.Proofs.YtieckcbckgalhaaGreatDoor.M
set_option linter.unusedVariables false
set_option linter.unusedSimpArgs false
set_option maxRecDepth 100000
open Tryz

theorem c_spell_Node (K : Vu) (s : Shp) (e : El) (w : World) (hK : Le K (Kw w)) (hs : ShpV K s) (hT : Tab w) : Calls Tryz.prog 65 #[.agg (shpC s), .agg (elC e)] w (PureF K (fun K' u => ∃ n : NodeR, u = .agg (nodeL n).toArray ∧ n.nd = nodeF s.sh e ∧ NodeV K' n) w) := by
 have hsl := sh_len s
 have hm := hs.facs.small
 unfold maxLen at hm
 refine enter Tryz.func65 rfl Tryz.ntmps65 rfl ?_
 have hH := Hp.start w
 refine SR ?_
 refine RL.new rfl hH (f := fun b => (.pointer (some ⟨b, 0, none⟩))) (run_box (v := .agg _) rfl) ?_
 intro b3 w1 hH2
 refine RL.new rfl hH2 (f := fun b => (.pointer (some ⟨b, 0, none⟩))) (run_box (v := .agg _) rfl) ?_
 intro b6 w4 hH5
 refine RL.new rfl hH5 (f := fun b => (.pointer (some ⟨b, 0, none⟩))) (run_alloc Tryz.zeroValue96) ?_
 intro b9 w7 hH8
 refine RL.nil ?_
 refine CW.seq ?_
 refine SR ?_
 refine V (run_ldA (cs := [B _, _]) underlying42 rfl rfl rfl (rangeAt_cells (hH8.blk (i := 2) rfl))) ?_
 refine V (run_ldEl underlying51 rfl rfl rfl (hH8.blk (i := 1) rfl)) ?_
 refine RL.callP rfl hH8 (c_shape_Fits _ _  _ ((hs.mono hK).mono hH8.kw) (hT.hp hH8)) (run_call2 call24 rfl rfl) ?_
 intro w10 hH11
 refine V (run_not rfl) ?_
 refine RL.nil ?_
 refine CW.cond rfl (fun h14 => ?_) (fun h14 => ?_)
 ·refine SR ?_
  refine V (run_bld (vs := []) rfl built_node0) ?_
  refine RL.set hH11 (i := 0) rfl (run_stW (c' := (nodeL node0).toArray) rfl rfl rfl (nodeL_one (node0_v (K := Kw w))) (hH11.blk (i := 0) rfl) rfl) ?_
  intro w15 hH16
  simp only [z0, z1] at hH16
  refine RL.nil ?_
  refine CW.ret ?_
  refine outCg Tryz.results65 rfl hH16 (i := 0) rfl underlying96 rfl rfl ⟨[], (hH16.sub (sQ (sQ (sQ sR)))), node0, rfl, ?_, node0_v⟩
  rw [nodeF_no (nt ‹(!fitsS s.sh e) = true›)]; exact node0_nd
 ·refine CW.skip ?_
  refine CW.seq ?_
  refine SR ?_
  refine V (fA underlying42 0 rfl sizeOf4 rfl) ?_
  refine V (run_ld underlying4 rfl rfl (hH11.cell (i := 2) rfl (v := B _) rfl)) ?_
  refine V (run_not rfl) ?_
  refine RL.nil ?_
  refine CW.cond rfl (fun h19 => ?_) (fun h19 => ?_)
  ·refine CW.seq ?_
   have hfit := nf ‹(!fitsS s.sh e) = false›
   have hfl := fit_len hfit
   refine CW.regionS (by kernel_rfl) hH11 (sQ sR) ?_
   intro w20 hH21
   refine AT 0 rfl (hH21.sub (sQ sR)) (fun w hS => fA underlying42 1 rfl sizeOf40 rfl) ?_
   refine AT 1 rfl (hH21.sub (sQ sR)) (fun w hS => run_ld underlying40 rfl rfl (hS.cell (i := 1) rfl rfl)) ?_
   refine AT 2 rfl (hH21.sub (sQ sR)) (fun w hS => run_indexAddrS ((hs.mono hK).facs.sl.hp hS) underlying40 sizeOf59 rfl rfl (by omega)) ?_
   refine AT 3 rfl (hH21.sub (sQ sR)) (fun w hS => run_ldE (dv := fac0) facL_len ((hs.mono hK).facs.sl.hp hS) underlying59 rfl rfl rfl (by omega)) ?_
   refine AT 4 rfl (hH21.sub (sQ sR)) (fun w hS => run_indexAddrA underlying51 sizeOf49 rfl rfl (by omega)) ?_
   refine AT 5 rfl (hH21.sub (sQ sR)) (fun w hS => run_ld underlying49 rfl rfl (hS.cell (i := 0) rfl (elC_at _ (by omega)))) ?_
   refine A1 6 ?_
   refine AO.callF rfl gnone rfl hH21 (sQ sR) (c_spell_constant K (s.facs.getD (0 : Int).toNat fac0) (e (0 : Int).toNat) (fitR hfit (k := 0) (by omega) (by omega)).1 (fitR hfit (k := 0) (by omega) (by omega)).2 _ (hK.trans hH21.kw) (hs.at (k := 0) (by omega) (by omega)) (hT.hp hH21)) (run_call2 call94 rfl rfl) ?_
   intro v24 w25 Z27 hH26 hp28
   have hH29 : Hp _ w25 (_ :: _ :: _ :: Z27) := hH26.zin0 (L := [_, _, _])
   obtain ⟨n30, rfl, nd31, nv32⟩ := hp28
   refine A1 7 ?_
   refine AO.set rfl gnone hH29 (j := 0) rfl (sQ (sP (sP (List.nil_sublist _)))) (run_stW (c' := (nodeL n30).toArray) rfl rfl rfl (nodeL_one nv32) (hH29.blk (i := 0) rfl) rfl) ?_
   intro w35 hH36
   simp only [z0, z1] at hH36
   refine AD ?_
   refine CW.ret ?_
   refine outCg Tryz.results65 rfl hH36 (i := 0) rfl underlying96 rfl rfl ⟨Z27, (hH36.sub (sQ (sQ (sQ sR)))), n30, rfl, ?_, nv32⟩
   rw [nodeF_1 (nf ‹(!fitsS s.sh e) = false›) (nt ‹(!s.tuple) = true›)]; exact nd31
  ·refine CW.skip ?_
   refine SR ?_
   refine V (run_bld (vs := [(0, I 4)]) rfl (built_nodeK 4)) ?_
   refine RL.new rfl hH11 (f := fun b => (.pointer (some ⟨b, 0, none⟩))) (run_alloc Tryz.zeroValue96) ?_
   intro b39 w37 hH38
   refine RL.set hH38 (i := 0) rfl (run_stW (c' := (nodeL (kindR 4 tx0 (.slice none 0 0) [])).toArray) rfl rfl rfl (nodeL_one (kindR_v (SlV.nil (Kw w) _))) (hH38.blk (i := 0) rfl) rfl) ?_
   intro w40 hH41
   simp only [z0, z1] at hH41
   have hH42 := hH41.nilRow 96 5
   refine RL.nil ?_
   refine CW.seq ?_
   refine SR ?_
   refine V (fA underlying42 1 rfl sizeOf40 rfl) ?_
   refine V (run_ld underlying40 rfl rfl (hH42.cell (i := 4) rfl rfl)) ?_
   refine V (run_lenSl ((hs.mono hK).facs.sl.hp hH42) rfl underlying40 rfl) ?_
   refine V (mV (I 0) rfl) ?_
   refine RL.nil ?_
   refine CW.block ?_
   have hfit := nf ‹(!fitsS s.sh e) = false›
   have hfl := fit_len hfit
   refine CW.loop (G := (Int) × (Value) × (List NodeR) × (List Ent)) (fun (⟨k, kv, gs, Z⟩ : (Int) × (Value) × (List NodeR) × (List Ent)) s' w' => (Fr [6, 7, 27, 28, 29, 30, 31, 32, 33, 34, 35, 36, 37, 38, 39, 40, 41, 42] _ s') ∧ (Hp w w' (.row kv 96 5 (gs.length) (gs.flatMap nodeL) :: .blk b39 (.cells ((nodeL (kidsR 4 kv gs)).toArray) 96 (0, 0)) :: _ :: _ :: _ :: Z)) ∧ (s' 27 = I k) ∧ (0 ≤ k) ∧ (k ≤ s.facs.length) ∧ (gs.map NodeR.nd = constsTo s.sh e k) ∧ (NodesV (Kz K Z) gs) ∧ ((gs.length : Int) = k)) (fun (⟨k, kv, gs, Z⟩ : (Int) × (Value) × (List NodeR) × (List Ent)) => (s.facs.length - k).toNat) ((0, (.slice none 0 0 : Value), [], [])) ⟨Fr.refl _ _, hH42, rfl, (by omega), (by omega), rfl, NodesV.nil _, rfl⟩ ?_
   rintro ⟨k, kv, gs, Z⟩ sg43 w43 ⟨fr43, hH43, e27_43, h0, hk, hm, hF, hb⟩
   have e3_43 : sg43 3 = Pn _ _ := (fr43 3 rfl).trans rfl
   have e4_43 : sg43 4 = Pn _ _ := (fr43 4 rfl).trans rfl
   have e5_43 : sg43 5 = Pn _ _ := (fr43 5 rfl).trans rfl
   have e25_43 := (fr43 25 rfl).trans (by conv => lhs; whnf)
   have e26_43 : sg43 26 = I _ := (fr43 26 rfl).trans rfl
   refine SR ?_
   refine V (run_lss e27_43 e26_43) ?_
   refine RL.nil ?_
   refine CW.seq ?_
   refine CW.condP rfl (fun h45 => ?_) (fun h45 => ?_)
   ·refine CW.skip ?_
    refine CW.seq ?_
    refine CW.block ?_
    refine SR ?_
    refine V (run_move e27_43) ?_
    refine V (run_indexAddrS ((hs.mono hK).facs.sl.hp hH43) underlying40 sizeOf59 e25_43 e27_43 (by omega)) ?_
    refine V (run_ldE (dv := fac0) facL_len ((hs.mono hK).facs.sl.hp hH43) underlying59 rfl rfl rfl (by omega)) ?_
    refine RL.new rfl hH43 (f := fun b => (.pointer (some ⟨b, 0, none⟩))) (run_alloc zero_fac) ?_
    intro b48 w46 hH47
    refine V (aV (I _) rfl) ?_
    refine RL.set hH47 (i := 0) rfl (run_stFac ((hs.mono hK).at (by omega) (by omega)) rfl rfl rfl (hH47.blk (i := 0) rfl)) ?_
    intro w49 hH50
    simp only [z0, z1] at hH50
    refine RL.nil ?_
    refine CW.regionS (by kernel_rfl) hH50 (sP (sQ (sQ sR))) ?_
    intro w51 hH52
    refine AT 0 rfl (hH52.sub (sP (sQ (sQ sR)))) (fun w hS => fA underlying96 4 rfl sizeOf94 e5_43) ?_
    refine AT 2 rfl (hH52.sub (sP (sQ (sQ sR)))) (fun w hS => run_ldFac underlying59 rfl rfl rfl (hS.blk (i := 0) rfl)) ?_
    refine AT 3 rfl (hH52.sub (sP (sQ (sQ sR)))) (fun w hS => mV (I _) rfl) ?_
    refine AT 4 rfl (hH52.sub (sP (sQ (sQ sR)))) (fun w hS => run_indexAddrA underlying51 sizeOf49 e3_43 rfl (by omega)) ?_
    refine AT 5 rfl (hH52.sub (sP (sQ (sQ sR)))) (fun w hS => run_ld underlying49 rfl rfl (hS.cell (i := 2) rfl (elC_at _ (by omega)))) ?_
    refine AN.two 1 6 (by kernel_rfl) ?_ ?_
    ·refine AO.read rfl gnone rfl hH52 (sP (sQ (sQ sR))) (run_ld underlying94 rfl rfl (hH52.cell (i := 2) rfl rfl)) ?_
     refine A1 6 ?_
     refine AO.callF rfl gnone rfl hH52 (sP (sQ (sQ sR))) (c_spell_constant K (s.facs.getD k.toNat fac0) (e k.toNat) (fitR hfit h0 (by omega)).1 (fitR hfit h0 (by omega)).2 _ (hK.trans hH52.kw) (hs.at h0 (by omega)) (hT.hp hH52)) (run_call2 call94 rfl rfl) ?_
     intro v57 w58 Z60 hH59 hp61
     have hH62 : Hp _ w58 (_ :: _ :: _ :: _ :: _ :: _ :: (Z60 ++ Z)) := hH59.zin (L := [_, _, _, _, _, _]) (L' := Z)
     obtain ⟨n63, rfl, nd64, nv65⟩ := hp61
     refine A1 7 ?_
     refine AO.new rfl gnone rfl hH62 (sP (sQ (sQ (sP (sP (sP (sA sR))))))) (f := fun b => .slice (some ⟨b, 0, none⟩) 1 1) (run_mkRecs nodeL_len underlying94 rfl rfl rfl (l := [n63]) rfl (by decide) (by decide) rfl) ?_
     intro b68 w66 hH67
     refine A1 8 ?_
     refine AO.app rfl gnone rfl hH67 (j := 2) rfl (fun _ => (sQ (sP (sQ (sQ (sP (sP (sP (sA sR))))))))) (Hp.slFlat nodeL_len hH67 (i := 0) (l := [n63]) rfl (by simp [maxLen])) rfl rfl underlying94 rfl rfl (size := 5) (bytes := 80) rfl rfl rfl (by decide) (node1_one nv65) (by simp only [List.length_cons, List.length_nil]; omega) (by simp only [maxLen, List.length_cons, List.length_nil]; omega) ?_
     intro v71 w69 hH70
     simp only [z0, z1] at hH70
     refine AT 9 rfl (hH70.sub (sQ (sP (sQ (sQ (sP (sP (sP (sA sR))))))))) (fun w hS => fA underlying96 4 rfl sizeOf94 e5_43) ?_
     refine A1 10 ?_
     refine AO.set rfl gnone hH70 (j := 3) rfl (sQ (sP (sQ (sQ (sP (sP (sP (sA sR)))))))) (run_st rfl rfl (v := v71) rfl (row_cells (hH70.get (i := 2) rfl)).1 (row_cells (hH70.get (i := 2) rfl)).2 (hH70.blk (i := 3) rfl) (by first | (show 4 < 5; decide) | decide | (simp only [List.size_toArray, nodeL_len]; decide) | simp)) ?_
     intro w74 hH75
     simp only [z0, z1] at hH75
     refine AD ?_
     refine CW.region ?_
     refine V (run_add e27_43 rfl (by omega)) ?_
     refine V (mV (I _) rfl) ?_
     refine RL.nil ?_
     refine ⟨(k + 1, v71, (gs ++ [n63]), (Z60 ++ Z)), ?_, fr43.u4.u4.u4.u4.u1.u1, (Hp.conv (hH75.sub (sQ (sQ sR))) (by first | rfl | (simp; done) | (simp [nodeL, kidsR, kindR, NodeR.kind, NodeR.place, NodeR.text, NodeR.nv, NodeR.kv]; done))), (congrArg I (by first | rfl | omega)), ?_, ?_, ?_, ?_, ?_⟩
     ·((try dsimp only); omega)
     ·omega
     ·omega
     ·rw [consts_nextR h0, List.map_append, hm]; exact congrArg (_ ++ [·]) nd64
     ·exact (hF.mono (Le.zz fun y hy => List.mem_append_right _ hy)).snoc (NodeV.mono (Le.zz fun y hy => List.mem_append_left _ hy) nv65)
     ·simp only [List.length_append, List.length_singleton]; omega
    ·refine AO.callF rfl gnone rfl hH52 (sP (sQ (sQ sR))) (c_spell_constant K (s.facs.getD k.toNat fac0) (e k.toNat) (fitR hfit h0 (by omega)).1 (fitR hfit h0 (by omega)).2 _ (hK.trans hH52.kw) (hs.at h0 (by omega)) (hT.hp hH52)) (run_call2 call94 rfl rfl) ?_
     intro v78 w79 Z81 hH80 hp82
     have hH83 : Hp _ w79 (_ :: _ :: _ :: _ :: _ :: _ :: (Z81 ++ Z)) := hH80.zin (L := [_, _, _, _, _, _]) (L' := Z)
     obtain ⟨n84, rfl, nd85, nv86⟩ := hp82
     refine AN.two 1 7 (by kernel_rfl) ?_ ?_
     ·refine AO.read rfl gnone rfl hH83 (sP (sQ (sQ (sP (sP (sP (sA sR))))))) (run_ld underlying94 rfl rfl (hH83.cell (i := 2) rfl rfl)) ?_
      refine A1 7 ?_
      refine AO.new rfl gnone rfl hH83 (sP (sQ (sQ (sP (sP (sP (sA sR))))))) (f := fun b => .slice (some ⟨b, 0, none⟩) 1 1) (run_mkRecs nodeL_len underlying94 rfl rfl rfl (l := [n84]) rfl (by decide) (by decide) rfl) ?_
      intro b91 w89 hH90
      refine A1 8 ?_
      refine AO.app rfl gnone rfl hH90 (j := 2) rfl (fun _ => (sQ (sP (sQ (sQ (sP (sP (sP (sA sR))))))))) (Hp.slFlat nodeL_len hH90 (i := 0) (l := [n84]) rfl (by simp [maxLen])) rfl rfl underlying94 rfl rfl (size := 5) (bytes := 80) rfl rfl rfl (by decide) (node1_one nv86) (by simp only [List.length_cons, List.length_nil]; omega) (by simp only [maxLen, List.length_cons, List.length_nil]; omega) ?_
      intro v94 w92 hH93
      simp only [z0, z1] at hH93
      refine AT 9 rfl (hH93.sub (sQ (sP (sQ (sQ (sP (sP (sP (sA sR))))))))) (fun w hS => fA underlying96 4 rfl sizeOf94 e5_43) ?_
      refine A1 10 ?_
      refine AO.set rfl gnone hH93 (j := 3) rfl (sQ (sP (sQ (sQ (sP (sP (sP (sA sR)))))))) (run_st rfl rfl (v := v94) rfl (row_cells (hH93.get (i := 2) rfl)).1 (row_cells (hH93.get (i := 2) rfl)).2 (hH93.blk (i := 3) rfl) (by first | (show 4 < 5; decide) | decide | (simp only [List.size_toArray, nodeL_len]; decide) | simp)) ?_
      intro w97 hH98
      simp only [z0, z1] at hH98
      refine AD ?_
      refine CW.region ?_
      refine V (run_add e27_43 rfl (by omega)) ?_
      refine V (mV (I _) rfl) ?_
      refine RL.nil ?_
      refine ⟨(k + 1, v94, (gs ++ [n84]), (Z81 ++ Z)), ?_, fr43.u4.u4.u4.u4.u1.u1, (Hp.conv (hH98.sub (sQ (sQ sR))) (by first | rfl | (simp; done) | (simp [nodeL, kidsR, kindR, NodeR.kind, NodeR.place, NodeR.text, NodeR.nv, NodeR.kv]; done))), (congrArg I (by first | rfl | omega)), ?_, ?_, ?_, ?_, ?_⟩
      ·((try dsimp only); omega)
      ·omega
      ·omega
      ·rw [consts_nextR h0, List.map_append, hm]; exact congrArg (_ ++ [·]) nd85
      ·exact (hF.mono (Le.zz fun y hy => List.mem_append_right _ hy)).snoc (NodeV.mono (Le.zz fun y hy => List.mem_append_left _ hy) nv86)
      ·simp only [List.length_append, List.length_singleton]; omega
     ·refine AO.new rfl gnone rfl hH83 (sP (sQ (sQ (sP (sP (sP (sA sR))))))) (f := fun b => .slice (some ⟨b, 0, none⟩) 1 1) (run_mkRecs nodeL_len underlying94 rfl rfl rfl (l := [n84]) rfl (by decide) (by decide) rfl) ?_
      intro b101 w99 hH100
      refine A1 1 ?_
      refine AO.read rfl gnone rfl hH100 (sQ (sP (sQ (sQ (sP (sP (sP (sA sR)))))))) (run_ld underlying94 rfl rfl (hH100.cell (i := 3) rfl rfl)) ?_
      refine A1 8 ?_
      refine AO.app rfl gnone rfl hH100 (j := 2) rfl (fun _ => (sQ (sP (sQ (sQ (sP (sP (sP (sA sR))))))))) (Hp.slFlat nodeL_len hH100 (i := 0) (l := [n84]) rfl (by simp [maxLen])) rfl rfl underlying94 rfl rfl (size := 5) (bytes := 80) rfl rfl rfl (by decide) (node1_one nv86) (by simp only [List.length_cons, List.length_nil]; omega) (by simp only [maxLen, List.length_cons, List.length_nil]; omega) ?_
      intro v106 w104 hH105
      simp only [z0, z1] at hH105
      refine AT 9 rfl (hH105.sub (sQ (sP (sQ (sQ (sP (sP (sP (sA sR))))))))) (fun w hS => fA underlying96 4 rfl sizeOf94 e5_43) ?_
      refine A1 10 ?_
      refine AO.set rfl gnone hH105 (j := 3) rfl (sQ (sP (sQ (sQ (sP (sP (sP (sA sR)))))))) (run_st rfl rfl (v := v106) rfl (row_cells (hH105.get (i := 2) rfl)).1 (row_cells (hH105.get (i := 2) rfl)).2 (hH105.blk (i := 3) rfl) (by first | (show 4 < 5; decide) | decide | (simp only [List.size_toArray, nodeL_len]; decide) | simp)) ?_
      intro w109 hH110
      simp only [z0, z1] at hH110
      refine AD ?_
      refine CW.region ?_
      refine V (run_add e27_43 rfl (by omega)) ?_
      refine V (mV (I _) rfl) ?_
      refine RL.nil ?_
      refine ⟨(k + 1, v106, (gs ++ [n84]), (Z81 ++ Z)), ?_, fr43.u4.u4.u4.u4.u1.u1, (Hp.conv (hH110.sub (sQ (sQ sR))) (by first | rfl | (simp; done) | (simp [nodeL, kidsR, kindR, NodeR.kind, NodeR.place, NodeR.text, NodeR.nv, NodeR.kv]; done))), (congrArg I (by first | rfl | omega)), ?_, ?_, ?_, ?_, ?_⟩
      ·((try dsimp only); omega)
      ·omega
      ·omega
      ·rw [consts_nextR h0, List.map_append, hm]; exact congrArg (_ ++ [·]) nd85
      ·exact (hF.mono (Le.zz fun y hy => List.mem_append_right _ hy)).snoc (NodeV.mono (Le.zz fun y hy => List.mem_append_left _ hy) nv86)
      ·simp only [List.length_append, List.length_singleton]; omega
   ·refine CW.exit (id := 0) rfl ?_
    refine SR ?_
    obtain ⟨Z111, hz112, hv113, -⟩ := hH43.frz (K)
    have hH114 : Hp _ w43 (_ :: _ :: _ :: _ :: (Z111 ++ Z)) := hz112.zin (L := [_, _, _, _]) (L' := Z)
    have hN115 : NodeV (Kz K (Z111 ++ Z)) ((kidsR 4 kv gs)) := kidsR_v (hv113.mono (Le.zz fun x hx => List.mem_append_left _ hx)) (hF.mono (Le.zz fun x hx => List.mem_append_right _ hx))
    refine V (run_ldA (cs := nodeL ((kidsR 4 kv gs))) underlying96 rfl rfl e5_43 (rangeAt_cells (hH114.blk (i := 0) rfl))) ?_
    refine RL.set hH114 (i := 1) rfl (run_stW (c' := (nodeL ((kidsR 4 kv gs))).toArray) rfl e4_43 rfl (nodeL_one hN115) (hH114.blk (i := 1) rfl) rfl) ?_
    intro w116 hH117
    simp only [z0, z1] at hH117
    refine RL.nil ?_
    refine CW.ret ?_
    refine outCg Tryz.results65 e4_43 hH117 (i := 1) rfl underlying96 rfl rfl ⟨(Z111 ++ Z), (hH117.sub (sQ (sQ (sQ (sQ sR))))), (kidsR 4 kv gs), rfl, ?_, hN115⟩
    exact nodeF_t hfit (nf ‹(!s.tuple) = false›) (by omega) hm

theorem c_term_commas (n : Int) (f : FuncId) (cs : List Value) (T : Int → Tx) (hn : 0 ≤ n ∧ n ≤ 9223372036854775807) (hsz : ((upto n).map fun i => (T i).size + 1).sum ≤ 999999996) (w : World) (hf : ∀ args w, (callFunc f args).run Tryz.prog w = .ok (.enter f args) w) (go : ∀ i w', Below w.heap.size w w' → 0 ≤ i → i < n → Calls Tryz.prog f (I i :: cs).toArray w' (Pure (S (T i)) w')) : Calls Tryz.prog 113 #[I n, .func (.func f) #[] cs.toArray] w (Pure (S (commasTo T n)) w) := by
 refine enter Tryz.func113 rfl Tryz.ntmps113 rfl ?_
 have hH := Hp.start w
 refine SR ?_
 refine V (aV (.string ⟨#[]⟩) rfl) ?_
 refine RL.nil ?_
 refine SR ?_
 refine V (aV (.slice none 0 0) rfl) ?_
 have hH1 := hH.nilRow 5 1
 refine RL.nil ?_
 refine CW.seq ?_
 refine SR ?_
 refine V (mV (I _) rfl) ?_
 refine V (mV (I 0) rfl) ?_
 refine RL.nil ?_
 refine CW.block ?_
 refine CW.loop (G := (Int) × (Tx) × (Value)) (fun (⟨k, m, v5⟩ : (Int) × (Tx) × (Value)) s' w' => (Fr [5, 6, 8, 9, 10, 11, 12, 13, 14, 15, 16, 17, 18, 19, 20, 21] _ s') ∧ (Hp w w' (.row v5 5 1 (m.size) (byL m) :: _)) ∧ (s' 5 = v5) ∧ (s' 8 = I k) ∧ (0 ≤ k) ∧ (k ≤ n) ∧ (m = commasTo T k)) (fun (⟨k, m, v5⟩ : (Int) × (Tx) × (Value)) => (n - k).toNat) ((0, tx0, (.slice none 0 0 : Value))) ⟨Fr.refl _ _, hH1, rfl, rfl, (by omega), (by omega), rfl⟩ ?_
 rintro ⟨k, m, v5⟩ sg2 w2 ⟨fr2, hH2, e5_2, e8_2, h0, hk, hm⟩
 have e1_2 : sg2 1 = .func _ _ _ := (fr2 1 rfl).trans rfl
 have e4_2 : sg2 4 = .string _ := (fr2 4 rfl).trans rfl
 have e7_2 : sg2 7 = I _ := (fr2 7 rfl).trans rfl
 subst hm
 refine SR ?_
 refine V (run_lss e8_2 e7_2) ?_
 refine RL.nil ?_
 refine CW.seq ?_
 refine CW.condP rfl (fun h4 => ?_) (fun h4 => ?_)
 ·refine CW.skip ?_
  refine CW.seq ?_
  refine CW.block ?_
  refine SR ?_
  refine V (run_move e8_2) ?_
  refine V (aV (I _) rfl) ?_
  refine RL.nil ?_
  refine CW.seq ?_
  refine SR ?_
  refine V (mV (I _) rfl) ?_
  refine V (run_gtr rfl rfl) ?_
  refine RL.nil ?_
  refine CW.condP rfl (fun h6 => ?_) (fun h6 => ?_)
  ·refine CW.region ?_
   refine V (run_move e5_2) ?_
   refine RL.new rfl hH2 (f := fun b => (.slice (some ⟨b, 0, none⟩) 1 1)) (run_mkL underlying98 rfl rfl (sz := 1) (vs := [.int .u8 44]) rfl rfl (by decide) (by decide) rfl rfl) ?_
   intro b9 w7 hH8
   (try simp only [List.flatMap_cons, List.flatMap_nil, clI, clB, clS, clP, clL, clA, List.append_nil, List.cons_append, List.nil_append] at hH8)
   refine RL.app rfl hH8 (i := 1) rfl (hH8.slBlk (i := 0) (n := 1) (sz := 1) rfl rfl (by decide)) rfl rfl underlying98 rfl rfl (size := 1) (bytes := 1) rfl rfl rfl (by decide) (by simp [Value.oneCell']) (by have := T_sz T h0 ‹k < n›; omega) (by have := T_sz T h0 ‹k < n›; simp only [maxLen]; omega) ?_
   intro v10 w11 hH12
   simp only [z0, z1] at hH12
   refine V (run_assign (by conv => lhs; whnf)) ?_
   refine RL.nil ?_
   refine CW.region ?_
   refine V (run_move (by conv => lhs; whnf)) ?_
   refine V (run_move e1_2) ?_
   refine V (mV (I _) rfl) ?_
   refine RL.callP rfl hH12 (go _ _ hH12.below (by omega) (by omega)) (run_callC1 hf (cs := cs) rfl rfl) ?_
   intro w13 hH14
   refine RL.appS rfl hH14 (i := 1) rfl rfl rfl underlying98 underlying9 rfl rfl rfl rfl (by have := T_sz T h0 ‹k < n›; (try simp only [List.length_cons, List.length_nil]); omega) ?_
   intro v15 w16 hH17
   simp only [z0, z1] at hH17
   refine V (run_assign (by conv => lhs; whnf)) ?_
   refine RL.nil ?_
   refine CW.region ?_
   refine V (run_add e8_2 rfl (by omega)) ?_
   refine V (mV (I _) rfl) ?_
   refine RL.nil ?_
   refine ⟨(k + 1, commasTo T (k + 1), v15), ?_, fr2.u4.u4.u4.u4.u1, (Hp.conv (hH17.sub (sQ sR)) (by first | (rw [← commas_2 ‹0 < k›, tx_size_app, tx_size_app, byL_app, byL_app]; rfl) | (rw [← commas_1 (show k = 0 by omega), tx_size_app, byL_app]))), rfl, (congrArg I (by first | rfl | omega)), ?_, ?_, ?_⟩
   ·((try dsimp only); omega)
   ·omega
   ·omega
   ·rfl
  ·refine CW.skip ?_
   refine CW.region ?_
   refine V (run_move e5_2) ?_
   refine V (run_move e1_2) ?_
   refine V (mV (I _) rfl) ?_
   refine RL.callP rfl hH2 (go _ _ hH2.below (by omega) (by omega)) (run_callC1 hf (cs := cs) rfl rfl) ?_
   intro w18 hH19
   refine RL.appS rfl hH19 (i := 0) rfl rfl rfl underlying98 underlying9 rfl rfl rfl rfl (by have := T_sz T h0 ‹k < n›; (try simp only [List.length_cons, List.length_nil]); omega) ?_
   intro v20 w21 hH22
   simp only [z0, z1] at hH22
   refine V (run_assign (by conv => lhs; whnf)) ?_
   refine RL.nil ?_
   refine CW.region ?_
   refine V (run_add e8_2 rfl (by omega)) ?_
   refine V (mV (I _) rfl) ?_
   refine RL.nil ?_
   refine ⟨(k + 1, commasTo T (k + 1), v20), ?_, fr2.u4.u4.u4.u1, (Hp.conv hH22 (by first | (rw [← commas_2 ‹0 < k›, tx_size_app, tx_size_app, byL_app, byL_app]; rfl) | (rw [← commas_1 (show k = 0 by omega), tx_size_app, byL_app]))), rfl, (congrArg I (by first | rfl | omega)), ?_, ?_, ?_⟩
   ·((try dsimp only); omega)
   ·omega
   ·omega
   ·rfl
 ·refine CW.exit (id := 0) rfl ?_
  refine SR ?_
  refine V (run_move e5_2) ?_
  refine V (run_convBS (s := (commasTo T k)) (hH2.sl (i := 0) rfl) underlying98 underlying5 underlying9 rfl) ?_
  refine V (aV (.string _) rfl) ?_
  refine RL.nil ?_
  refine CW.ret ?_
  refine outP1 Tryz.results113 ?_ hH2.below
  exact congrArg S (by rw [show n = k by omega])

theorem c_term_names_1 (b : Nat) (n : NodeR) (i : Int) (hi : 0 ≤ i ∧ i < n.names.length) (w : World) (hn : NodeV (Kw w) n) (hb : w.heap[b]? = some (.cells (nodeL n).toArray 96 (0, 0))) : Calls Tryz.prog 114 #[I i, .pointer (some ⟨b, 0, none⟩)] w (Pure (S (n.names.getD i.toNat wd0).text) w) := by
 refine enter Tryz.func114 rfl Tryz.ntmps114 rfl ?_
 have hH := Hp.start w
 refine SR ?_
 refine V (aV (.string ⟨#[]⟩) rfl) ?_
 refine RL.nil ?_
 refine SR ?_
 refine V (fA underlying96 3 rfl sizeOf93 rfl) ?_
 refine V (run_ldV (hn.names_.sl.hp hH) underlying93 rfl rfl (hH.extCell hb rfl)) ?_
 refine V (mV (I _) rfl) ?_
 refine V (run_indexAddrS (hn.names_.sl.hp hH) underlying93 sizeOf128 rfl rfl (by omega)) ?_
 refine V (fA underlying128 0 rfl sizeOf9 rfl) ?_
 refine V (run_ldE1 (dv := wd0) (off := 0) wdL_len (hn.names_.sl.hp hH) underlying9 rfl rfl (by omega) rfl) ?_
 refine V (aV (.string _) rfl) ?_
 refine RL.nil ?_
 refine CW.ret ?_
 refine outP1 Tryz.results114 ?_ hH.below
 rfl

theorem c_term_kids_1 (b : Nat) (n : NodeR) (i : Int) (hi : 0 ≤ i ∧ i < n.kids.length) (htx : TxN n.nd) (w : World) (hn : NodeV (Kw w) n) (hb : w.heap[b]? = some (.cells (nodeL n).toArray 96 (0, 0))) (ih : ∀ x ∈ n.kids, TxN x.nd → ∀ w, NodeV (Kw w) x → Calls Tryz.prog 64 #[.agg (nodeL x).toArray] w (Pure (S (textF x.nd)) w)) : Calls Tryz.prog 115 #[I i, .pointer (some ⟨b, 0, none⟩)] w (Pure (S (textF (n.kids.getD i.toNat node0).nd)) w) := by
 refine enter Tryz.func115 rfl Tryz.ntmps115 rfl ?_
 have hH := Hp.start w
 refine SR ?_
 refine V (aV (.string ⟨#[]⟩) rfl) ?_
 refine RL.nil ?_
 refine SR ?_
 refine V (fA underlying96 4 rfl sizeOf94 rfl) ?_
 refine V (run_ldV (hn.kids_.sl.hp hH) underlying94 rfl rfl (hH.extCell hb rfl)) ?_
 refine V (mV (I _) rfl) ?_
 refine V (run_indexAddrS (hn.kids_.sl.hp hH) underlying94 sizeOf96 rfl rfl (by omega)) ?_
 refine V (run_ldE (dv := node0) nodeL_len (hn.kids_.sl.hp hH) underlying96 rfl rfl rfl (by omega)) ?_
 refine RL.callP rfl hH (ih _ (List.mem_of_getElem? (getD_at (d := node0) hi.1 hi.2)) (htx.kidR (List.mem_of_getElem? (getD_at (d := node0) hi.1 hi.2))) _ (NodeV.mono hH.kw (hn.at hi.1 hi.2))) (run_call1 call64 rfl) ?_
 intro w1 hH2
 refine V (aV (.string _) rfl) ?_
 refine RL.nil ?_
 refine CW.ret ?_
 refine outP1 Tryz.results115 ?_ hH2.below
 rfl

theorem c_term_names (n : NodeR) (htx : TxN n.nd) (w : World) (hn : NodeV (Kw w) n) : Calls Tryz.prog 90 #[.agg (nodeL n).toArray] w (Pure (S (namesT n.nd.names)) w) := by
 have hm1 := hn.kids_.small
 have hm2 := hn.names_.small
 unfold maxLen at hm1 hm2
 refine enter Tryz.func90 rfl Tryz.ntmps90 rfl ?_
 have hH := Hp.start w
 refine SR ?_
 refine RL.new rfl hH (f := fun b => (.pointer (some ⟨b, 0, none⟩))) (run_box (v := .agg _) rfl) ?_
 intro b3 w1 hH2
 refine V (aV (.string ⟨#[]⟩) rfl) ?_
 refine RL.nil ?_
 refine SR ?_
 refine V (fA underlying96 3 rfl sizeOf93 rfl) ?_
 refine V (run_ldV (hn.names_.sl.hp hH2) underlying93 rfl rfl (hH2.cell (i := 0) rfl rfl)) ?_
 refine V (run_lenSl (hn.names_.sl.hp hH2) rfl underlying93 rfl) ?_
 refine V (run_mkF1 (by conv => lhs; whnf)) ?_
 refine RL.callP rfl hH2 (c_term_commas _ 114 [.pointer (some ⟨b3, 0, none⟩)] (fun i => (n.names.getD i.toNat wd0).text) (by omega) (names_bd htx) _ call114 (fun i w h h0 h1 => c_term_names_1 b3 n i ⟨h0, h1⟩ w (NodeV.mono (hH2.kw.trans (Kw.below h)) hn) (keep h (hH2.blk (i := 0) rfl)))) (run_call2 call113 rfl rfl) ?_
 intro w4 hH5
 refine V (aV (.string _) rfl) ?_
 refine RL.nil ?_
 refine CW.ret ?_
 refine outP1 Tryz.results90 ?_ hH5.below
 exact congrArg S (names_commas n)

theorem c_term_kids (n : NodeR) (htx : TxN n.nd) (w : World) (hn : NodeV (Kw w) n) (ih : ∀ x ∈ n.kids, TxN x.nd → ∀ w, NodeV (Kw w) x → Calls Tryz.prog 64 #[.agg (nodeL x).toArray] w (Pure (S (textF x.nd)) w)) : Calls Tryz.prog 91 #[.agg (nodeL n).toArray] w (Pure (S (commasF (n.nd.kids.map textF))) w) := by
 have hm1 := hn.kids_.small
 have hm2 := hn.names_.small
 unfold maxLen at hm1 hm2
 refine enter Tryz.func91 rfl Tryz.ntmps91 rfl ?_
 have hH := Hp.start w
 refine SR ?_
 refine RL.new rfl hH (f := fun b => (.pointer (some ⟨b, 0, none⟩))) (run_box (v := .agg _) rfl) ?_
 intro b3 w1 hH2
 refine V (aV (.string ⟨#[]⟩) rfl) ?_
 refine RL.nil ?_
 refine SR ?_
 refine V (fA underlying96 4 rfl sizeOf94 rfl) ?_
 refine V (run_ldV (hn.kids_.sl.hp hH2) underlying94 rfl rfl (hH2.cell (i := 0) rfl rfl)) ?_
 refine V (run_lenSl (hn.kids_.sl.hp hH2) rfl underlying94 rfl) ?_
 refine V (run_mkF1 (by conv => lhs; whnf)) ?_
 refine RL.callP rfl hH2 (c_term_commas _ 115 [.pointer (some ⟨b3, 0, none⟩)] (fun i => textF (n.kids.getD i.toNat node0).nd) (by omega) (kids_bd htx) _ call115 (fun i w h h0 h1 => c_term_kids_1 b3 n i ⟨h0, h1⟩ htx w (NodeV.mono (hH2.kw.trans (Kw.below h)) hn) (keep h (hH2.blk (i := 0) rfl)) ih)) (run_call2 call113 rfl rfl) ?_
 intro w4 hH5
 refine V (aV (.string _) rfl) ?_
 refine RL.nil ?_
 refine CW.ret ?_
 refine outP1 Tryz.results91 ?_ hH5.below
 exact congrArg S (kids_commas n)

theorem s_text (n : NodeR) (htx : TxN n.nd) (w : World) (hn : NodeV (Kw w) n) (ih : ∀ x ∈ n.kids, TxN x.nd → ∀ w, NodeV (Kw w) x → Calls Tryz.prog 64 #[.agg (nodeL x).toArray] w (Pure (S (textF x.nd)) w)) : Calls Tryz.prog 64 #[.agg (nodeL n).toArray] w (Pure (S (textF n.nd)) w) := by
 have hm1 := hn.kids_.small
 have hm2 := hn.names_.small
 unfold maxLen at hm1 hm2
 have hkd := htx.kind
 rw [nd_kind] at hkd
 refine enter Tryz.func64 rfl Tryz.ntmps64 rfl ?_
 have hH := Hp.start w
 refine SR ?_
 refine RL.new rfl hH (f := fun b => (.pointer (some ⟨b, 0, none⟩))) (run_box (v := .agg _) rfl) ?_
 intro b3 w1 hH2
 refine V (aV (.string ⟨#[]⟩) rfl) ?_
 refine RL.nil ?_
 refine CW.seq ?_
 refine SR ?_
 refine V (fA underlying96 0 rfl sizeOf3 rfl) ?_
 refine V (run_ld underlying3 rfl rfl (hH2.cell (i := 0) rfl (v := I _) rfl)) ?_
 refine RL.nil ?_
 refine CW.block ?_
 refine CW.seq ?_
 refine SR ?_
 refine V (run_eql rfl rfl) ?_
 refine V (aV (B _) rfl) ?_
 refine RL.nil ?_
 refine CW.condP rfl (fun h5 => ?_) (fun h5 => ?_)
 ·refine CW.skip ?_
  refine CW.condT (bT h5) ?_
  refine SR ?_
  refine V (fA underlying96 2 rfl sizeOf9 rfl) ?_
  refine V (run_ld underlying9 rfl rfl (hH2.cell (i := 0) rfl (v := .string _) rfl)) ?_
  refine V (aV (.string _) rfl) ?_
  refine RL.nil ?_
  refine CW.ret ?_
  refine outP1 Tryz.results64 ?_ hH2.below
  (refine congrArg S ?_; first | (rw [text_eq, nd_kind, if_pos (.inl ‹n.kind = 1›), nd_text]; done) | (rw [text_eq, nd_kind, if_pos (.inr ‹n.kind = 2›), nd_text]; done) | (rw [text_eq, nd_kind, if_neg (by omega), if_pos ‹n.kind = 3›]; rfl) | (rw [text_eq, nd_kind, if_neg (by omega), if_neg (by omega), if_pos ‹n.kind = 4›]; rfl) | (rw [text_eq, nd_kind, if_neg (by omega), if_neg (by omega), if_neg (by omega), if_pos ‹n.kind = 5›]; rfl) | (rw [text_eq, nd_kind, if_neg (by omega), if_neg (by omega), if_neg (by omega), if_neg (by omega), if_pos ‹n.kind = 6›, nd_text]; rfl) | (rw [text_eq, nd_kind, if_neg (by omega), if_neg (by omega), if_neg (by omega), if_neg (by omega), if_neg (by omega)]))
 ·refine CW.region ?_
  refine V (run_eql rfl rfl) ?_
  refine V (aV (B _) rfl) ?_
  refine RL.nil ?_
  refine CW.condP rfl (fun h7 => ?_) (fun h7 => ?_)
  ·refine SR ?_
   refine V (fA underlying96 2 rfl sizeOf9 rfl) ?_
   refine V (run_ld underlying9 rfl rfl (hH2.cell (i := 0) rfl (v := .string _) rfl)) ?_
   refine V (aV (.string _) rfl) ?_
   refine RL.nil ?_
   refine CW.ret ?_
   refine outP1 Tryz.results64 ?_ hH2.below
   (refine congrArg S ?_; first | (rw [text_eq, nd_kind, if_pos (.inl ‹n.kind = 1›), nd_text]; done) | (rw [text_eq, nd_kind, if_pos (.inr ‹n.kind = 2›), nd_text]; done) | (rw [text_eq, nd_kind, if_neg (by omega), if_pos ‹n.kind = 3›]; rfl) | (rw [text_eq, nd_kind, if_neg (by omega), if_neg (by omega), if_pos ‹n.kind = 4›]; rfl) | (rw [text_eq, nd_kind, if_neg (by omega), if_neg (by omega), if_neg (by omega), if_pos ‹n.kind = 5›]; rfl) | (rw [text_eq, nd_kind, if_neg (by omega), if_neg (by omega), if_neg (by omega), if_neg (by omega), if_pos ‹n.kind = 6›, nd_text]; rfl) | (rw [text_eq, nd_kind, if_neg (by omega), if_neg (by omega), if_neg (by omega), if_neg (by omega), if_neg (by omega)]))
  ·refine SR ?_
   refine V (run_eql rfl rfl) ?_
   refine V (aV (B _) rfl) ?_
   refine RL.nil ?_
   refine CW.condP rfl (fun h9 => ?_) (fun h9 => ?_)
   ·refine SR ?_
    refine V (run_ldA (cs := nodeL _) underlying96 rfl rfl rfl (rangeAt_cells (hH2.blk (i := 0) rfl))) ?_
    refine RL.callP rfl hH2 (c_term_names n htx _ (NodeV.mono hH2.kw hn)) (run_call1 call90 rfl) ?_
    intro w10 hH11
    refine V (run_addS rfl rfl (by have ha := htx.nmT; have hb := htx.kdT; have hc := htx.txT; rw [nd_text] at hc; (try simp only [tx_size_app]); (try simp only [tsz1, tsz2]); omega)) ?_
    refine V (run_addS rfl rfl (by have ha := htx.nmT; have hb := htx.kdT; have hc := htx.txT; rw [nd_text] at hc; (try simp only [tx_size_app]); (try simp only [tsz1, tsz2]); omega)) ?_
    refine V (aV (.string _) rfl) ?_
    refine RL.nil ?_
    refine CW.ret ?_
    refine outP1 Tryz.results64 ?_ hH11.below
    (refine congrArg S ?_; first | (rw [text_eq, nd_kind, if_pos (.inl ‹n.kind = 1›), nd_text]; done) | (rw [text_eq, nd_kind, if_pos (.inr ‹n.kind = 2›), nd_text]; done) | (rw [text_eq, nd_kind, if_neg (by omega), if_pos ‹n.kind = 3›]; rfl) | (rw [text_eq, nd_kind, if_neg (by omega), if_neg (by omega), if_pos ‹n.kind = 4›]; rfl) | (rw [text_eq, nd_kind, if_neg (by omega), if_neg (by omega), if_neg (by omega), if_pos ‹n.kind = 5›]; rfl) | (rw [text_eq, nd_kind, if_neg (by omega), if_neg (by omega), if_neg (by omega), if_neg (by omega), if_pos ‹n.kind = 6›, nd_text]; rfl) | (rw [text_eq, nd_kind, if_neg (by omega), if_neg (by omega), if_neg (by omega), if_neg (by omega), if_neg (by omega)]))
   ·refine SR ?_
    refine V (run_eql rfl rfl) ?_
    refine V (aV (B _) rfl) ?_
    refine RL.nil ?_
    refine CW.condP rfl (fun h13 => ?_) (fun h13 => ?_)
    ·refine SR ?_
     refine V (run_ldA (cs := nodeL _) underlying96 rfl rfl rfl (rangeAt_cells (hH2.blk (i := 0) rfl))) ?_
     refine RL.callP rfl hH2 (c_term_kids n htx _ (NodeV.mono hH2.kw hn) ih) (run_call1 call91 rfl) ?_
     intro w14 hH15
     refine V (run_addS rfl rfl (by have ha := htx.nmT; have hb := htx.kdT; have hc := htx.txT; rw [nd_text] at hc; (try simp only [tx_size_app]); (try simp only [tsz1, tsz2]); omega)) ?_
     refine V (run_addS rfl rfl (by have ha := htx.nmT; have hb := htx.kdT; have hc := htx.txT; rw [nd_text] at hc; (try simp only [tx_size_app]); (try simp only [tsz1, tsz2]); omega)) ?_
     refine V (aV (.string _) rfl) ?_
     refine RL.nil ?_
     refine CW.ret ?_
     refine outP1 Tryz.results64 ?_ hH15.below
     (refine congrArg S ?_; first | (rw [text_eq, nd_kind, if_pos (.inl ‹n.kind = 1›), nd_text]; done) | (rw [text_eq, nd_kind, if_pos (.inr ‹n.kind = 2›), nd_text]; done) | (rw [text_eq, nd_kind, if_neg (by omega), if_pos ‹n.kind = 3›]; rfl) | (rw [text_eq, nd_kind, if_neg (by omega), if_neg (by omega), if_pos ‹n.kind = 4›]; rfl) | (rw [text_eq, nd_kind, if_neg (by omega), if_neg (by omega), if_neg (by omega), if_pos ‹n.kind = 5›]; rfl) | (rw [text_eq, nd_kind, if_neg (by omega), if_neg (by omega), if_neg (by omega), if_neg (by omega), if_pos ‹n.kind = 6›, nd_text]; rfl) | (rw [text_eq, nd_kind, if_neg (by omega), if_neg (by omega), if_neg (by omega), if_neg (by omega), if_neg (by omega)]))
    ·refine SR ?_
     refine V (run_eql rfl rfl) ?_
     refine V (aV (B _) rfl) ?_
     refine RL.nil ?_
     refine CW.condP rfl (fun h17 => ?_) (fun h17 => ?_)
     ·refine SR ?_
      refine V (run_ldA (cs := nodeL _) underlying96 rfl rfl rfl (rangeAt_cells (hH2.blk (i := 0) rfl))) ?_
      refine RL.callP rfl hH2 (c_term_kids n htx _ (NodeV.mono hH2.kw hn) ih) (run_call1 call91 rfl) ?_
      intro w18 hH19
      refine V (run_addS rfl rfl (by have ha := htx.nmT; have hb := htx.kdT; have hc := htx.txT; rw [nd_text] at hc; (try simp only [tx_size_app]); (try simp only [tsz1, tsz2]); omega)) ?_
      refine V (run_addS rfl rfl (by have ha := htx.nmT; have hb := htx.kdT; have hc := htx.txT; rw [nd_text] at hc; (try simp only [tx_size_app]); (try simp only [tsz1, tsz2]); omega)) ?_
      refine V (aV (.string _) rfl) ?_
      refine RL.nil ?_
      refine CW.ret ?_
      refine outP1 Tryz.results64 ?_ hH19.below
      (refine congrArg S ?_; first | (rw [text_eq, nd_kind, if_pos (.inl ‹n.kind = 1›), nd_text]; done) | (rw [text_eq, nd_kind, if_pos (.inr ‹n.kind = 2›), nd_text]; done) | (rw [text_eq, nd_kind, if_neg (by omega), if_pos ‹n.kind = 3›]; rfl) | (rw [text_eq, nd_kind, if_neg (by omega), if_neg (by omega), if_pos ‹n.kind = 4›]; rfl) | (rw [text_eq, nd_kind, if_neg (by omega), if_neg (by omega), if_neg (by omega), if_pos ‹n.kind = 5›]; rfl) | (rw [text_eq, nd_kind, if_neg (by omega), if_neg (by omega), if_neg (by omega), if_neg (by omega), if_pos ‹n.kind = 6›, nd_text]; rfl) | (rw [text_eq, nd_kind, if_neg (by omega), if_neg (by omega), if_neg (by omega), if_neg (by omega), if_neg (by omega)]))
     ·refine SR ?_
      refine V (run_eql rfl rfl) ?_
      refine V (aV (B _) rfl) ?_
      refine RL.nil ?_
      refine CW.condP rfl (fun h21 => ?_) (fun h21 => ?_)
      ·refine CW.seq ?_
       refine CW.regionD (by kernel_rfl) hH2 ?_
       intro w22 hH23
       refine AT 0 rfl (hH23.sub sR) (fun w hS => fA underlying96 2 rfl sizeOf9 rfl) ?_
       refine AT 1 rfl (hH23.sub sR) (fun w hS => run_ld underlying9 rfl rfl (hS.cell (i := 0) rfl (v := .string _) rfl)) ?_
       refine AT 2 rfl (hH23.sub sR) (fun w hS => run_addS rfl rfl (by have ha := htx.nmT; have hb := htx.kdT; have hc := htx.txT; rw [nd_text] at hc; (try simp only [tx_size_app]); (try simp only [tsz1, tsz2]); omega)) ?_
       refine AT 3 rfl (hH23.sub sR) (fun w hS => run_ldA (cs := nodeL _) underlying96 rfl rfl rfl (rangeAt_cells (hS.blk (i := 0) rfl))) ?_
       refine A1 4 ?_
       refine AO.callP rfl gnone rfl hH23 sR (c_term_names n htx _ (NodeV.mono hH23.kw hn)) (run_call1 call90 rfl) ?_
       intro w24 hH25
       refine AT 5 rfl (hH25.sub sR) (fun w hS => run_addS rfl rfl (by have ha := htx.nmT; have hb := htx.kdT; have hc := htx.txT; rw [nd_text] at hc; (try simp only [tx_size_app]); (try simp only [tsz1, tsz2]); omega)) ?_
       refine AT 6 rfl (hH25.sub sR) (fun w hS => run_addS rfl rfl (by have ha := htx.nmT; have hb := htx.kdT; have hc := htx.txT; rw [nd_text] at hc; (try simp only [tx_size_app]); (try simp only [tsz1, tsz2]); omega)) ?_
       refine AT 7 rfl (hH25.sub sR) (fun w hS => aV (.string _) rfl) ?_
       refine AD ?_
       refine CW.ret ?_
       refine outP1 Tryz.results64 ?_ hH25.below
       (refine congrArg S ?_; first | (rw [text_eq, nd_kind, if_pos (.inl ‹n.kind = 1›), nd_text]; done) | (rw [text_eq, nd_kind, if_pos (.inr ‹n.kind = 2›), nd_text]; done) | (rw [text_eq, nd_kind, if_neg (by omega), if_pos ‹n.kind = 3›]; rfl) | (rw [text_eq, nd_kind, if_neg (by omega), if_neg (by omega), if_pos ‹n.kind = 4›]; rfl) | (rw [text_eq, nd_kind, if_neg (by omega), if_neg (by omega), if_neg (by omega), if_pos ‹n.kind = 5›]; rfl) | (rw [text_eq, nd_kind, if_neg (by omega), if_neg (by omega), if_neg (by omega), if_neg (by omega), if_pos ‹n.kind = 6›, nd_text]; rfl) | (rw [text_eq, nd_kind, if_neg (by omega), if_neg (by omega), if_neg (by omega), if_neg (by omega), if_neg (by omega)]))
      ·refine SR ?_
       refine V (run_eql rfl rfl) ?_
       refine V (aV (B _) rfl) ?_
       refine RL.nil ?_
       refine CW.condF (bF ((by omega))) ?_
       refine SR ?_
       refine V (run_eql rfl rfl) ?_
       refine V (aV (B _) rfl) ?_
       refine RL.nil ?_
       refine CW.condF (bF ((by omega))) ?_
       refine SR ?_
       refine V (run_eql rfl rfl) ?_
       refine V (aV (B _) rfl) ?_
       refine RL.nil ?_
       refine CW.condF (bF ((by omega))) ?_
       refine SR ?_
       refine V (run_eql rfl rfl) ?_
       refine V (aV (B _) rfl) ?_
       refine RL.nil ?_
       refine CW.condF (bF ((by omega))) ?_
       refine SR ?_
       refine V (run_eql rfl rfl) ?_
       refine V (aV (B _) rfl) ?_
       refine RL.nil ?_
       refine CW.condF (bF ((by omega))) ?_
       refine CW.skip ?_
       refine SR ?_
       refine V (aV (.string ⟨#[]⟩) rfl) ?_
       refine RL.nil ?_
       refine CW.ret ?_
       refine outP1 Tryz.results64 ?_ hH2.below
       (refine congrArg S ?_; first | (rw [text_eq, nd_kind, if_pos (.inl ‹n.kind = 1›), nd_text]; done) | (rw [text_eq, nd_kind, if_pos (.inr ‹n.kind = 2›), nd_text]; done) | (rw [text_eq, nd_kind, if_neg (by omega), if_pos ‹n.kind = 3›]; rfl) | (rw [text_eq, nd_kind, if_neg (by omega), if_neg (by omega), if_pos ‹n.kind = 4›]; rfl) | (rw [text_eq, nd_kind, if_neg (by omega), if_neg (by omega), if_neg (by omega), if_pos ‹n.kind = 5›]; rfl) | (rw [text_eq, nd_kind, if_neg (by omega), if_neg (by omega), if_neg (by omega), if_neg (by omega), if_pos ‹n.kind = 6›, nd_text]; rfl) | (rw [text_eq, nd_kind, if_neg (by omega), if_neg (by omega), if_neg (by omega), if_neg (by omega), if_neg (by omega)]))
theorem c_term_Text (n : NodeR) : TxN n.nd → ∀ w, NodeV (Kw w) n → Calls Tryz.prog 64 #[.agg (nodeL n).toArray] w (Pure (S (textF n.nd)) w) := node_ind (C := fun n => TxN n.nd → ∀ w, NodeV (Kw w) n → Calls Tryz.prog 64 #[.agg (nodeL n).toArray] w (Pure (S (textF n.nd)) w)) (fun n ih htx w hn => s_text n htx w hn ih) n

theorem c_spell_Text (s : Shp) (e : El) (w : World) (hs : ShpV (Kw w) s) (hT : Tab w) : Calls Tryz.prog 33 #[.agg (shpC s), .agg (elC e)] w (Pure (S (spellF s.sh e)) w) := by
 refine enter Tryz.func33 rfl Tryz.ntmps33 rfl ?_
 have hH := Hp.start w
 refine SR ?_
 refine RL.new rfl hH (f := fun b => (.pointer (some ⟨b, 0, none⟩))) (run_box (v := .agg _) rfl) ?_
 intro b3 w1 hH2
 refine RL.new rfl hH2 (f := fun b => (.pointer (some ⟨b, 0, none⟩))) (run_box (v := .agg _) rfl) ?_
 intro b6 w4 hH5
 refine V (aV (.string ⟨#[]⟩) rfl) ?_
 refine RL.nil ?_
 refine SR ?_
 refine V (run_ldA (cs := [B _, _]) underlying42 rfl rfl rfl (rangeAt_cells (hH5.blk (i := 1) rfl))) ?_
 refine V (run_ldEl underlying51 rfl rfl rfl (hH5.blk (i := 0) rfl)) ?_
 refine RL.callF rfl hH5 (c_spell_Node (Kw w) s e _ hH5.kw hs (hT.hp hH5)) (run_call2 call65 rfl rfl) ?_
 intro v9 w10 Z12 hH11 hp13
 have hH14 : Hp _ w10 (_ :: _ :: Z12) := hH11.zin0 (L := [_, _])
 obtain ⟨n15, rfl, nd16, nv17⟩ := hp13
 refine RL.callP rfl hH14 (c_term_Text n15 (by rw [nd16]; exact node_tx _ _) _ (NodeV.mono (hH14.kz (Le.refl _) (fun x hx => (mT (mT hx)))) nv17)) (run_call1 call64 rfl) ?_
 intro w18 hH19
 refine V (run_addS rfl rfl (by rw [nd16]; have hq := (node_tx s.sh e).text; (try simp only [tx_size_app]); (try simp only [tsz1, tsz2, *]); omega)) ?_
 refine V (aV (.string _) rfl) ?_
 refine RL.nil ?_
 refine CW.ret ?_
 refine outP1 Tryz.results33 ?_ hH19.below
 (rw [nd16]; rfl)

theorem c_assign_place (v : Value) (l : List ValR) (f : Tx) (w : World) (hs : Sl w v 9 l.length (l.flatMap valL)) : Calls Tryz.prog 51 #[v, S f] w (Pure (I (vfind l f)) w) := by
 have hm := hs.small
 unfold maxLen at hm
 refine enter Tryz.func51 rfl Tryz.ntmps51 rfl ?_
 have hH := Hp.start w
 refine SR ?_
 refine V (aV (I 0) rfl) ?_
 refine RL.nil ?_
 refine CW.seq ?_
 refine SR ?_
 refine V (run_move (by conv => lhs; whnf)) ?_
 refine V (run_lenSl (hs.hp hH) rfl underlying48 rfl) ?_
 refine V (mV (I 0) rfl) ?_
 refine RL.nil ?_
 refine CW.block ?_
 refine CW.loop (G := (Int)) (fun (k : Int) s' w' => (Fr [4, 5, 8, 9, 10, 11, 12, 13, 14, 15, 16, 17, 18, 19] _ s') ∧ (Hp w w' _) ∧ (s' 8 = I k) ∧ (0 ≤ k) ∧ (k ≤ l.length) ∧ (∀ j : Int, 0 ≤ j → j < k → decide ((l.getD j.toNat val0).name = f) = false)) (fun (k : Int) => (l.length - k).toNat) (0) ⟨Fr.refl _ _, hH, rfl, (by omega), (by omega), fun j a b => absurd b (by omega)⟩ ?_
 rintro k sg1 w1 ⟨fr1, hH1, e8_1, h0, hk, hg⟩
 have e0_1 := (fr1 0 rfl).trans (by conv => lhs; whnf)
 have e1_1 : sg1 1 = .string _ := (fr1 1 rfl).trans rfl
 have e7_1 : sg1 7 = I _ := (fr1 7 rfl).trans rfl
 refine SR ?_
 refine V (run_lss e8_1 e7_1) ?_
 refine RL.nil ?_
 refine CW.seq ?_
 refine CW.condP rfl (fun h3 => ?_) (fun h3 => ?_)
 ·refine CW.skip ?_
  refine CW.seq ?_
  refine CW.block ?_
  refine SR ?_
  refine V (run_move e8_1) ?_
  refine V (aV (I _) rfl) ?_
  refine RL.nil ?_
  refine SR ?_
  refine V (run_move e0_1) ?_
  refine V (mV (I _) rfl) ?_
  refine V (run_indexAddrS (hs.hp hH1) underlying48 sizeOf53 rfl rfl (by omega)) ?_
  refine V (fA underlying53 0 rfl sizeOf9 rfl) ?_
  refine V (run_ldE1 (dv := val0) (off := 0) valL_len (hs.hp hH1) underlying9 rfl rfl (by omega) rfl) ?_
  refine V (run_move e1_1) ?_
  refine V (run_eqlS rfl rfl) ?_
  refine RL.nil ?_
  refine CW.condP rfl (fun h5 => ?_) (fun h5 => ?_)
  ·refine SR ?_
   refine V (mV (I _) rfl) ?_
   refine V (aV (I _) rfl) ?_
   refine RL.nil ?_
   refine CW.ret ?_
   refine outP1 Tryz.results51 (congrArg I ?_) hH1.below
   first | exact (find_yes h0 ‹_› (decide_eq_true ‹_›) hg).symm | exact (find_no fun j a b => hg j a (by omega)).symm
  ·refine CW.skip ?_
   refine CW.region ?_
   refine V (run_add e8_1 rfl (by omega)) ?_
   refine V (mV (I _) rfl) ?_
   refine RL.nil ?_
   refine ⟨k + 1, ?_, fr1.u4.u4.u4, hH1, (congrArg I (by first | rfl | omega)), ?_, ?_, ?_⟩
   ·((try dsimp only); omega)
   ·omega
   ·omega
   ·exact fun j a b => if e : j = k then e ▸ decide_eq_false ‹_› else hg j a (by omega)
 ·refine CW.exit (id := 0) rfl ?_
  refine SR ?_
  refine V (aV (I (-1)) rfl) ?_
  refine RL.nil ?_
  refine CW.ret ?_
  refine outP1 Tryz.results51 (congrArg I ?_) hH1.below
  first | exact (find_yes h0 ‹_› (decide_eq_true ‹_›) hg).symm | exact (find_no fun j a b => hg j a (by omega)).symm

theorem c_assign_Get (v : Value) (l : List ValR) (f : Tx) (w : World) (hs : Sl w v 9 l.length (l.flatMap valL)) : Calls Tryz.prog 69 #[v, S f] w (Pure (.tuple #[.agg (elC (getF l f).1), B (getF l f).2]) w) := by
 have hm := hs.small
 unfold maxLen at hm
 have hvi := @vfind_in l f
 refine enter Tryz.func69 rfl Tryz.ntmps69 rfl ?_
 have hH := Hp.start w
 refine SR ?_
 refine RL.new rfl hH (f := fun b => (.pointer (some ⟨b, 0, none⟩))) (run_alloc zero_el) ?_
 intro b3 w1 hH2
 refine V (aV (B false) rfl) ?_
 refine RL.nil ?_
 refine SR ?_
 refine V (run_move (by conv => lhs; whnf)) ?_
 refine V (mV (.string _) rfl) ?_
 refine RL.callP rfl hH2 (c_assign_place _ _ _  _ (hs.hp hH2)) (run_call2 call51 rfl rfl) ?_
 intro w4 hH5
 refine V (aV (I _) rfl) ?_
 refine RL.nil ?_
 refine CW.seq ?_
 refine SR ?_
 refine V (mV (I _) rfl) ?_
 refine V (run_lss rfl rfl) ?_
 refine RL.nil ?_
 refine CW.condP rfl (fun h7 => ?_) (fun h7 => ?_)
 ·refine SR ?_
  refine V (run_bld (vs := []) rfl (built_el0)) ?_
  refine RL.set hH5 (i := 0) rfl (run_stEl rfl rfl rfl (hH5.blk (i := 0) rfl)) ?_
  intro w8 hH9
  simp only [z0, z1] at hH9
  refine V (aV (B false) rfl) ?_
  refine RL.nil ?_
  refine CW.ret ?_
  refine outCT Tryz.results69 rfl rfl hH9 (i := 0) rfl underlying51 rfl (by rw [elC_size]; rfl) ⟨?_, hH9.below⟩
  first | exact get_tn ‹_› | exact get_ty ‹_›
 ·refine CW.skip ?_
  refine SR ?_
  refine V (run_move (by conv => lhs; whnf)) ?_
  refine V (mV (I _) rfl) ?_
  refine V (run_indexAddrS (hs.hp hH5) underlying48 sizeOf53 rfl rfl (by (have := hvi ‹_›; omega))) ?_
  refine V (fA underlying53 1 rfl sizeOf51 rfl) ?_
  refine V (run_ldVE (hs.hp hH5) underlying51 rfl rfl rfl (by (have := hvi ‹_›; omega))) ?_
  refine RL.set hH5 (i := 0) rfl (run_stEl rfl rfl rfl (hH5.blk (i := 0) rfl)) ?_
  intro w10 hH11
  simp only [z0, z1] at hH11
  refine V (aV (B true) rfl) ?_
  refine RL.nil ?_
  refine CW.ret ?_
  refine outCT Tryz.results69 rfl rfl hH11 (i := 0) rfl underlying51 rfl (by rw [elC_size]; rfl) ⟨?_, hH11.below⟩
  first | exact get_tn ‹_› | exact get_ty ‹_›

theorem c_clearanceref18_Get (v : Value) (l : List ValR) (f : Tx) (w : World) (hs : Sl w v 9 l.length (l.flatMap valL)) : Calls Tryz.prog 43 #[v, S f] w (Pure (.tuple #[.agg (elC (getF l f).1), B (getF l f).2]) w) := by
 have hm := hs.small
 unfold maxLen at hm
 refine enter Tryz.func43 rfl Tryz.ntmps43 rfl ?_
 have hH := Hp.start w
 refine SR ?_
 refine RL.new rfl hH (f := fun b => (.pointer (some ⟨b, 0, none⟩))) (run_alloc zero_el) ?_
 intro b3 w1 hH2
 refine V (aV (B false) rfl) ?_
 refine RL.nil ?_
 refine CW.seq ?_
 refine SR ?_
 refine V (aV (I 0) rfl) ?_
 refine RL.nil ?_
 refine CW.block ?_
 refine CW.loop (G := (Int)) (fun (k : Int) s' w' => (Fr [5, 6, 7, 8, 9, 10, 11, 12, 13, 14, 15, 16, 17, 18, 19, 20, 21, 22, 23, 24] _ s') ∧ (Hp w w' _) ∧ (s' 6 = I k) ∧ (0 ≤ k) ∧ (k ≤ l.length) ∧ (∀ j : Int, 0 ≤ j → j < k → decide ((l.getD j.toNat val0).name = f) = false)) (fun (k : Int) => (l.length - k).toNat) (0) ⟨Fr.refl _ _, hH2, rfl, (by omega), (by omega), fun j a b => absurd b (by omega)⟩ ?_
 rintro k sg4 w4 ⟨fr4, hH4, e6_4, h0, hk, hg⟩
 have e0_4 := (fr4 0 rfl).trans (by conv => lhs; whnf)
 have e1_4 : sg4 1 = .string _ := (fr4 1 rfl).trans rfl
 have e4_4 : sg4 4 = Pn _ _ := (fr4 4 rfl).trans rfl
 refine CW.seq ?_
 refine SR ?_
 refine V (run_move e6_4) ?_
 refine V (run_move e0_4) ?_
 refine V (run_lenSl (hs.hp hH4) rfl underlying48 rfl) ?_
 refine V (run_lss rfl rfl) ?_
 refine RL.nil ?_
 refine CW.condP rfl (fun h6 => ?_) (fun h6 => ?_)
 ·refine CW.skip ?_
  refine CW.seq ?_
  refine CW.block ?_
  refine SR ?_
  refine V (run_move e0_4) ?_
  refine V (run_move e6_4) ?_
  refine V (run_indexAddrS (hs.hp hH4) underlying48 sizeOf53 rfl rfl (by omega)) ?_
  refine V (fA underlying53 0 rfl sizeOf9 rfl) ?_
  refine V (run_ldE1 (dv := val0) (off := 0) valL_len (hs.hp hH4) underlying9 rfl rfl (by omega) rfl) ?_
  refine V (run_move e1_4) ?_
  refine V (run_eqlS rfl rfl) ?_
  refine RL.nil ?_
  refine CW.condP rfl (fun h8 => ?_) (fun h8 => ?_)
  ·refine SR ?_
   refine V (run_move e0_4) ?_
   refine V (run_move e6_4) ?_
   refine V (run_indexAddrS (hs.hp hH4) underlying48 sizeOf53 rfl rfl (by omega)) ?_
   refine V (fA underlying53 1 rfl sizeOf51 rfl) ?_
   refine V (run_ldVE (hs.hp hH4) underlying51 rfl rfl rfl (by omega)) ?_
   refine RL.set hH4 (i := 0) rfl (run_stEl rfl e4_4 rfl (hH4.blk (i := 0) rfl)) ?_
   intro w9 hH10
   simp only [z0, z1] at hH10
   refine V (aV (B true) rfl) ?_
   refine RL.nil ?_
   refine CW.ret ?_
   refine outCT Tryz.results43 e4_4 rfl hH10 (i := 0) rfl underlying51 rfl (by rw [elC_size]; rfl) ⟨?_, hH10.below⟩
   first | exact get_tk h0 (find_yes h0 ‹k < _› (decide_eq_true ‹_›) hg) | exact get_tn (by rw [vfind, find_no fun j a b => hg j a (by omega)]; decide)
  ·refine CW.skip ?_
   refine CW.region ?_
   refine V (run_move e6_4) ?_
   refine V (run_add rfl rfl (by omega)) ?_
   refine V (aV (I _) rfl) ?_
   refine RL.nil ?_
   refine ⟨k + 1, ?_, fr4.u4.u4.u4.u1.u1, hH4, (congrArg I (by first | rfl | omega)), ?_, ?_, ?_⟩
   ·((try dsimp only); omega)
   ·omega
   ·omega
   ·exact fun j a b => if e : j = k then e ▸ decide_eq_false ‹_› else hg j a (by omega)
 ·refine CW.exit (id := 0) rfl ?_
  refine SR ?_
  refine V (run_bld (vs := []) rfl (built_el0)) ?_
  refine RL.set hH4 (i := 0) rfl (run_stEl rfl e4_4 rfl (hH4.blk (i := 0) rfl)) ?_
  intro w11 hH12
  simp only [z0, z1] at hH12
  refine V (aV (B false) rfl) ?_
  refine RL.nil ?_
  refine CW.ret ?_
  refine outCT Tryz.results43 e4_4 rfl hH12 (i := 0) rfl underlying51 rfl (by rw [elC_size]; rfl) ⟨?_, hH12.below⟩
  first | exact get_tk h0 (find_yes h0 ‹k < _› (decide_eq_true ‹_›) hg) | exact get_tn (by rw [vfind, find_no fun j a b => hg j a (by omega)]; decide)

theorem c_name_Less (a b : Tx) (w : World) : Calls Tryz.prog 52 #[S a, S b] w (Pure (B (lessT a b)) w) := by
 refine enter Tryz.func52 rfl Tryz.ntmps52 rfl ?_
 have hH := Hp.start w
 refine SR ?_
 refine V (aV (B false) rfl) ?_
 refine RL.nil ?_
 refine SR ?_
 refine V (mV (.string _) rfl) ?_
 refine V (mV (.string _) rfl) ?_
 refine V (run_lssS rfl rfl) ?_
 refine V (aV (B _) rfl) ?_
 refine RL.nil ?_
 refine CW.ret ?_
 refine outP1 Tryz.results52 (congrArg B ?_) hH.below
 rfl

theorem c_assign_ordered (v : Value) (l : List ValR) (w : World) (hs : Sl w v 9 l.length (l.flatMap valL)) : Calls Tryz.prog 25 #[v] w (Pure (B (orderedF l)) w) := by
 have hm := hs.small
 unfold maxLen at hm
 refine enter Tryz.func25 rfl Tryz.ntmps25 rfl ?_
 have hH := Hp.start w
 refine SR ?_
 refine V (aV (B false) rfl) ?_
 refine RL.nil ?_
 refine CW.seq ?_
 refine SR ?_
 refine V (run_move (by conv => lhs; whnf)) ?_
 refine V (run_lenSl (hs.hp hH) rfl underlying48 rfl) ?_
 refine V (mV (I 0) rfl) ?_
 refine RL.nil ?_
 refine CW.block ?_
 refine CW.loop (G := (Int)) (fun (k : Int) s' w' => (Fr [2, 3, 4, 7, 8, 9, 10, 11, 12, 13, 14, 15, 16, 17, 18, 19, 20, 21, 22, 23, 24, 25, 26, 27, 28, 29, 30, 31, 32] _ s') ∧ (Hp w w' _) ∧ (s' 7 = I k) ∧ (0 ≤ k) ∧ (k ≤ l.length) ∧ (∀ j : Int, 0 ≤ j → j < k → (nameR (l.getD j.toNat val0).name && (decide (j ≤ 0) || lessT (l.getD (j - 1).toNat val0).name (l.getD j.toNat val0).name)) = true)) (fun (k : Int) => (l.length - k).toNat) (0) ⟨Fr.refl _ _, hH, rfl, (by omega), (by omega), fun j a b => absurd b (by omega)⟩ ?_
 rintro k sg1 w1 ⟨fr1, hH1, e7_1, h0, hk, hg⟩
 have e0_1 := (fr1 0 rfl).trans (by conv => lhs; whnf)
 have e5_1 := (fr1 5 rfl).trans (by conv => lhs; whnf)
 have e6_1 : sg1 6 = I _ := (fr1 6 rfl).trans rfl
 refine SR ?_
 refine V (run_lss e7_1 e6_1) ?_
 refine RL.nil ?_
 refine CW.seq ?_
 refine CW.condP rfl (fun h3 => ?_) (fun h3 => ?_)
 ·refine CW.skip ?_
  refine CW.seq ?_
  refine CW.block ?_
  refine SR ?_
  refine V (run_move e7_1) ?_
  refine V (run_indexAddrS (hs.hp hH1) underlying48 sizeOf53 e5_1 e7_1 (by omega)) ?_
  refine V (run_ldE (dv := val0) valL_len (hs.hp hH1) underlying53 rfl rfl rfl (by omega)) ?_
  refine RL.new rfl hH1 (f := fun b => (.pointer (some ⟨b, 0, none⟩))) (run_alloc zero_val) ?_
  intro b6 w4 hH5
  refine V (aV (I _) rfl) ?_
  refine RL.set hH5 (i := 0) rfl (run_stW (c' := (valL _).toArray) rfl rfl rfl (valL_one _) (hH5.blk (i := 0) rfl) rfl) ?_
  intro w7 hH8
  simp only [z0, z1] at hH8
  refine RL.nil ?_
  refine CW.seq ?_
  refine CW.regionD (by kernel_rfl) hH8 ?_
  intro w9 hH10
  refine AT 0 rfl (hH10.sub sR) (fun w hS => fA underlying53 0 rfl sizeOf9 rfl) ?_
  refine AT 1 rfl (hH10.sub sR) (fun w hS => run_ld underlying9 rfl rfl (hS.cell (i := 0) rfl (v := .string _) rfl)) ?_
  refine A1 2 ?_
  refine AO.callP rfl gnone rfl hH10 sR (c_name_Right _  _) (run_call1 call55 rfl) ?_
  intro w11 hH12
  refine AT 3 rfl (hH12.sub sR) (fun w hS => run_not rfl) ?_
  refine AT 4 rfl (hH12.sub sR) (fun w hS => mV (B _) rfl) ?_
  refine AN.split (dj := 16) rfl (fun h15 => ?_) (fun h15 => ?_)
  ·refine AK 5 rfl rfl (bR (c := true) h15) (hH12.sub sR) ?_
   refine AK 6 rfl rfl (bR (c := true) h15) (hH12.sub sR) ?_
   refine AK 7 rfl rfl (bR (c := true) h15) (hH12.sub sR) ?_
   refine AU 8 rfl rfl rfl (hH12.sub sR) ?_
   refine AU 9 rfl rfl rfl (hH12.sub sR) ?_
   refine AU 10 rfl rfl rfl (hH12.sub sR) ?_
   refine AU 11 rfl rfl rfl (hH12.sub sR) ?_
   refine AU 12 rfl rfl rfl (hH12.sub sR) ?_
   refine AU 13 rfl rfl rfl (hH12.sub sR) ?_
   refine AU 14 rfl rfl rfl (hH12.sub sR) ?_
   refine AU 15 rfl rfl rfl (hH12.sub sR) ?_
   refine AU 16 rfl rfl rfl (hH12.sub sR) ?_
   refine AU 17 rfl rfl rfl (hH12.sub sR) ?_
   refine AK 18 rfl rfl (bR (c := true) h15) (hH12.sub sR) ?_
   refine AT 19 rfl (hH12.sub sR) (fun w hS => run_pickT (bR (c := true) h15) (v := B true) rfl) ?_
   refine AD ?_
   refine CW.condT rfl ?_
   refine SR ?_
   refine V (aV (B false) rfl) ?_
   refine RL.nil ?_
   refine CW.ret ?_
   refine outP1 Tryz.results25 (congrArg B ?_) hH12.below
   first | exact (ordered_no1 h0 ‹k < _› (nt ‹(!nameR _) = true›)).symm | exact (ordered_no2 h0 ‹k < _› ‹0 < k› (nt ‹(!lessT _ _) = true›)).symm | exact (ordered_yes ‹¬ k < _› hg).symm
  ·refine AG 5 rfl rfl (bR (c := false) h15) (hH12.sub sR) (fun w hS => mV (I _) rfl) ?_
   refine AG 6 rfl rfl (bR (c := false) h15) (hH12.sub sR) (fun w hS => run_gtr rfl rfl) ?_
   refine AG 7 rfl rfl (bR (c := false) h15) (hH12.sub sR) (fun w hS => mV (B _) rfl) ?_
   refine AN.splitP (dj := 19) rfl (fun h17 => ?_) (fun h17 => ?_)
   ·refine AG 8 rfl rfl (bT h17) (hH12.sub sR) (fun w hS => run_move e0_1) ?_
    refine AG 9 rfl rfl (bT h17) (hH12.sub sR) (fun w hS => mV (I _) rfl) ?_
    refine AG 10 rfl rfl (bT h17) (hH12.sub sR) (fun w hS => run_sub rfl rfl (by omega)) ?_
    refine AG 11 rfl rfl (bT h17) (hH12.sub sR) (fun w hS => run_indexAddrS (hs.hp hS) underlying48 sizeOf53 rfl rfl (by omega)) ?_
    refine AG 12 rfl rfl (bT h17) (hH12.sub sR) (fun w hS => fA underlying53 0 rfl sizeOf9 rfl) ?_
    refine AG 13 rfl rfl (bT h17) (hH12.sub sR) (fun w hS => run_ldE1 (dv := val0) (off := 0) valL_len (hs.hp hS) underlying9 rfl rfl (by omega) rfl) ?_
    refine AG 14 rfl rfl (bT h17) (hH12.sub sR) (fun w hS => fA underlying53 0 rfl sizeOf9 rfl) ?_
    refine AG 15 rfl rfl (bT h17) (hH12.sub sR) (fun w hS => run_ld underlying9 rfl rfl (hS.cell (i := 0) rfl (v := .string _) rfl)) ?_
    refine A1 16 ?_
    refine AO.callP rfl (gsome rfl (bT h17)) rfl hH12 sR (c_name_Less _ _  _) (run_call2 call52 rfl rfl) ?_
    intro w18 hH19
    refine AG 17 rfl rfl (bT h17) (hH19.sub sR) (fun w hS => run_not rfl) ?_
    refine AG 18 rfl rfl (bR (c := false) h15) (hH19.sub sR) (fun w hS => run_pickT (bT h17) (v := B _) rfl) ?_
    refine AT 19 rfl (hH19.sub sR) (fun w hS => run_pickF (bR (c := false) h15) (v := B _) rfl) ?_
    refine AD ?_
    refine CW.cond rfl (fun h22 => ?_) (fun h22 => ?_)
    ·refine SR ?_
     refine V (aV (B false) rfl) ?_
     refine RL.nil ?_
     refine CW.ret ?_
     refine outP1 Tryz.results25 (congrArg B ?_) hH19.below
     first | exact (ordered_no1 h0 ‹k < _› (nt ‹(!nameR _) = true›)).symm | exact (ordered_no2 h0 ‹k < _› ‹0 < k› (nt ‹(!lessT _ _) = true›)).symm | exact (ordered_yes ‹¬ k < _› hg).symm
    ·refine CW.skip ?_
     refine CW.region ?_
     refine V (run_add e7_1 rfl (by omega)) ?_
     refine V (mV (I _) rfl) ?_
     refine RL.nil ?_
     refine ⟨k + 1, ?_, fr1.u4.u4.u4.u4.u4.u4.u4, (hH19.sub (sQ sR)), (congrArg I (by first | rfl | omega)), ?_, ?_, ?_⟩
     ·((try dsimp only); omega)
     ·omega
     ·omega
     ·exact fun j a b => if e : j = k then e ▸ (by first | exact ord_y1 (nf ‹_›) ‹¬ 0 < k› | exact ord_y2 (nf ‹(!nameR _) = false›) (nf ‹(!lessT _ _) = false›)) else hg j a (by omega)
   ·refine AK 8 rfl rfl (bF h17) (hH12.sub sR) ?_
    refine AK 9 rfl rfl (bF h17) (hH12.sub sR) ?_
    refine AK 10 rfl rfl (bF h17) (hH12.sub sR) ?_
    refine AK 11 rfl rfl (bF h17) (hH12.sub sR) ?_
    refine AK 12 rfl rfl (bF h17) (hH12.sub sR) ?_
    refine AK 13 rfl rfl (bF h17) (hH12.sub sR) ?_
    refine AK 14 rfl rfl (bF h17) (hH12.sub sR) ?_
    refine AK 15 rfl rfl (bF h17) (hH12.sub sR) ?_
    refine AK 16 rfl rfl (bF h17) (hH12.sub sR) ?_
    refine AK 17 rfl rfl (bF h17) (hH12.sub sR) ?_
    refine AG 18 rfl rfl (bR (c := false) h15) (hH12.sub sR) (fun w hS => run_pickF (bF h17) (v := B false) rfl) ?_
    refine AT 19 rfl (hH12.sub sR) (fun w hS => run_pickF (bR (c := false) h15) (v := B _) rfl) ?_
    refine AD ?_
    refine CW.condF rfl ?_
    refine CW.skip ?_
    refine CW.region ?_
    refine V (run_add e7_1 rfl (by omega)) ?_
    refine V (mV (I _) rfl) ?_
    refine RL.nil ?_
    refine ⟨k + 1, ?_, fr1.u4.u4.u4.u4.u4.u4.u4, (hH12.sub (sQ sR)), (congrArg I (by first | rfl | omega)), ?_, ?_, ?_⟩
    ·((try dsimp only); omega)
    ·omega
    ·omega
    ·exact fun j a b => if e : j = k then e ▸ (by first | exact ord_y1 (nf ‹_›) ‹¬ 0 < k› | exact ord_y2 (nf ‹(!nameR _) = false›) (nf ‹(!lessT _ _) = false›)) else hg j a (by omega)
 ·refine CW.exit (id := 0) rfl ?_
  refine SR ?_
  refine V (aV (B true) rfl) ?_
  refine RL.nil ?_
  refine CW.ret ?_
  refine outP1 Tryz.results25 (congrArg B ?_) hH1.below
  first | exact (ordered_no1 h0 ‹k < _› (nt ‹(!nameR _) = true›)).symm | exact (ordered_no2 h0 ‹k < _› ‹0 < k› (nt ‹(!lessT _ _) = true›)).symm | exact (ordered_yes ‹¬ k < _› hg).symm

theorem c_assign_fits (s : Shp) (v : Value) (l : List ValR) (w : World) (hs : Sl w v 9 l.length (l.flatMap valL)) (hsh : ShpV (Kw w) s) (hT : Tab w) : Calls Tryz.prog 26 #[.agg (shpC s), v] w (Pure (B (fitsF s.sh l)) w) := by
 have hm := hs.small
 unfold maxLen at hm
 refine enter Tryz.func26 rfl Tryz.ntmps26 rfl ?_
 have hH := Hp.start w
 refine SR ?_
 refine RL.new rfl hH (f := fun b => (.pointer (some ⟨b, 0, none⟩))) (run_box (v := .agg _) rfl) ?_
 intro b3 w1 hH2
 refine V (aV (B false) rfl) ?_
 refine RL.nil ?_
 refine CW.seq ?_
 refine SR ?_
 refine V (run_move (by conv => lhs; whnf)) ?_
 refine V (run_lenSl (hs.hp hH2) rfl underlying48 rfl) ?_
 refine V (mV (I 0) rfl) ?_
 refine RL.nil ?_
 refine CW.block ?_
 refine CW.loop (G := (Int)) (fun (k : Int) s' w' => (Fr [4, 6, 9, 10, 11, 12, 13, 14, 15, 16, 17, 18] _ s') ∧ (Hp w w' _) ∧ (s' 9 = I k) ∧ (0 ≤ k) ∧ (k ≤ l.length) ∧ (∀ j : Int, 0 ≤ j → j < k → fitsS s.sh (l.getD j.toNat val0).el = true)) (fun (k : Int) => (l.length - k).toNat) (0) ⟨Fr.refl _ _, hH2, rfl, (by omega), (by omega), fun j a b => absurd b (by omega)⟩ ?_
 rintro k sg4 w4 ⟨fr4, hH4, e9_4, h0, hk, hg⟩
 have e2_4 : sg4 2 = Pn _ _ := (fr4 2 rfl).trans rfl
 have e7_4 := (fr4 7 rfl).trans (by conv => lhs; whnf)
 have e8_4 : sg4 8 = I _ := (fr4 8 rfl).trans rfl
 refine SR ?_
 refine V (run_lss e9_4 e8_4) ?_
 refine RL.nil ?_
 refine CW.seq ?_
 refine CW.condP rfl (fun h6 => ?_) (fun h6 => ?_)
 ·refine CW.skip ?_
  refine CW.seq ?_
  refine CW.block ?_
  refine SR ?_
  refine V (run_indexAddrS (hs.hp hH4) underlying48 sizeOf53 e7_4 e9_4 (by omega)) ?_
  refine V (run_ldE (dv := val0) valL_len (hs.hp hH4) underlying53 rfl rfl rfl (by omega)) ?_
  refine RL.new rfl hH4 (f := fun b => (.pointer (some ⟨b, 0, none⟩))) (run_alloc zero_val) ?_
  intro b9 w7 hH8
  refine RL.set hH8 (i := 0) rfl (run_stW (c' := (valL _).toArray) rfl rfl rfl (valL_one _) (hH8.blk (i := 0) rfl) rfl) ?_
  intro w10 hH11
  simp only [z0, z1] at hH11
  refine RL.nil ?_
  refine SR ?_
  refine V (run_ldA (cs := [B _, _]) underlying42 rfl rfl e2_4 (rangeAt_cells (hH11.blk (i := 1) rfl))) ?_
  refine V (fA underlying53 1 rfl sizeOf51 rfl) ?_
  refine V (run_ldVB underlying51 rfl rfl rfl (hH11.blk (i := 0) rfl)) ?_
  refine RL.callP rfl hH11 (c_shape_Fits _ _  _ (hsh.mono hH11.kw) (hT.hp hH11)) (run_call2 call24 rfl rfl) ?_
  intro w12 hH13
  refine V (run_not rfl) ?_
  refine RL.nil ?_
  refine CW.cond rfl (fun h16 => ?_) (fun h16 => ?_)
  ·refine SR ?_
   refine V (aV (B false) rfl) ?_
   refine RL.nil ?_
   refine CW.ret ?_
   refine outP1 Tryz.results26 (congrArg B ?_) hH13.below
   first | exact (fits_no h0 ‹k < _› (nt ‹_›)).symm | exact (fits_all ‹¬ k < _› hg).symm
  ·refine CW.skip ?_
   refine CW.region ?_
   refine V (run_add e9_4 rfl (by omega)) ?_
   refine V (mV (I _) rfl) ?_
   refine RL.nil ?_
   refine ⟨k + 1, ?_, fr4.u4.u4.u1.u1.u1, (hH13.sub (sQ sR)), (congrArg I (by first | rfl | omega)), ?_, ?_, ?_⟩
   ·((try dsimp only); omega)
   ·omega
   ·omega
   ·exact fun j a b => if e : j = k then e ▸ nf ‹_› else hg j a (by omega)
 ·refine CW.exit (id := 0) rfl ?_
  refine SR ?_
  refine V (aV (B true) rfl) ?_
  refine RL.nil ?_
  refine CW.ret ?_
  refine outP1 Tryz.results26 (congrArg B ?_) hH4.below
  first | exact (fits_no h0 ‹k < _› (nt ‹_›)).symm | exact (fits_all ‹¬ k < _› hg).symm

theorem c_assign_at_api_Elem (v : Value) (l : List El) (i : Int) (h0 : 0 ≤ i) (w : World) (hs : Sl w v 8 l.length (l.flatMap elL)) : Calls Tryz.prog 38 #[v, I i] w (Pure (.agg (elC (l.getD i.toNat el0))) w) := by
 have hm := hs.small
 unfold maxLen at hm
 refine enter Tryz.func38 rfl Tryz.ntmps38 rfl ?_
 have hH := Hp.start w
 refine SR ?_
 refine RL.new rfl hH (f := fun b => (.pointer (some ⟨b, 0, none⟩))) (run_alloc zero_el) ?_
 intro b3 w1 hH2
 refine RL.nil ?_
 refine SR ?_
 refine RL.new rfl hH2 (f := fun b => (.pointer (some ⟨b, 0, none⟩))) (run_alloc zero_el) ?_
 intro b6 w4 hH5
 refine RL.nil ?_
 refine CW.seq ?_
 refine SR ?_
 refine V (mV (I _) rfl) ?_
 refine V (run_lss rfl rfl) ?_
 refine V (mV (B _) rfl) ?_
 refine RL.splitP (dj := 8) rfl (fun h8 => ?_) (fun h8 => ?_)
 ·refine RL.gF rfl rfl (bT h8) rfl ?_
  refine RL.gF rfl rfl (bT h8) rfl ?_
  refine RL.gF rfl rfl (bT h8) rfl ?_
  refine RL.gF rfl rfl (bT h8) rfl ?_
  refine V (run_pickT (bT h8) (v := B true) rfl) ?_
  refine RL.nil ?_
  refine CW.condT rfl ?_
  refine SR ?_
  refine V (run_ldEl underlying51 rfl rfl rfl (hH5.blk (i := 0) rfl)) ?_
  refine RL.set hH5 (i := 1) rfl (run_stEl rfl rfl rfl (hH5.blk (i := 1) rfl)) ?_
  intro w9 hH10
  simp only [z0, z1] at hH10
  refine RL.nil ?_
  refine CW.ret ?_
  refine outCg Tryz.results38 rfl hH10 (i := 1) rfl underlying51 rfl (by rw [elC_size]; rfl) ⟨?_, hH10.below⟩
  first | rfl | (rw [getD_out (by omega)]; done) | (exfalso; omega)
 ·refine RL.gT rfl (bF h8) ?_
  refine V (mV (I _) rfl) ?_
  refine RL.gT rfl (bF h8) ?_
  refine V (run_move (by conv => lhs; whnf)) ?_
  refine RL.gT rfl (bF h8) ?_
  refine V (run_lenSl (hs.hp hH5) rfl underlying26 rfl) ?_
  refine RL.gT rfl (bF h8) ?_
  refine V (run_geq rfl rfl) ?_
  refine V (run_pickF (bF h8) (v := B _) rfl) ?_
  refine RL.nil ?_
  refine CW.condP rfl (fun h12 => ?_) (fun h12 => ?_)
  ·refine SR ?_
   refine V (run_ldEl underlying51 rfl rfl rfl (hH5.blk (i := 0) rfl)) ?_
   refine RL.set hH5 (i := 1) rfl (run_stEl rfl rfl rfl (hH5.blk (i := 1) rfl)) ?_
   intro w13 hH14
   simp only [z0, z1] at hH14
   refine RL.nil ?_
   refine CW.ret ?_
   refine outCg Tryz.results38 rfl hH14 (i := 1) rfl underlying51 rfl (by rw [elC_size]; rfl) ⟨?_, hH14.below⟩
   first | rfl | (rw [getD_out (by omega)]; done) | (exfalso; omega)
  ·refine CW.skip ?_
   refine SR ?_
   refine V (run_move (by conv => lhs; whnf)) ?_
   refine V (mV (I _) rfl) ?_
   refine V (run_indexAddrS (hs.hp hH5) underlying26 sizeOf51 rfl rfl (by omega)) ?_
   refine V (run_ldElS (hs.hp hH5) underlying51 rfl rfl rfl (by omega)) ?_
   refine RL.set hH5 (i := 1) rfl (run_stEl rfl rfl rfl (hH5.blk (i := 1) rfl)) ?_
   intro w15 hH16
   simp only [z0, z1] at hH16
   refine RL.nil ?_
   refine CW.ret ?_
   refine outCg Tryz.results38 rfl hH16 (i := 1) rfl underlying51 rfl (by rw [elC_size]; rfl) ⟨?_, hH16.below⟩
   first | rfl | (rw [getD_out (by omega)]; done) | (exfalso; omega)

theorem c_assign_at_api_Value (v : Value) (l : List VrR) (i : Int) (h0 : 0 ≤ i) (w : World) (hs : Sl w v 1 l.length (rowsC l)) : Calls Tryz.prog 40 #[v, I i] w (Pure ((l.getD i.toNat vr0).v) w) := by
 have hm := hs.small
 unfold maxLen at hm
 refine enter Tryz.func40 rfl Tryz.ntmps40 rfl ?_
 have hH := Hp.start w
 refine SR ?_
 refine V (aV (.slice none 0 0) rfl) ?_
 refine RL.nil ?_
 refine SR ?_
 refine V (aV (.slice none 0 0) rfl) ?_
 refine RL.nil ?_
 refine CW.seq ?_
 refine SR ?_
 refine V (mV (I _) rfl) ?_
 refine V (run_lss rfl rfl) ?_
 refine V (mV (B _) rfl) ?_
 refine RL.splitP (dj := 8) rfl (fun h2 => ?_) (fun h2 => ?_)
 ·refine RL.gF rfl rfl (bT h2) rfl ?_
  refine RL.gF rfl rfl (bT h2) rfl ?_
  refine RL.gF rfl rfl (bT h2) rfl ?_
  refine RL.gF rfl rfl (bT h2) rfl ?_
  refine V (run_pickT (bT h2) (v := B true) rfl) ?_
  refine RL.nil ?_
  refine CW.condT rfl ?_
  refine SR ?_
  refine V (run_move (by conv => lhs; whnf)) ?_
  refine V (run_assign (by conv => lhs; whnf)) ?_
  refine RL.nil ?_
  refine CW.ret ?_
  refine outP1 Tryz.results40 ?_ hH.below
  first | rfl | (rw [getD_out (by omega)]; rfl) | (exfalso; omega)
 ·refine RL.gT rfl (bF h2) ?_
  refine V (mV (I _) rfl) ?_
  refine RL.gT rfl (bF h2) ?_
  refine V (run_move (by conv => lhs; whnf)) ?_
  refine RL.gT rfl (bF h2) ?_
  refine V (run_lenSl (hs.hp hH) rfl underlying27 rfl) ?_
  refine RL.gT rfl (bF h2) ?_
  refine V (run_geq rfl rfl) ?_
  refine V (run_pickF (bF h2) (v := B _) rfl) ?_
  refine RL.nil ?_
  refine CW.condP rfl (fun h4 => ?_) (fun h4 => ?_)
  ·refine SR ?_
   refine V (run_move (by conv => lhs; whnf)) ?_
   refine V (run_assign (by conv => lhs; whnf)) ?_
   refine RL.nil ?_
   refine CW.ret ?_
   refine outP1 Tryz.results40 ?_ hH.below
   first | rfl | (rw [getD_out (by omega)]; rfl) | (exfalso; omega)
  ·refine CW.skip ?_
   refine SR ?_
   refine V (run_move (by conv => lhs; whnf)) ?_
   refine V (mV (I _) rfl) ?_
   refine V (run_indexAddrS (hs.hp hH) underlying27 sizeOf48 rfl rfl (by omega)) ?_
   refine V (run_ld underlying48 rfl rfl ((hs.hp hH).cell _ _ (rowsC_at (by omega)))) ?_
   refine V (run_assign (by conv => lhs; whnf)) ?_
   refine RL.nil ?_
   refine CW.ret ?_
   refine outP1 Tryz.results40 ?_ hH.below
   first | rfl | (rw [getD_out (by omega)]; rfl) | (exfalso; omega)

theorem c_assign_at_api_Lat (s : Scp) (i : Int) (w : World) (hs : ScpV (Kw w) s) : Calls Tryz.prog 31 #[s.lv, I i] w (Pure (.agg (latL (latAt s.lats i)).toArray) w) := by
 have hm1 := hs.lats.sl.small
 have hm2 := hs.vars.sl.small
 unfold maxLen at hm1 hm2
 refine enter Tryz.func31 rfl Tryz.ntmps31 rfl ?_
 have hH := Hp.start w
 refine SR ?_
 refine RL.new rfl hH (f := fun b => (.pointer (some ⟨b, 0, none⟩))) (run_alloc zero_lat) ?_
 intro b3 w1 hH2
 refine RL.nil ?_
 refine SR ?_
 refine RL.new rfl hH2 (f := fun b => (.pointer (some ⟨b, 0, none⟩))) (run_alloc zero_lat) ?_
 intro b6 w4 hH5
 refine RL.nil ?_
 refine CW.seq ?_
 refine SR ?_
 refine V (mV (I _) rfl) ?_
 refine V (run_lss rfl rfl) ?_
 refine V (mV (B _) rfl) ?_
 refine RL.splitP (dj := 8) rfl (fun h8 => ?_) (fun h8 => ?_)
 ·refine RL.gF rfl rfl (bT h8) rfl ?_
  refine RL.gF rfl rfl (bT h8) rfl ?_
  refine RL.gF rfl rfl (bT h8) rfl ?_
  refine RL.gF rfl rfl (bT h8) rfl ?_
  refine V (run_pickT (bT h8) (v := B true) rfl) ?_
  refine RL.nil ?_
  refine CW.condT rfl ?_
  refine SR ?_
  refine V (run_ldA (cs := latL _) underlying44 rfl rfl rfl (rangeAt_cells (hH5.blk (i := 0) rfl))) ?_
  refine RL.set hH5 (i := 1) rfl (run_stW (c' := (latL _).toArray) rfl rfl rfl (latL_one (lat0_v (Kw w))) (hH5.blk (i := 1) rfl) rfl) ?_
  intro w9 hH10
  simp only [z0, z1] at hH10
  refine RL.nil ?_
  refine CW.ret ?_
  refine outCg Tryz.results31 rfl hH10 (i := 1) rfl underlying44 rfl rfl ⟨?_, hH10.below⟩
  (unfold latAt; first | rw [if_pos (by omega)] | rw [if_neg (by omega)])
 ·refine RL.gT rfl (bF h8) ?_
  refine V (mV (I _) rfl) ?_
  refine RL.gT rfl (bF h8) ?_
  refine V (run_move (by conv => lhs; whnf)) ?_
  refine RL.gT rfl (bF h8) ?_
  refine V (run_lenSl (hs.lats.sl.hp hH5) rfl underlying22 rfl) ?_
  refine RL.gT rfl (bF h8) ?_
  refine V (run_geq rfl rfl) ?_
  refine V (run_pickF (bF h8) (v := B _) rfl) ?_
  refine RL.nil ?_
  refine CW.condP rfl (fun h12 => ?_) (fun h12 => ?_)
  ·refine SR ?_
   refine V (run_ldA (cs := latL _) underlying44 rfl rfl rfl (rangeAt_cells (hH5.blk (i := 0) rfl))) ?_
   refine RL.set hH5 (i := 1) rfl (run_stW (c' := (latL _).toArray) rfl rfl rfl (latL_one (lat0_v (Kw w))) (hH5.blk (i := 1) rfl) rfl) ?_
   intro w13 hH14
   simp only [z0, z1] at hH14
   refine RL.nil ?_
   refine CW.ret ?_
   refine outCg Tryz.results31 rfl hH14 (i := 1) rfl underlying44 rfl rfl ⟨?_, hH14.below⟩
   (unfold latAt; first | rw [if_pos (by omega)] | rw [if_neg (by omega)])
  ·refine CW.skip ?_
   refine SR ?_
   refine V (run_move (by conv => lhs; whnf)) ?_
   refine V (mV (I _) rfl) ?_
   refine V (run_indexAddrS (hs.lats.sl.hp hH5) underlying22 sizeOf44 rfl rfl (by omega)) ?_
   refine V (run_ldE (dv := lat0) latL_len (hs.lats.sl.hp hH5) underlying44 rfl rfl rfl (by omega)) ?_
   refine RL.set hH5 (i := 1) rfl (run_stW (c' := (latL _).toArray) rfl rfl rfl (latL_one (hs.at (by omega) (by omega))) (hH5.blk (i := 1) rfl) rfl) ?_
   intro w15 hH16
   simp only [z0, z1] at hH16
   refine RL.nil ?_
   refine CW.ret ?_
   refine outCg Tryz.results31 rfl hH16 (i := 1) rfl underlying44 rfl rfl ⟨?_, hH16.below⟩
   (unfold latAt; first | rw [if_pos (by omega)] | rw [if_neg (by omega)])

theorem c_clearanceref18_label (a : Asg) (i : Int) (h0 : 0 ≤ i) (w : World) (ha : AsgV (Kw w) a) : Calls Tryz.prog 42 #[.agg (asgL a).toArray, I i] w (Pure (.agg (elC (a.labels.getD i.toNat el0))) w) := by
 have hm1 := ha.labels.small
 have hm2 := ha.rows.small
 unfold maxLen at hm1 hm2
 refine enter Tryz.func42 rfl Tryz.ntmps42 rfl ?_
 have hH := Hp.start w
 refine SR ?_
 refine RL.new rfl hH (f := fun b => (.pointer (some ⟨b, 0, none⟩))) (run_box (v := .agg _) rfl) ?_
 intro b3 w1 hH2
 refine RL.new rfl hH2 (f := fun b => (.pointer (some ⟨b, 0, none⟩))) (run_alloc zero_el) ?_
 intro b6 w4 hH5
 refine RL.nil ?_
 refine CW.seq ?_
 refine SR ?_
 refine V (mV (I _) rfl) ?_
 refine V (fA underlying29 0 rfl sizeOf26 rfl) ?_
 refine V (run_ldV (ha.labels.sl.hp hH5) underlying26 rfl rfl (hH5.cell (i := 1) rfl rfl)) ?_
 refine V (run_lenSl (ha.labels.sl.hp hH5) rfl underlying26 rfl) ?_
 refine V (run_lss rfl rfl) ?_
 refine RL.nil ?_
 refine CW.condP rfl (fun h8 => ?_) (fun h8 => ?_)
 ·refine SR ?_
  refine V (fA underlying29 0 rfl sizeOf26 rfl) ?_
  refine V (run_ldV (ha.labels.sl.hp hH5) underlying26 rfl rfl (hH5.cell (i := 1) rfl rfl)) ?_
  refine V (mV (I _) rfl) ?_
  refine V (run_indexAddrS (ha.labels.sl.hp hH5) underlying26 sizeOf51 rfl rfl (by omega)) ?_
  refine V (run_ldElS (ha.labels.sl.hp hH5) underlying51 rfl rfl rfl (by omega)) ?_
  refine RL.set hH5 (i := 0) rfl (run_stEl rfl rfl rfl (hH5.blk (i := 0) rfl)) ?_
  intro w9 hH10
  simp only [z0, z1] at hH10
  refine RL.nil ?_
  refine CW.ret ?_
  refine outCg Tryz.results42 rfl hH10 (i := 0) rfl underlying51 rfl (by rw [elC_size]; rfl) ⟨?_, hH10.below⟩
  first | rfl | (rw [getD_out (by omega)]; done)
 ·refine CW.skip ?_
  refine SR ?_
  refine V (run_bld (vs := []) rfl (built_el0)) ?_
  refine RL.set hH5 (i := 0) rfl (run_stEl rfl rfl rfl (hH5.blk (i := 0) rfl)) ?_
  intro w11 hH12
  simp only [z0, z1] at hH12
  refine RL.nil ?_
  refine CW.ret ?_
  refine outCg Tryz.results42 rfl hH12 (i := 0) rfl underlying51 rfl (by rw [elC_size]; rfl) ⟨?_, hH12.below⟩
  first | rfl | (rw [getD_out (by omega)]; done)

theorem c_clearanceref18_row (a : Asg) (i : Int) (h0 : 0 ≤ i) (w : World) (ha : AsgV (Kw w) a) : Calls Tryz.prog 44 #[.agg (asgL a).toArray, I i] w (Pure ((a.rows.getD i.toNat vr0).v) w) := by
 have hm1 := ha.labels.small
 have hm2 := ha.rows.small
 unfold maxLen at hm1 hm2
 refine enter Tryz.func44 rfl Tryz.ntmps44 rfl ?_
 have hH := Hp.start w
 refine SR ?_
 refine RL.new rfl hH (f := fun b => (.pointer (some ⟨b, 0, none⟩))) (run_box (v := .agg _) rfl) ?_
 intro b3 w1 hH2
 refine V (aV (.slice none 0 0) rfl) ?_
 refine RL.nil ?_
 refine CW.seq ?_
 refine SR ?_
 refine V (mV (I _) rfl) ?_
 refine V (fA underlying29 1 rfl sizeOf27 rfl) ?_
 refine V (run_ldV (ha.rows.sl.hp hH2) underlying27 rfl rfl (hH2.cell (i := 0) rfl rfl)) ?_
 refine V (run_lenSl (ha.rows.sl.hp hH2) rfl underlying27 rfl) ?_
 refine V (run_lss rfl rfl) ?_
 refine RL.nil ?_
 refine CW.condP rfl (fun h5 => ?_) (fun h5 => ?_)
 ·refine SR ?_
  refine V (fA underlying29 1 rfl sizeOf27 rfl) ?_
  refine V (run_ldV (ha.rows.sl.hp hH2) underlying27 rfl rfl (hH2.cell (i := 0) rfl rfl)) ?_
  refine V (mV (I _) rfl) ?_
  refine V (run_indexAddrS (ha.rows.sl.hp hH2) underlying27 sizeOf48 rfl rfl (by omega)) ?_
  refine V (run_ld underlying48 rfl rfl ((ha.rows.sl.hp hH2).cell _ _ (rowsC_at (by omega)))) ?_
  refine V (run_assign (by conv => lhs; whnf)) ?_
  refine RL.nil ?_
  refine CW.ret ?_
  refine outP1 Tryz.results44 ?_ hH2.below
  first | rfl | (rw [getD_out (by omega)]; rfl)
 ·refine CW.skip ?_
  refine SR ?_
  refine V (aV (.slice none 0 0) rfl) ?_
  refine RL.nil ?_
  refine CW.ret ?_
  refine outP1 Tryz.results44 ?_ hH2.below
  first | rfl | (rw [getD_out (by omega)]; rfl)

theorem c_assign_below (v u : Value) (l m : List ValR) (w : World) (hs : Sl w v 9 l.length (l.flatMap valL)) (ht : Sl w u 9 m.length (m.flatMap valL)) : Calls Tryz.prog 39 #[v, u] w (Pure (B (belowL l m)) w) := by
 have hm := hs.small
 unfold maxLen at hm
 have hm2 := ht.small
 unfold maxLen at hm2
 refine enter Tryz.func39 rfl Tryz.ntmps39 rfl ?_
 have hH := Hp.start w
 refine SR ?_
 refine V (aV (B false) rfl) ?_
 refine RL.nil ?_
 refine CW.seq ?_
 refine SR ?_
 refine V (run_move (by conv => lhs; whnf)) ?_
 refine V (run_lenSl (hs.hp hH) rfl underlying48 rfl) ?_
 refine V (mV (I 0) rfl) ?_
 refine RL.nil ?_
 refine CW.block ?_
 refine CW.loop (G := (Int)) (fun (k : Int) s' w' => (Fr [4, 6, 7, 8, 11, 12, 13, 14, 15, 16, 17, 18, 19, 20, 21, 22, 23, 24, 25, 26, 27, 28, 29, 30, 31] _ s') ∧ (Hp w w' _) ∧ (s' 11 = I k) ∧ (0 ≤ k) ∧ (k ≤ l.length) ∧ (∀ j : Int, 0 ≤ j → j < k → ((getF m (l.getD j.toNat val0).name).2 && leqE (l.getD j.toNat val0).el (getF m (l.getD j.toNat val0).name).1) = true)) (fun (k : Int) => (l.length - k).toNat) (0) ⟨Fr.refl _ _, hH, rfl, (by omega), (by omega), fun j a b => absurd b (by omega)⟩ ?_
 rintro k sg1 w1 ⟨fr1, hH1, e11_1, h0, hk, hg⟩
 have e1_1 := (fr1 1 rfl).trans (by conv => lhs; whnf)
 have e9_1 := (fr1 9 rfl).trans (by conv => lhs; whnf)
 have e10_1 : sg1 10 = I _ := (fr1 10 rfl).trans rfl
 refine SR ?_
 refine V (run_lss e11_1 e10_1) ?_
 refine RL.nil ?_
 refine CW.seq ?_
 refine CW.condP rfl (fun h3 => ?_) (fun h3 => ?_)
 ·refine CW.skip ?_
  refine CW.seq ?_
  refine CW.block ?_
  refine SR ?_
  refine V (run_indexAddrS (hs.hp hH1) underlying48 sizeOf53 e9_1 e11_1 (by omega)) ?_
  refine V (run_ldE (dv := val0) valL_len (hs.hp hH1) underlying53 rfl rfl rfl (by omega)) ?_
  refine RL.new rfl hH1 (f := fun b => (.pointer (some ⟨b, 0, none⟩))) (run_alloc zero_val) ?_
  intro b6 w4 hH5
  refine RL.set hH5 (i := 0) rfl (run_stW (c' := (valL _).toArray) rfl rfl rfl (valL_one _) (hH5.blk (i := 0) rfl) rfl) ?_
  intro w7 hH8
  simp only [z0, z1] at hH8
  refine RL.nil ?_
  refine SR ?_
  refine V (run_move e1_1) ?_
  refine V (fA underlying53 0 rfl sizeOf9 rfl) ?_
  refine V (run_ld underlying9 rfl rfl (hH8.cell (i := 0) rfl (v := .string _) rfl)) ?_
  refine RL.callP rfl hH8 (c_assign_Get _ _ _  _ (ht.hp hH8)) (run_call2 call69 rfl rfl) ?_
  intro w9 hH10
  refine V (run_move (by conv => lhs; whnf)) ?_
  refine V (run_extract rfl (v := .agg _) rfl) ?_
  refine V (run_extract rfl (v := B _) rfl) ?_
  refine RL.new rfl hH10 (f := fun b => (.pointer (some ⟨b, 0, none⟩))) (run_alloc zero_el) ?_
  intro b14 w12 hH13
  refine RL.set hH13 (i := 0) rfl (run_stEl rfl rfl rfl (hH13.blk (i := 0) rfl)) ?_
  intro w15 hH16
  simp only [z0, z1] at hH16
  refine V (aV (B _) rfl) ?_
  refine RL.nil ?_
  refine SR ?_
  refine V (mV (B _) rfl) ?_
  refine V (run_not rfl) ?_
  refine V (mV (B _) rfl) ?_
  refine RL.split (dj := 24) rfl (fun h18 => ?_) (fun h18 => ?_)
  ·refine RL.gF rfl rfl (bR (c := true) h18) rfl ?_
   refine RL.gF rfl rfl (bR (c := true) h18) rfl ?_
   refine RL.gF rfl rfl (bR (c := true) h18) rfl ?_
   refine RL.gF rfl rfl (bR (c := true) h18) rfl ?_
   refine RL.gF rfl rfl (bR (c := true) h18) rfl ?_
   refine V (run_pickT (bR (c := true) h18) (v := B true) rfl) ?_
   refine RL.nil ?_
   refine CW.condT rfl ?_
   refine SR ?_
   refine V (aV (B false) rfl) ?_
   refine RL.nil ?_
   refine CW.ret ?_
   refine outP1 Tryz.results39 (congrArg B ?_) hH16.below
   first | exact (below_no1 h0 ‹k < _› (nt ‹(!(getF _ _).2) = true›)).symm | exact (below_no2 h0 ‹k < _› (nt ‹(!leqE _ _) = true›)).symm | exact (below_yes ‹¬ k < _› hg).symm
  ·refine RL.gT rfl (bR (c := false) h18) ?_
   refine V (fA underlying53 1 rfl sizeOf51 rfl) ?_
   refine RL.gT rfl (bR (c := false) h18) ?_
   refine V (run_ldVB underlying51 rfl rfl rfl (hH16.blk (i := 1) rfl)) ?_
   refine RL.gT rfl (bR (c := false) h18) ?_
   refine V (run_ldEl underlying51 rfl rfl rfl (hH16.blk (i := 0) rfl)) ?_
   refine RL.gT rfl (bR (c := false) h18) ?_
   refine RL.callP rfl hH16 (c_shape_Leq _ _  _) (run_call2 call37 rfl rfl) ?_
   intro w19 hH20
   refine RL.gT rfl (bR (c := false) h18) ?_
   refine V (run_not rfl) ?_
   refine V (run_pickF (bR (c := false) h18) (v := B _) rfl) ?_
   refine RL.nil ?_
   refine CW.cond rfl (fun h23 => ?_) (fun h23 => ?_)
   ·refine SR ?_
    refine V (aV (B false) rfl) ?_
    refine RL.nil ?_
    refine CW.ret ?_
    refine outP1 Tryz.results39 (congrArg B ?_) hH20.below
    first | exact (below_no1 h0 ‹k < _› (nt ‹(!(getF _ _).2) = true›)).symm | exact (below_no2 h0 ‹k < _› (nt ‹(!leqE _ _) = true›)).symm | exact (below_yes ‹¬ k < _› hg).symm
   ·refine CW.skip ?_
    refine CW.region ?_
    refine V (run_add e11_1 rfl (by omega)) ?_
    refine V (mV (I _) rfl) ?_
    refine RL.nil ?_
    refine ⟨k + 1, ?_, fr1.u4.u4.u4.u4.u4.u4, (hH20.sub (sQ (sQ sR))), (congrArg I (by first | rfl | omega)), ?_, ?_, ?_⟩
    ·((try dsimp only); omega)
    ·omega
    ·omega
    ·exact fun j a b => if e : j = k then e ▸ (by rw [nf ‹(!(getF _ _).2) = false›, nf ‹(!leqE _ _) = false›]; rfl) else hg j a (by omega)
 ·refine CW.exit (id := 0) rfl ?_
  refine SR ?_
  refine V (aV (B true) rfl) ?_
  refine RL.nil ?_
  refine CW.ret ?_
  refine outP1 Tryz.results39 (congrArg B ?_) hH1.below
  first | exact (below_no1 h0 ‹k < _› (nt ‹(!(getF _ _).2) = true›)).symm | exact (below_no2 h0 ‹k < _› (nt ‹(!leqE _ _) = true›)).symm | exact (below_yes ‹¬ k < _› hg).symm

theorem c_clearanceref18_Fields (v u : Value) (l m : List ValR) (w : World) (hs : Sl w v 9 l.length (l.flatMap valL)) (ht : Sl w u 9 m.length (m.flatMap valL)) : Calls Tryz.prog 29 #[v, u] w (Pure (B (sameL l m)) w) := by
 have hm := hs.small
 unfold maxLen at hm
 have hm2 := ht.small
 unfold maxLen at hm2
 refine enter Tryz.func29 rfl Tryz.ntmps29 rfl ?_
 have hH := Hp.start w
 refine SR ?_
 refine V (aV (B false) rfl) ?_
 refine RL.nil ?_
 refine CW.seq ?_
 refine SR ?_
 refine V (run_move (by conv => lhs; whnf)) ?_
 refine V (run_lenSl (hs.hp hH) rfl underlying48 rfl) ?_
 refine V (run_move (by conv => lhs; whnf)) ?_
 refine V (run_lenSl (ht.hp hH) rfl underlying48 rfl) ?_
 refine V (run_neq rfl rfl) ?_
 refine RL.nil ?_
 refine CW.condP rfl (fun h2 => ?_) (fun h2 => ?_)
 ·refine SR ?_
  refine V (aV (B false) rfl) ?_
  refine RL.nil ?_
  refine CW.ret ?_
  refine outP1 Tryz.results29 (congrArg B ?_) hH.below
  first | exact (sameL_no2 h0 ‹k < _› (nt ‹(!sameV _ _) = true›)).symm | exact (sameL_yes hlm ‹¬ k < _› hg).symm | exact (sameL_no1 ‹_›).symm
 ·refine CW.skip ?_
  refine CW.seq ?_
  refine SR ?_
  refine V (aV (I 0) rfl) ?_
  refine RL.nil ?_
  refine CW.block ?_
  have hlm : (l.length : Int) = m.length := by omega
  refine CW.loop (G := (Int)) (fun (k : Int) s' w' => (Fr [4, 5, 11, 12, 13, 14, 15, 16, 17, 18, 19, 20, 21, 22, 23, 24, 25] _ s') ∧ (Hp w w' _) ∧ (s' 5 = I k) ∧ (0 ≤ k) ∧ (k ≤ l.length) ∧ (∀ j : Int, 0 ≤ j → j < k → sameV (l.getD j.toNat val0) (m.getD j.toNat val0) = true)) (fun (k : Int) => (l.length - k).toNat) (0) ⟨Fr.refl _ _, hH, rfl, (by omega), (by omega), fun j a b => absurd b (by omega)⟩ ?_
  rintro k sg3 w3 ⟨fr3, hH3, e5_3, h0, hk, hg⟩
  have e0_3 := (fr3 0 rfl).trans (by conv => lhs; whnf)
  have e1_3 := (fr3 1 rfl).trans (by conv => lhs; whnf)
  refine CW.seq ?_
  refine SR ?_
  refine V (run_move e5_3) ?_
  refine V (run_move e0_3) ?_
  refine V (run_lenSl (hs.hp hH3) rfl underlying48 rfl) ?_
  refine V (run_lss rfl rfl) ?_
  refine RL.nil ?_
  refine CW.condP rfl (fun h5 => ?_) (fun h5 => ?_)
  ·refine CW.skip ?_
   refine CW.seq ?_
   refine CW.block ?_
   refine CW.seq ?_
   refine CW.regionD (by kernel_rfl) hH3 ?_
   intro w6 hH7
   refine AT 0 rfl (hH7.sub sR) (fun w hS => run_move e0_3) ?_
   refine AT 1 rfl (hH7.sub sR) (fun w hS => run_move e5_3) ?_
   refine AT 2 rfl (hH7.sub sR) (fun w hS => run_indexAddrS (hs.hp hS) underlying48 sizeOf53 rfl rfl (by omega)) ?_
   refine AT 3 rfl (hH7.sub sR) (fun w hS => run_ldE (dv := val0) valL_len (hs.hp hS) underlying53 rfl rfl rfl (by omega)) ?_
   refine AT 4 rfl (hH7.sub sR) (fun w hS => run_move e1_3) ?_
   refine AT 5 rfl (hH7.sub sR) (fun w hS => run_move e5_3) ?_
   refine AT 6 rfl (hH7.sub sR) (fun w hS => run_indexAddrS (ht.hp hS) underlying48 sizeOf53 rfl rfl (by omega)) ?_
   refine AT 7 rfl (hH7.sub sR) (fun w hS => run_ldE (dv := val0) valL_len (ht.hp hS) underlying53 rfl rfl rfl (by omega)) ?_
   refine AT 8 rfl (hH7.sub sR) (fun w hS => run_neqT (eq_val _ _) rfl rfl) ?_
   refine AD ?_
   refine CW.cond rfl (fun h9 => ?_) (fun h9 => ?_)
   ·refine SR ?_
    refine V (aV (B false) rfl) ?_
    refine RL.nil ?_
    refine CW.ret ?_
    refine outP1 Tryz.results29 (congrArg B ?_) hH7.below
    first | exact (sameL_no2 h0 ‹k < _› (nt ‹(!sameV _ _) = true›)).symm | exact (sameL_yes hlm ‹¬ k < _› hg).symm | exact (sameL_no1 ‹_›).symm
   ·refine CW.skip ?_
    refine CW.region ?_
    refine V (run_move e5_3) ?_
    refine V (run_add rfl rfl (by omega)) ?_
    refine V (aV (I _) rfl) ?_
    refine RL.nil ?_
    refine ⟨k + 1, ?_, fr3.u4.u4.u4.u4, hH7, (congrArg I (by first | rfl | omega)), ?_, ?_, ?_⟩
    ·((try dsimp only); omega)
    ·omega
    ·omega
    ·exact fun j a b => if e : j = k then e ▸ nf ‹(!sameV _ _) = false› else hg j a (by omega)
  ·refine CW.exit (id := 0) rfl ?_
   refine SR ?_
   refine V (aV (B true) rfl) ?_
   refine RL.nil ?_
   refine CW.ret ?_
   refine outP1 Tryz.results29 (congrArg B ?_) hH3.below
   first | exact (sameL_no2 h0 ‹k < _› (nt ‹(!sameV _ _) = true›)).symm | exact (sameL_yes hlm ‹¬ k < _› hg).symm | exact (sameL_no1 ‹_›).symm

theorem c_clearanceref18_Same (a b : Asg) (w : World) (ha : AsgV (Kw w) a) (hb : AsgV (Kw w) b) : Calls Tryz.prog 11 #[.agg (asgL a).toArray, .agg (asgL b).toArray] w (Pure (B (sameA a.as b.as)) w) := by
 have hm1 := ha.labels.small
 have hm2 := ha.rows.small
 have hm3 := hb.labels.small
 have hm4 := hb.rows.small
 unfold maxLen at hm1 hm2 hm3 hm4
 refine enter Tryz.func11 rfl Tryz.ntmps11 rfl ?_
 have hH := Hp.start w
 refine SR ?_
 refine RL.new rfl hH (f := fun b => (.pointer (some ⟨b, 0, none⟩))) (run_box (v := .agg _) rfl) ?_
 intro b3 w1 hH2
 refine RL.new rfl hH2 (f := fun b => (.pointer (some ⟨b, 0, none⟩))) (run_box (v := .agg _) rfl) ?_
 intro b6 w4 hH5
 refine V (aV (B false) rfl) ?_
 refine RL.nil ?_
 refine CW.seq ?_
 refine SR ?_
 refine V (fA underlying29 0 rfl sizeOf26 rfl) ?_
 refine V (run_ldV (ha.labels.sl.hp hH5) underlying26 rfl rfl (hH5.cell (i := 1) rfl rfl)) ?_
 refine V (run_lenSl (ha.labels.sl.hp hH5) rfl underlying26 rfl) ?_
 refine V (fA underlying29 0 rfl sizeOf26 rfl) ?_
 refine V (run_ldV (hb.labels.sl.hp hH5) underlying26 rfl rfl (hH5.cell (i := 0) rfl rfl)) ?_
 refine V (run_lenSl (hb.labels.sl.hp hH5) rfl underlying26 rfl) ?_
 refine V (run_neq rfl rfl) ?_
 refine V (mV (B _) rfl) ?_
 refine RL.splitP (dj := 14) rfl (fun h8 => ?_) (fun h8 => ?_)
 ·refine RL.gF rfl rfl (bT h8) rfl ?_
  refine RL.gF rfl rfl (bT h8) rfl ?_
  refine RL.gF rfl rfl (bT h8) rfl ?_
  refine RL.gF rfl rfl (bT h8) rfl ?_
  refine RL.gF rfl rfl (bT h8) rfl ?_
  refine RL.gF rfl rfl (bT h8) rfl ?_
  refine RL.gF rfl rfl (bT h8) rfl ?_
  refine V (run_pickT (bT h8) (v := B true) rfl) ?_
  refine RL.nil ?_
  refine CW.condT rfl ?_
  refine SR ?_
  refine V (aV (B false) rfl) ?_
  refine RL.nil ?_
  refine CW.ret ?_
  refine outP1 Tryz.results11 (congrArg B ?_) hH5.below
  first | exact (same_3 h0 ‹k < _› (nt ‹(!decide (eqE _ _)) = true›)).symm | exact (same_4 j0 ‹j < _› (nt ‹(!sameL _ _) = true›)).symm | exact (same_y e1 e2 ‹¬ k < _› hg ‹¬ j < _› hr).symm | exact (same_1 ‹_›).symm | exact (same_2 ‹_›).symm
 ·refine RL.gT rfl (bF h8) ?_
  refine V (fA underlying29 1 rfl sizeOf27 rfl) ?_
  refine RL.gT rfl (bF h8) ?_
  refine V (run_ldV (ha.rows.sl.hp hH5) underlying27 rfl rfl (hH5.cell (i := 1) rfl rfl)) ?_
  refine RL.gT rfl (bF h8) ?_
  refine V (run_lenSl (ha.rows.sl.hp hH5) rfl underlying27 rfl) ?_
  refine RL.gT rfl (bF h8) ?_
  refine V (fA underlying29 1 rfl sizeOf27 rfl) ?_
  refine RL.gT rfl (bF h8) ?_
  refine V (run_ldV (hb.rows.sl.hp hH5) underlying27 rfl rfl (hH5.cell (i := 0) rfl rfl)) ?_
  refine RL.gT rfl (bF h8) ?_
  refine V (run_lenSl (hb.rows.sl.hp hH5) rfl underlying27 rfl) ?_
  refine RL.gT rfl (bF h8) ?_
  refine V (run_neq rfl rfl) ?_
  refine V (run_pickF (bF h8) (v := B _) rfl) ?_
  refine RL.nil ?_
  refine CW.condP rfl (fun h10 => ?_) (fun h10 => ?_)
  ·refine SR ?_
   refine V (aV (B false) rfl) ?_
   refine RL.nil ?_
   refine CW.ret ?_
   refine outP1 Tryz.results11 (congrArg B ?_) hH5.below
   first | exact (same_3 h0 ‹k < _› (nt ‹(!decide (eqE _ _)) = true›)).symm | exact (same_4 j0 ‹j < _› (nt ‹(!sameL _ _) = true›)).symm | exact (same_y e1 e2 ‹¬ k < _› hg ‹¬ j < _› hr).symm | exact (same_1 ‹_›).symm | exact (same_2 ‹_›).symm
  ·refine CW.skip ?_
   refine CW.seq ?_
   refine SR ?_
   refine V (aV (I 0) rfl) ?_
   refine RL.nil ?_
   refine CW.block ?_
   have e1 : (a.labels.length : Int) = b.labels.length := by omega
   have e2 : (a.rows.length : Int) = b.rows.length := by omega
   refine CW.loop (G := (Int)) (fun (k : Int) s' w' => (Fr [4, 5, 23, 24, 25, 26, 27, 28, 29, 30, 31, 32, 33, 34, 35, 36, 37, 38, 39, 40] _ s') ∧ (Hp w w' _) ∧ (s' 5 = I k) ∧ (0 ≤ k) ∧ (k ≤ a.labels.length) ∧ (∀ i : Int, 0 ≤ i → i < k → decide (eqE (a.labels.getD i.toNat el0) (b.labels.getD i.toNat el0)) = true)) (fun (k : Int) => (a.labels.length - k).toNat) (0) ⟨Fr.refl _ _, hH5, rfl, (by omega), (by omega), fun j a b => absurd b (by omega)⟩ ?_
   rintro k sg11 w11 ⟨fr11, hH11, e5_11, h0, hk, hg⟩
   have e2_11 : sg11 2 = Pn _ _ := (fr11 2 rfl).trans rfl
   have e3_11 : sg11 3 = Pn _ _ := (fr11 3 rfl).trans rfl
   refine CW.seq ?_
   refine SR ?_
   refine V (run_move e5_11) ?_
   refine V (fA underlying29 0 rfl sizeOf26 e2_11) ?_
   refine V (run_ldV (ha.labels.sl.hp hH11) underlying26 rfl rfl (hH11.cell (i := 1) rfl rfl)) ?_
   refine V (run_lenSl (ha.labels.sl.hp hH11) rfl underlying26 rfl) ?_
   refine V (run_lss rfl rfl) ?_
   refine RL.nil ?_
   refine CW.condP rfl (fun h13 => ?_) (fun h13 => ?_)
   ·refine CW.skip ?_
    refine CW.seq ?_
    refine CW.block ?_
    refine CW.seq ?_
    refine CW.regionD (by kernel_rfl) hH11 ?_
    intro w14 hH15
    refine AT 0 rfl (hH15.sub sR) (fun w hS => fA underlying29 0 rfl sizeOf26 e2_11) ?_
    refine AT 1 rfl (hH15.sub sR) (fun w hS => run_ldV (ha.labels.sl.hp hS) underlying26 rfl rfl (hS.cell (i := 1) rfl rfl)) ?_
    refine AT 2 rfl (hH15.sub sR) (fun w hS => run_move e5_11) ?_
    refine AT 3 rfl (hH15.sub sR) (fun w hS => run_indexAddrS (ha.labels.sl.hp hS) underlying26 sizeOf51 rfl rfl (by omega)) ?_
    refine AT 4 rfl (hH15.sub sR) (fun w hS => run_ldElS (ha.labels.sl.hp hS) underlying51 rfl rfl rfl (by omega)) ?_
    refine AT 5 rfl (hH15.sub sR) (fun w hS => fA underlying29 0 rfl sizeOf26 e3_11) ?_
    refine AT 6 rfl (hH15.sub sR) (fun w hS => run_ldV (hb.labels.sl.hp hS) underlying26 rfl rfl (hS.cell (i := 0) rfl rfl)) ?_
    refine AT 7 rfl (hH15.sub sR) (fun w hS => run_move e5_11) ?_
    refine AT 8 rfl (hH15.sub sR) (fun w hS => run_indexAddrS (hb.labels.sl.hp hS) underlying26 sizeOf51 rfl rfl (by omega)) ?_
    refine AT 9 rfl (hH15.sub sR) (fun w hS => run_ldElS (hb.labels.sl.hp hS) underlying51 rfl rfl rfl (by omega)) ?_
    refine AT 10 rfl (hH15.sub sR) (fun w hS => run_neqEl elT_fact rfl rfl) ?_
    refine AD ?_
    refine CW.cond rfl (fun h17 => ?_) (fun h17 => ?_)
    ·refine SR ?_
     refine V (aV (B false) rfl) ?_
     refine RL.nil ?_
     refine CW.ret ?_
     refine outP1 Tryz.results11 (congrArg B ?_) hH15.below
     first | exact (same_3 h0 ‹k < _› (nt ‹(!decide (eqE _ _)) = true›)).symm | exact (same_4 j0 ‹j < _› (nt ‹(!sameL _ _) = true›)).symm | exact (same_y e1 e2 ‹¬ k < _› hg ‹¬ j < _› hr).symm | exact (same_1 ‹_›).symm | exact (same_2 ‹_›).symm
    ·refine CW.skip ?_
     refine CW.region ?_
     refine V (run_move e5_11) ?_
     refine V (run_add rfl rfl (by omega)) ?_
     refine V (aV (I _) rfl) ?_
     refine RL.nil ?_
     refine ⟨k + 1, ?_, fr11.u4.u4.u4.u4.u1.u1.u1, hH15, (congrArg I (by first | rfl | omega)), ?_, ?_, ?_⟩
     ·((try dsimp only); omega)
     ·omega
     ·omega
     ·exact fun i u v => if e : i = k then e ▸ (nf ‹(!decide (eqE _ _)) = false›) else hg i u (by omega)
   ·refine CW.exit (id := 0) rfl ?_
    refine CW.seq ?_
    refine SR ?_
    refine V (aV (I 0) rfl) ?_
    refine RL.nil ?_
    refine CW.block ?_
    refine CW.loop (G := (Int)) (fun (j : Int) s' w' => (Fr [4, 6, 41, 42, 43, 44, 45, 46, 47, 48, 49, 50, 51, 52, 53, 54, 55, 56, 57, 58, 59] _ s') ∧ (Hp w w' _) ∧ (s' 6 = I j) ∧ (0 ≤ j) ∧ (j ≤ a.rows.length) ∧ (∀ i : Int, 0 ≤ i → i < j → sameL (a.rows.getD i.toNat vr0).l (b.rows.getD i.toNat vr0).l = true)) (fun (j : Int) => (a.rows.length - j).toNat) (0) ⟨Fr.refl _ _, hH11, rfl, (by omega), (by omega), fun j a b => absurd b (by omega)⟩ ?_
    rintro j sg18 w18 ⟨fr18, hH18, e6_18, j0, jk, hr⟩
    have e2_18 := (fr18 2 rfl).trans e2_11
    have e3_18 := (fr18 3 rfl).trans e3_11
    refine CW.seq ?_
    refine SR ?_
    refine V (run_move e6_18) ?_
    refine V (fA underlying29 1 rfl sizeOf27 e2_18) ?_
    refine V (run_ldV (ha.rows.sl.hp hH18) underlying27 rfl rfl (hH18.cell (i := 1) rfl rfl)) ?_
    refine V (run_lenSl (ha.rows.sl.hp hH18) rfl underlying27 rfl) ?_
    refine V (run_lss rfl rfl) ?_
    refine RL.nil ?_
    refine CW.condP rfl (fun h20 => ?_) (fun h20 => ?_)
    ·refine CW.skip ?_
     refine CW.seq ?_
     refine CW.block ?_
     refine CW.seq ?_
     refine CW.regionD (by kernel_rfl) hH18 ?_
     intro w21 hH22
     refine AT 0 rfl (hH22.sub sR) (fun w hS => fA underlying29 1 rfl sizeOf27 e2_18) ?_
     refine AT 1 rfl (hH22.sub sR) (fun w hS => run_ldV (ha.rows.sl.hp hS) underlying27 rfl rfl (hS.cell (i := 1) rfl rfl)) ?_
     refine AT 2 rfl (hH22.sub sR) (fun w hS => run_move e6_18) ?_
     refine AT 3 rfl (hH22.sub sR) (fun w hS => run_indexAddrS (ha.rows.sl.hp hS) underlying27 sizeOf48 rfl rfl (by omega)) ?_
     refine AT 4 rfl (hH22.sub sR) (fun w hS => run_ld underlying48 rfl rfl ((ha.rows.sl.hp hS).cell _ _ (rowsC_at (by omega)))) ?_
     refine AT 5 rfl (hH22.sub sR) (fun w hS => fA underlying29 1 rfl sizeOf27 e3_18) ?_
     refine AT 6 rfl (hH22.sub sR) (fun w hS => run_ldV (hb.rows.sl.hp hS) underlying27 rfl rfl (hS.cell (i := 0) rfl rfl)) ?_
     refine AT 7 rfl (hH22.sub sR) (fun w hS => run_move e6_18) ?_
     refine AT 8 rfl (hH22.sub sR) (fun w hS => run_indexAddrS (hb.rows.sl.hp hS) underlying27 sizeOf48 rfl rfl (by omega)) ?_
     refine AT 9 rfl (hH22.sub sR) (fun w hS => run_ld underlying48 rfl rfl ((hb.rows.sl.hp hS).cell _ _ (rowsC_at (by omega)))) ?_
     refine A1 10 ?_
     refine AO.callP rfl gnone rfl hH22 sR (c_clearanceref18_Fields _ _ _ _  _ ((ha.at (by omega) (by omega)).sl.hp hH22) ((hb.at (by omega) (by omega)).sl.hp hH22)) (run_call2 call29 rfl rfl) ?_
     intro w23 hH24
     refine AT 11 rfl (hH24.sub sR) (fun w hS => run_not rfl) ?_
     refine AD ?_
     refine CW.cond rfl (fun h27 => ?_) (fun h27 => ?_)
     ·refine SR ?_
      refine V (aV (B false) rfl) ?_
      refine RL.nil ?_
      refine CW.ret ?_
      refine outP1 Tryz.results11 (congrArg B ?_) hH24.below
      first | exact (same_3 h0 ‹k < _› (nt ‹(!decide (eqE _ _)) = true›)).symm | exact (same_4 j0 ‹j < _› (nt ‹(!sameL _ _) = true›)).symm | exact (same_y e1 e2 ‹¬ k < _› hg ‹¬ j < _› hr).symm | exact (same_1 ‹_›).symm | exact (same_2 ‹_›).symm
     ·refine CW.skip ?_
      refine CW.region ?_
      refine V (run_move e6_18) ?_
      refine V (run_add rfl rfl (by omega)) ?_
      refine V (aV (I _) rfl) ?_
      refine RL.nil ?_
      refine ⟨j + 1, ?_, fr18.u4.u4.u4.u4.u4, hH24, (congrArg I (by first | rfl | omega)), ?_, ?_, ?_⟩
      ·((try dsimp only); omega)
      ·omega
      ·omega
      ·exact fun i u v => if e : i = j then e ▸ (nf ‹(!sameL _ _) = false›) else hr i u (by omega)
    ·refine CW.exit (id := 2) rfl ?_
     refine SR ?_
     refine V (aV (B true) rfl) ?_
     refine RL.nil ?_
     refine CW.ret ?_
     refine outP1 Tryz.results11 (congrArg B ?_) hH18.below
     first | exact (same_3 h0 ‹k < _› (nt ‹(!decide (eqE _ _)) = true›)).symm | exact (same_4 j0 ‹j < _› (nt ‹(!sameL _ _) = true›)).symm | exact (same_y e1 e2 ‹¬ k < _› hg ‹¬ j < _› hr).symm | exact (same_1 ‹_›).symm | exact (same_2 ‹_›).symm

theorem c_assign_Same (a b : Asg) (w : World) (ha : AsgV (Kw w) a) (hb : AsgV (Kw w) b) : Calls Tryz.prog 16 #[.agg (asgL a).toArray, .agg (asgL b).toArray] w (Pure (B (sameA a.as b.as)) w) := by
 have hm1 := ha.labels.small
 have hm2 := ha.rows.small
 have hm3 := hb.labels.small
 have hm4 := hb.rows.small
 unfold maxLen at hm1 hm2 hm3 hm4
 refine enter Tryz.func16 rfl Tryz.ntmps16 rfl ?_
 have hH := Hp.start w
 refine SR ?_
 refine RL.new rfl hH (f := fun b => (.pointer (some ⟨b, 0, none⟩))) (run_box (v := .agg _) rfl) ?_
 intro b3 w1 hH2
 refine RL.new rfl hH2 (f := fun b => (.pointer (some ⟨b, 0, none⟩))) (run_box (v := .agg _) rfl) ?_
 intro b6 w4 hH5
 refine V (aV (B false) rfl) ?_
 refine RL.nil ?_
 refine CW.seq ?_
 refine SR ?_
 refine V (fA underlying29 0 rfl sizeOf26 rfl) ?_
 refine V (run_ldV (ha.labels.sl.hp hH5) underlying26 rfl rfl (hH5.cell (i := 1) rfl rfl)) ?_
 refine V (run_lenSl (ha.labels.sl.hp hH5) rfl underlying26 rfl) ?_
 refine V (fA underlying29 0 rfl sizeOf26 rfl) ?_
 refine V (run_ldV (hb.labels.sl.hp hH5) underlying26 rfl rfl (hH5.cell (i := 0) rfl rfl)) ?_
 refine V (run_lenSl (hb.labels.sl.hp hH5) rfl underlying26 rfl) ?_
 refine V (run_neq rfl rfl) ?_
 refine V (mV (B _) rfl) ?_
 refine RL.splitP (dj := 15) rfl (fun h8 => ?_) (fun h8 => ?_)
 ·refine RL.gF rfl rfl (bT h8) rfl ?_
  refine RL.gF rfl rfl (bT h8) rfl ?_
  refine RL.gF rfl rfl (bT h8) rfl ?_
  refine RL.gF rfl rfl (bT h8) rfl ?_
  refine RL.gF rfl rfl (bT h8) rfl ?_
  refine RL.gF rfl rfl (bT h8) rfl ?_
  refine RL.gF rfl rfl (bT h8) rfl ?_
  refine V (run_pickT (bT h8) (v := B true) rfl) ?_
  refine RL.nil ?_
  refine CW.condT rfl ?_
  refine SR ?_
  refine V (aV (B false) rfl) ?_
  refine RL.nil ?_
  refine CW.ret ?_
  refine outP1 Tryz.results16 (congrArg B ?_) hH5.below
  first | exact (same_3 h0 ‹k < _› (nt ‹(!decide (eqE _ _)) = true›)).symm | exact (same_4 j0 ‹j < _› (sameL_no2 q0 ‹q < _› (nt ‹(!sameV _ _) = true›))).symm | exact (same_4 j0 ‹j < _› (sameL_no1 ‹_›)).symm | exact (same_y e1 e2 ‹¬ k < _› hg ‹¬ j < _› hr).symm | exact (same_1 ‹_›).symm | exact (same_2 ‹_›).symm
 ·refine RL.gT rfl (bF h8) ?_
  refine V (fA underlying29 1 rfl sizeOf27 rfl) ?_
  refine RL.gT rfl (bF h8) ?_
  refine V (run_ldV (ha.rows.sl.hp hH5) underlying27 rfl rfl (hH5.cell (i := 1) rfl rfl)) ?_
  refine RL.gT rfl (bF h8) ?_
  refine V (run_lenSl (ha.rows.sl.hp hH5) rfl underlying27 rfl) ?_
  refine RL.gT rfl (bF h8) ?_
  refine V (fA underlying29 1 rfl sizeOf27 rfl) ?_
  refine RL.gT rfl (bF h8) ?_
  refine V (run_ldV (hb.rows.sl.hp hH5) underlying27 rfl rfl (hH5.cell (i := 0) rfl rfl)) ?_
  refine RL.gT rfl (bF h8) ?_
  refine V (run_lenSl (hb.rows.sl.hp hH5) rfl underlying27 rfl) ?_
  refine RL.gT rfl (bF h8) ?_
  refine V (run_neq rfl rfl) ?_
  refine V (run_pickF (bF h8) (v := B _) rfl) ?_
  refine RL.nil ?_
  refine CW.condP rfl (fun h10 => ?_) (fun h10 => ?_)
  ·refine SR ?_
   refine V (aV (B false) rfl) ?_
   refine RL.nil ?_
   refine CW.ret ?_
   refine outP1 Tryz.results16 (congrArg B ?_) hH5.below
   first | exact (same_3 h0 ‹k < _› (nt ‹(!decide (eqE _ _)) = true›)).symm | exact (same_4 j0 ‹j < _› (sameL_no2 q0 ‹q < _› (nt ‹(!sameV _ _) = true›))).symm | exact (same_4 j0 ‹j < _› (sameL_no1 ‹_›)).symm | exact (same_y e1 e2 ‹¬ k < _› hg ‹¬ j < _› hr).symm | exact (same_1 ‹_›).symm | exact (same_2 ‹_›).symm
  ·refine CW.skip ?_
   refine CW.seq ?_
   refine SR ?_
   refine V (fA underlying29 0 rfl sizeOf26 rfl) ?_
   refine V (run_ldV (ha.labels.sl.hp hH5) underlying26 rfl rfl (hH5.cell (i := 1) rfl rfl)) ?_
   refine V (run_lenSl (ha.labels.sl.hp hH5) rfl underlying26 rfl) ?_
   refine V (mV (I 0) rfl) ?_
   refine RL.nil ?_
   refine CW.block ?_
   have e1 : (a.labels.length : Int) = b.labels.length := by omega
   have e2 : (a.rows.length : Int) = b.rows.length := by omega
   refine CW.loop (G := (Int)) (fun (k : Int) s' w' => (Fr [4, 5, 27, 28, 29, 30, 31, 32, 33, 34, 35, 36, 37, 38, 39, 40, 41] _ s') ∧ (Hp w w' _) ∧ (s' 27 = I k) ∧ (0 ≤ k) ∧ (k ≤ a.labels.length) ∧ (∀ i : Int, 0 ≤ i → i < k → decide (eqE (a.labels.getD i.toNat el0) (b.labels.getD i.toNat el0)) = true)) (fun (k : Int) => (a.labels.length - k).toNat) (0) ⟨Fr.refl _ _, hH5, rfl, (by omega), (by omega), fun j a b => absurd b (by omega)⟩ ?_
   rintro k sg11 w11 ⟨fr11, hH11, e27_11, h0, hk, hg⟩
   have e2_11 : sg11 2 = Pn _ _ := (fr11 2 rfl).trans rfl
   have e3_11 : sg11 3 = Pn _ _ := (fr11 3 rfl).trans rfl
   have e26_11 : sg11 26 = I _ := (fr11 26 rfl).trans rfl
   refine SR ?_
   refine V (run_lss e27_11 e26_11) ?_
   refine RL.nil ?_
   refine CW.seq ?_
   refine CW.condP rfl (fun h13 => ?_) (fun h13 => ?_)
   ·refine CW.skip ?_
    refine CW.seq ?_
    refine CW.block ?_
    refine SR ?_
    refine V (run_move e27_11) ?_
    refine V (aV (I _) rfl) ?_
    refine RL.nil ?_
    refine CW.seq ?_
    refine CW.regionD (by kernel_rfl) hH11 ?_
    intro w14 hH15
    refine AT 0 rfl (hH15.sub sR) (fun w hS => fA underlying29 0 rfl sizeOf26 e2_11) ?_
    refine AT 1 rfl (hH15.sub sR) (fun w hS => run_ldV (ha.labels.sl.hp hS) underlying26 rfl rfl (hS.cell (i := 1) rfl rfl)) ?_
    refine AT 2 rfl (hH15.sub sR) (fun w hS => mV (I _) rfl) ?_
    refine AT 3 rfl (hH15.sub sR) (fun w hS => run_indexAddrS (ha.labels.sl.hp hS) underlying26 sizeOf51 rfl rfl (by omega)) ?_
    refine AT 4 rfl (hH15.sub sR) (fun w hS => run_ldElS (ha.labels.sl.hp hS) underlying51 rfl rfl rfl (by omega)) ?_
    refine AT 5 rfl (hH15.sub sR) (fun w hS => fA underlying29 0 rfl sizeOf26 e3_11) ?_
    refine AT 6 rfl (hH15.sub sR) (fun w hS => run_ldV (hb.labels.sl.hp hS) underlying26 rfl rfl (hS.cell (i := 0) rfl rfl)) ?_
    refine AT 7 rfl (hH15.sub sR) (fun w hS => mV (I _) rfl) ?_
    refine AT 8 rfl (hH15.sub sR) (fun w hS => run_indexAddrS (hb.labels.sl.hp hS) underlying26 sizeOf51 rfl rfl (by omega)) ?_
    refine AT 9 rfl (hH15.sub sR) (fun w hS => run_ldElS (hb.labels.sl.hp hS) underlying51 rfl rfl rfl (by omega)) ?_
    refine AT 10 rfl (hH15.sub sR) (fun w hS => run_neqEl elT_fact rfl rfl) ?_
    refine AD ?_
    refine CW.cond rfl (fun h17 => ?_) (fun h17 => ?_)
    ·refine SR ?_
     refine V (aV (B false) rfl) ?_
     refine RL.nil ?_
     refine CW.ret ?_
     refine outP1 Tryz.results16 (congrArg B ?_) hH15.below
     first | exact (same_3 h0 ‹k < _› (nt ‹(!decide (eqE _ _)) = true›)).symm | exact (same_4 j0 ‹j < _› (sameL_no2 q0 ‹q < _› (nt ‹(!sameV _ _) = true›))).symm | exact (same_4 j0 ‹j < _› (sameL_no1 ‹_›)).symm | exact (same_y e1 e2 ‹¬ k < _› hg ‹¬ j < _› hr).symm | exact (same_1 ‹_›).symm | exact (same_2 ‹_›).symm
    ·refine CW.skip ?_
     refine CW.region ?_
     refine V (run_add e27_11 rfl (by omega)) ?_
     refine V (mV (I _) rfl) ?_
     refine RL.nil ?_
     refine ⟨k + 1, ?_, fr11.u4.u4.u4.u4, hH15, (congrArg I (by first | rfl | omega)), ?_, ?_, ?_⟩
     ·((try dsimp only); omega)
     ·omega
     ·omega
     ·exact fun i u v => if e : i = k then e ▸ (nf ‹(!decide (eqE _ _)) = false›) else hg i u (by omega)
   ·refine CW.exit (id := 0) rfl ?_
    refine CW.seq ?_
    refine SR ?_
    refine V (fA underlying29 1 rfl sizeOf27 e2_11) ?_
    refine V (run_ldV (ha.rows.sl.hp hH11) underlying27 rfl rfl (hH11.cell (i := 1) rfl rfl)) ?_
    refine V (run_lenSl (ha.rows.sl.hp hH11) rfl underlying27 rfl) ?_
    refine V (mV (I 0) rfl) ?_
    refine RL.nil ?_
    refine CW.block ?_
    refine CW.loop (G := (Int)) (fun (j : Int) s' w' => (Fr [4, 6, 7, 45, 46, 47, 48, 49, 50, 51, 52, 53, 54, 55, 56, 57, 58, 59, 60, 61, 62, 63, 64, 65, 66, 67, 68, 69, 70, 71, 72, 73, 74, 75, 76, 77, 78, 79, 80, 81, 82, 83, 84, 85, 86, 87, 88] _ s') ∧ (Hp w w' _) ∧ (s' 45 = I j) ∧ (0 ≤ j) ∧ (j ≤ a.rows.length) ∧ (∀ i : Int, 0 ≤ i → i < j → sameL (a.rows.getD i.toNat vr0).l (b.rows.getD i.toNat vr0).l = true)) (fun (j : Int) => (a.rows.length - j).toNat) (0) ⟨Fr.refl _ _, hH11, rfl, (by omega), (by omega), fun j a b => absurd b (by omega)⟩ ?_
    rintro j sg18 w18 ⟨fr18, hH18, e45_18, j0, jk, hr⟩
    have e2_18 := (fr18 2 rfl).trans e2_11
    have e3_18 := (fr18 3 rfl).trans e3_11
    have e44_18 : sg18 44 = I _ := (fr18 44 rfl).trans rfl
    refine SR ?_
    refine V (run_lss e45_18 e44_18) ?_
    refine RL.nil ?_
    refine CW.seq ?_
    refine CW.condP rfl (fun h20 => ?_) (fun h20 => ?_)
    ·refine CW.skip ?_
     refine CW.seq ?_
     refine CW.block ?_
     refine SR ?_
     refine V (run_move e45_18) ?_
     refine V (aV (I _) rfl) ?_
     refine RL.nil ?_
     refine CW.seq ?_
     refine CW.seq ?_
     refine CW.regionD (by kernel_rfl) hH18 ?_
     intro w21 hH22
     refine AT 0 rfl (hH22.sub sR) (fun w hS => fA underlying29 1 rfl sizeOf27 e2_18) ?_
     refine AT 1 rfl (hH22.sub sR) (fun w hS => run_ldV (ha.rows.sl.hp hS) underlying27 rfl rfl (hS.cell (i := 1) rfl rfl)) ?_
     refine AT 2 rfl (hH22.sub sR) (fun w hS => mV (I _) rfl) ?_
     refine AT 3 rfl (hH22.sub sR) (fun w hS => run_indexAddrS (ha.rows.sl.hp hS) underlying27 sizeOf48 rfl rfl (by omega)) ?_
     refine AT 4 rfl (hH22.sub sR) (fun w hS => run_ld underlying48 rfl rfl ((ha.rows.sl.hp hS).cell _ _ (rowsC_at (by omega)))) ?_
     refine AT 5 rfl (hH22.sub sR) (fun w hS => run_lenSl ((ha.at (by omega) (by omega)).sl.hp hS) rfl underlying48 rfl) ?_
     refine AT 6 rfl (hH22.sub sR) (fun w hS => fA underlying29 1 rfl sizeOf27 e3_18) ?_
     refine AT 7 rfl (hH22.sub sR) (fun w hS => run_ldV (hb.rows.sl.hp hS) underlying27 rfl rfl (hS.cell (i := 0) rfl rfl)) ?_
     refine AT 8 rfl (hH22.sub sR) (fun w hS => mV (I _) rfl) ?_
     refine AT 9 rfl (hH22.sub sR) (fun w hS => run_indexAddrS (hb.rows.sl.hp hS) underlying27 sizeOf48 rfl rfl (by omega)) ?_
     refine AT 10 rfl (hH22.sub sR) (fun w hS => run_ld underlying48 rfl rfl ((hb.rows.sl.hp hS).cell _ _ (rowsC_at (by omega)))) ?_
     refine AT 11 rfl (hH22.sub sR) (fun w hS => run_lenSl ((hb.at (by omega) (by omega)).sl.hp hS) rfl underlying48 rfl) ?_
     refine AT 12 rfl (hH22.sub sR) (fun w hS => run_neq rfl rfl) ?_
     refine AD ?_
     refine CW.condP rfl (fun h24 => ?_) (fun h24 => ?_)
     ·refine SR ?_
      refine V (aV (B false) rfl) ?_
      refine RL.nil ?_
      refine CW.ret ?_
      refine outP1 Tryz.results16 (congrArg B ?_) hH22.below
      first | exact (same_3 h0 ‹k < _› (nt ‹(!decide (eqE _ _)) = true›)).symm | exact (same_4 j0 ‹j < _› (sameL_no2 q0 ‹q < _› (nt ‹(!sameV _ _) = true›))).symm | exact (same_4 j0 ‹j < _› (sameL_no1 ‹_›)).symm | exact (same_y e1 e2 ‹¬ k < _› hg ‹¬ j < _› hr).symm | exact (same_1 ‹_›).symm | exact (same_2 ‹_›).symm
     ·refine CW.skip ?_
      refine SR ?_
      refine V (fA underlying29 1 rfl sizeOf27 e2_18) ?_
      refine V (run_ldV (ha.rows.sl.hp hH22) underlying27 rfl rfl (hH22.cell (i := 1) rfl rfl)) ?_
      refine V (mV (I _) rfl) ?_
      refine V (run_indexAddrS (ha.rows.sl.hp hH22) underlying27 sizeOf48 rfl rfl (by omega)) ?_
      refine V (run_ld underlying48 rfl rfl ((ha.rows.sl.hp hH22).cell _ _ (rowsC_at (by omega)))) ?_
      refine V (run_lenSl ((ha.at (by omega) (by omega)).sl.hp hH22) rfl underlying48 rfl) ?_
      refine V (mV (I 0) rfl) ?_
      refine RL.nil ?_
      refine CW.block ?_
      have hlm : (((a.rows.getD j.toNat vr0).l).length : Int) = ((b.rows.getD j.toNat vr0).l).length := by omega
      have hm5 := (ha.at j0 ‹j < _›).small
      unfold maxLen at hm5
      refine CW.loop (G := (Int)) (fun (q : Int) s' w' => (Fr [4, 7, 67, 68, 69, 70, 71, 72, 73, 74, 75, 76, 77, 78, 79, 80, 81, 82, 83, 84, 85, 86, 87] _ s') ∧ (Hp w w' _) ∧ (s' 67 = I q) ∧ (0 ≤ q) ∧ (q ≤ (a.rows.getD j.toNat vr0).l.length) ∧ (∀ i : Int, 0 ≤ i → i < q → sameV ((a.rows.getD j.toNat vr0).l.getD i.toNat val0) ((b.rows.getD j.toNat vr0).l.getD i.toNat val0) = true)) (fun (q : Int) => ((a.rows.getD j.toNat vr0).l.length - q).toNat) (0) ⟨Fr.refl _ _, hH22, rfl, (by omega), (by omega), fun j a b => absurd b (by omega)⟩ ?_
      rintro q sg25 w25 ⟨fr25, hH25, e67_25, q0, qk, hq⟩
      have e2_25 := (fr25 2 rfl).trans e2_18
      have e3_25 := (fr25 3 rfl).trans e3_18
      have e6_25 : sg25 6 = I _ := (fr25 6 rfl).trans rfl
      have e44_25 := (fr25 44 rfl).trans e44_18
      have e45_25 := (fr25 45 rfl).trans e45_18
      have e46_25 := (fr25 46 rfl).trans (by conv => lhs; whnf)
      have e47_25 : sg25 47 = I _ := (fr25 47 rfl).trans rfl
      have e48_25 : sg25 48 = Pn _ _ := (fr25 48 rfl).trans rfl
      have e49_25 := (fr25 49 rfl).trans (by conv => lhs; whnf)
      have e50_25 : sg25 50 = I _ := (fr25 50 rfl).trans rfl
      have e51_25 : sg25 51 = Pn _ _ := (fr25 51 rfl).trans rfl
      have e52_25 := (fr25 52 rfl).trans (by conv => lhs; whnf)
      have e53_25 : sg25 53 = I _ := (fr25 53 rfl).trans rfl
      have e54_25 : sg25 54 = Pn _ _ := (fr25 54 rfl).trans rfl
      have e55_25 := (fr25 55 rfl).trans (by conv => lhs; whnf)
      have e56_25 : sg25 56 = I _ := (fr25 56 rfl).trans rfl
      have e57_25 : sg25 57 = Pn _ _ := (fr25 57 rfl).trans rfl
      have e58_25 := (fr25 58 rfl).trans (by conv => lhs; whnf)
      have e59_25 : sg25 59 = I _ := (fr25 59 rfl).trans rfl
      have e60_25 : sg25 60 = B _ := (fr25 60 rfl).trans rfl
      have e61_25 : sg25 61 = Pn _ _ := (fr25 61 rfl).trans rfl
      have e62_25 := (fr25 62 rfl).trans (by conv => lhs; whnf)
      have e63_25 : sg25 63 = I _ := (fr25 63 rfl).trans rfl
      have e64_25 : sg25 64 = Pn _ _ := (fr25 64 rfl).trans rfl
      have e65_25 := (fr25 65 rfl).trans (by conv => lhs; whnf)
      have e66_25 : sg25 66 = I _ := (fr25 66 rfl).trans rfl
      refine SR ?_
      refine V (run_lss e67_25 e66_25) ?_
      refine RL.nil ?_
      refine CW.seq ?_
      refine CW.condP rfl (fun h27 => ?_) (fun h27 => ?_)
      ·refine CW.skip ?_
       refine CW.seq ?_
       refine CW.block ?_
       refine SR ?_
       refine V (run_move e67_25) ?_
       refine V (aV (I _) rfl) ?_
       refine RL.nil ?_
       refine CW.seq ?_
       refine CW.regionD (by kernel_rfl) hH25 ?_
       intro w28 hH29
       refine AT 0 rfl (hH29.sub sR) (fun w hS => fA underlying29 1 rfl sizeOf27 e2_25) ?_
       refine AT 1 rfl (hH29.sub sR) (fun w hS => run_ldV (ha.rows.sl.hp hS) underlying27 rfl rfl (hS.cell (i := 1) rfl rfl)) ?_
       refine AT 2 rfl (hH29.sub sR) (fun w hS => run_move e6_25) ?_
       refine AT 3 rfl (hH29.sub sR) (fun w hS => run_indexAddrS (ha.rows.sl.hp hS) underlying27 sizeOf48 rfl rfl (by omega)) ?_
       refine AT 4 rfl (hH29.sub sR) (fun w hS => run_ld underlying48 rfl rfl ((ha.rows.sl.hp hS).cell _ _ (rowsC_at (by omega)))) ?_
       refine AT 5 rfl (hH29.sub sR) (fun w hS => mV (I _) rfl) ?_
       refine AT 6 rfl (hH29.sub sR) (fun w hS => run_indexAddrS ((ha.at (by omega) (by omega)).sl.hp hS) underlying48 sizeOf53 rfl rfl (by omega)) ?_
       refine AT 7 rfl (hH29.sub sR) (fun w hS => run_ldE (dv := val0) valL_len ((ha.at (by omega) (by omega)).sl.hp hS) underlying53 rfl rfl rfl (by omega)) ?_
       refine AT 8 rfl (hH29.sub sR) (fun w hS => fA underlying29 1 rfl sizeOf27 e3_25) ?_
       refine AT 9 rfl (hH29.sub sR) (fun w hS => run_ldV (hb.rows.sl.hp hS) underlying27 rfl rfl (hS.cell (i := 0) rfl rfl)) ?_
       refine AT 10 rfl (hH29.sub sR) (fun w hS => run_move e6_25) ?_
       refine AT 11 rfl (hH29.sub sR) (fun w hS => run_indexAddrS (hb.rows.sl.hp hS) underlying27 sizeOf48 rfl rfl (by omega)) ?_
       refine AT 12 rfl (hH29.sub sR) (fun w hS => run_ld underlying48 rfl rfl ((hb.rows.sl.hp hS).cell _ _ (rowsC_at (by omega)))) ?_
       refine AT 13 rfl (hH29.sub sR) (fun w hS => mV (I _) rfl) ?_
       refine AT 14 rfl (hH29.sub sR) (fun w hS => run_indexAddrS ((hb.at (by omega) (by omega)).sl.hp hS) underlying48 sizeOf53 rfl rfl (by omega)) ?_
       refine AT 15 rfl (hH29.sub sR) (fun w hS => run_ldE (dv := val0) valL_len ((hb.at (by omega) (by omega)).sl.hp hS) underlying53 rfl rfl rfl (by omega)) ?_
       refine AT 16 rfl (hH29.sub sR) (fun w hS => run_neqT (eq_val _ _) rfl rfl) ?_
       refine AD ?_
       refine CW.cond rfl (fun h31 => ?_) (fun h31 => ?_)
       ·refine SR ?_
        refine V (aV (B false) rfl) ?_
        refine RL.nil ?_
        refine CW.ret ?_
        refine outP1 Tryz.results16 (congrArg B ?_) hH29.below
        first | exact (same_3 h0 ‹k < _› (nt ‹(!decide (eqE _ _)) = true›)).symm | exact (same_4 j0 ‹j < _› (sameL_no2 q0 ‹q < _› (nt ‹(!sameV _ _) = true›))).symm | exact (same_4 j0 ‹j < _› (sameL_no1 ‹_›)).symm | exact (same_y e1 e2 ‹¬ k < _› hg ‹¬ j < _› hr).symm | exact (same_1 ‹_›).symm | exact (same_2 ‹_›).symm
       ·refine CW.skip ?_
        refine CW.region ?_
        refine V (run_add e67_25 rfl (by omega)) ?_
        refine V (mV (I _) rfl) ?_
        refine RL.nil ?_
        refine ⟨q + 1, ?_, fr25.u4.u4.u4.u4.u4.u1.u1, hH29, (congrArg I (by first | rfl | omega)), ?_, ?_, ?_⟩
        ·((try dsimp only); omega)
        ·omega
        ·omega
        ·exact fun i u v => if e : i = q then e ▸ nf ‹(!sameV _ _) = false› else hq i u (by omega)
      ·refine CW.exit (id := 4) rfl ?_
       refine CW.region ?_
       refine V (run_add e45_25 rfl (by omega)) ?_
       refine V (mV (I _) rfl) ?_
       refine RL.nil ?_
       refine ⟨j + 1, ?_, (((fr18.u4.u4.u4.u4.u4.u1.u1.u1).t fr25 rfl)).u1.u1.u1, hH25, (congrArg I (by first | rfl | omega)), ?_, ?_, ?_⟩
       ·((try dsimp only); omega)
       ·omega
       ·omega
       ·exact fun i u v => if e : i = j then e ▸ (sameL_yes hlm ‹¬ q < _› hq) else hr i u (by omega)
    ·refine CW.exit (id := 2) rfl ?_
     refine SR ?_
     refine V (aV (B true) rfl) ?_
     refine RL.nil ?_
     refine CW.ret ?_
     refine outP1 Tryz.results16 (congrArg B ?_) hH18.below
     first | exact (same_3 h0 ‹k < _› (nt ‹(!decide (eqE _ _)) = true›)).symm | exact (same_4 j0 ‹j < _› (sameL_no2 q0 ‹q < _› (nt ‹(!sameV _ _) = true›))).symm | exact (same_4 j0 ‹j < _› (sameL_no1 ‹_›)).symm | exact (same_y e1 e2 ‹¬ k < _› hg ‹¬ j < _› hr).symm | exact (same_1 ‹_›).symm | exact (same_2 ‹_›).symm

theorem c_assign_Leq (a b : Asg) (w : World) (ha : AsgV (Kw w) a) (hb : AsgV (Kw w) b) : Calls Tryz.prog 17 #[.agg (asgL a).toArray, .agg (asgL b).toArray] w (Pure (B (leqA a.as b.as)) w) := by
 have hm1 := ha.labels.small
 have hm2 := ha.rows.small
 have hm3 := hb.labels.small
 have hm4 := hb.rows.small
 unfold maxLen at hm1 hm2 hm3 hm4
 refine enter Tryz.func17 rfl Tryz.ntmps17 rfl ?_
 have hH := Hp.start w
 refine SR ?_
 refine RL.new rfl hH (f := fun b => (.pointer (some ⟨b, 0, none⟩))) (run_box (v := .agg _) rfl) ?_
 intro b3 w1 hH2
 refine RL.new rfl hH2 (f := fun b => (.pointer (some ⟨b, 0, none⟩))) (run_box (v := .agg _) rfl) ?_
 intro b6 w4 hH5
 refine V (aV (B false) rfl) ?_
 refine RL.nil ?_
 refine CW.seq ?_
 refine SR ?_
 refine V (fA underlying29 0 rfl sizeOf26 rfl) ?_
 refine V (run_ldV (ha.labels.sl.hp hH5) underlying26 rfl rfl (hH5.cell (i := 1) rfl rfl)) ?_
 refine V (run_lenSl (ha.labels.sl.hp hH5) rfl underlying26 rfl) ?_
 refine V (mV (I 0) rfl) ?_
 refine RL.nil ?_
 refine CW.block ?_
 refine CW.loop (G := (Int)) (fun (k : Int) s' w' => (Fr [4, 5, 10, 11, 12, 13, 14, 15, 16, 17, 18, 19, 20, 21, 22, 23, 24] _ s') ∧ (Hp w w' _) ∧ (s' 10 = I k) ∧ (0 ≤ k) ∧ (k ≤ a.labels.length) ∧ (∀ i : Int, 0 ≤ i → i < k → leqE (a.labels.getD i.toNat el0) (b.labels.getD i.toNat el0) = true)) (fun (k : Int) => (a.labels.length - k).toNat) (0) ⟨Fr.refl _ _, hH5, rfl, (by omega), (by omega), fun j a b => absurd b (by omega)⟩ ?_
 rintro k sg7 w7 ⟨fr7, hH7, e10_7, h0, hk, hg⟩
 have e2_7 : sg7 2 = Pn _ _ := (fr7 2 rfl).trans rfl
 have e3_7 : sg7 3 = Pn _ _ := (fr7 3 rfl).trans rfl
 have e9_7 : sg7 9 = I _ := (fr7 9 rfl).trans rfl
 refine SR ?_
 refine V (run_lss e10_7 e9_7) ?_
 refine RL.nil ?_
 refine CW.seq ?_
 refine CW.condP rfl (fun h9 => ?_) (fun h9 => ?_)
 ·refine CW.skip ?_
  refine CW.seq ?_
  refine CW.block ?_
  refine SR ?_
  refine V (run_move e10_7) ?_
  refine V (aV (I _) rfl) ?_
  refine RL.nil ?_
  refine CW.seq ?_
  refine CW.regionD (by kernel_rfl) hH7 ?_
  intro w10 hH11
  refine AT 0 rfl (hH11.sub sR) (fun w hS => fA underlying29 0 rfl sizeOf26 e2_7) ?_
  refine AT 1 rfl (hH11.sub sR) (fun w hS => run_ldV (ha.labels.sl.hp hS) underlying26 rfl rfl (hS.cell (i := 1) rfl rfl)) ?_
  refine AT 2 rfl (hH11.sub sR) (fun w hS => mV (I _) rfl) ?_
  refine AT 3 rfl (hH11.sub sR) (fun w hS => run_indexAddrS (ha.labels.sl.hp hS) underlying26 sizeOf51 rfl rfl (by omega)) ?_
  refine AT 4 rfl (hH11.sub sR) (fun w hS => run_ldElS (ha.labels.sl.hp hS) underlying51 rfl rfl rfl (by omega)) ?_
  refine AT 5 rfl (hH11.sub sR) (fun w hS => fA underlying29 0 rfl sizeOf26 e3_7) ?_
  refine AT 6 rfl (hH11.sub sR) (fun w hS => run_ldV (hb.labels.sl.hp hS) underlying26 rfl rfl (hS.cell (i := 0) rfl rfl)) ?_
  refine AT 7 rfl (hH11.sub sR) (fun w hS => mV (I _) rfl) ?_
  refine A1 8 ?_
  refine AO.callP rfl gnone rfl hH11 sR (c_assign_at_api_Elem _ _ _ (by omega) _ (hb.labels.sl.hp hH11)) (run_call2 call38 rfl rfl) ?_
  intro w12 hH13
  refine A1 9 ?_
  refine AO.callP rfl gnone rfl hH13 sR (c_shape_Leq _ _  _) (run_call2 call37 rfl rfl) ?_
  intro w14 hH15
  refine AT 10 rfl (hH15.sub sR) (fun w hS => run_not rfl) ?_
  refine AD ?_
  refine CW.cond rfl (fun h18 => ?_) (fun h18 => ?_)
  ·refine SR ?_
   refine V (aV (B false) rfl) ?_
   refine RL.nil ?_
   refine CW.ret ?_
   refine outP1 Tryz.results17 (congrArg B ?_) hH15.below
   first | exact (leqA_1 h0 ‹k < _› (nt ‹(!leqE _ _) = true›)).symm | exact (leqA_2 j0 ‹j < _› (nt ‹(!belowL _ _) = true›)).symm | exact (leqA_y ‹¬ k < _› hg ‹¬ j < _› hr).symm
  ·refine CW.skip ?_
   refine CW.region ?_
   refine V (run_add e10_7 rfl (by omega)) ?_
   refine V (mV (I _) rfl) ?_
   refine RL.nil ?_
   refine ⟨k + 1, ?_, fr7.u4.u4.u4.u4, hH15, (congrArg I (by first | rfl | omega)), ?_, ?_, ?_⟩
   ·((try dsimp only); omega)
   ·omega
   ·omega
   ·exact fun i u v => if e : i = k then e ▸ (nf ‹(!leqE _ _) = false›) else hg i u (by omega)
 ·refine CW.exit (id := 0) rfl ?_
  refine CW.seq ?_
  refine SR ?_
  refine V (fA underlying29 1 rfl sizeOf27 e2_7) ?_
  refine V (run_ldV (ha.rows.sl.hp hH7) underlying27 rfl rfl (hH7.cell (i := 1) rfl rfl)) ?_
  refine V (run_lenSl (ha.rows.sl.hp hH7) rfl underlying27 rfl) ?_
  refine V (mV (I 0) rfl) ?_
  refine RL.nil ?_
  refine CW.block ?_
  refine CW.loop (G := (Int)) (fun (j : Int) s' w' => (Fr [4, 6, 28, 29, 30, 31, 32, 33, 34, 35, 36, 37, 38, 39, 40, 41, 42] _ s') ∧ (Hp w w' _) ∧ (s' 28 = I j) ∧ (0 ≤ j) ∧ (j ≤ a.rows.length) ∧ (∀ i : Int, 0 ≤ i → i < j → belowL (a.rows.getD i.toNat vr0).l (b.rows.getD i.toNat vr0).l = true)) (fun (j : Int) => (a.rows.length - j).toNat) (0) ⟨Fr.refl _ _, hH7, rfl, (by omega), (by omega), fun j a b => absurd b (by omega)⟩ ?_
  rintro j sg19 w19 ⟨fr19, hH19, e28_19, j0, jk, hr⟩
  have e2_19 := (fr19 2 rfl).trans e2_7
  have e3_19 := (fr19 3 rfl).trans e3_7
  have e27_19 : sg19 27 = I _ := (fr19 27 rfl).trans rfl
  refine SR ?_
  refine V (run_lss e28_19 e27_19) ?_
  refine RL.nil ?_
  refine CW.seq ?_
  refine CW.condP rfl (fun h21 => ?_) (fun h21 => ?_)
  ·refine CW.skip ?_
   refine CW.seq ?_
   refine CW.block ?_
   refine SR ?_
   refine V (run_move e28_19) ?_
   refine V (aV (I _) rfl) ?_
   refine RL.nil ?_
   refine CW.seq ?_
   refine CW.regionD (by kernel_rfl) hH19 ?_
   intro w22 hH23
   refine AT 0 rfl (hH23.sub sR) (fun w hS => fA underlying29 1 rfl sizeOf27 e2_19) ?_
   refine AT 1 rfl (hH23.sub sR) (fun w hS => run_ldV (ha.rows.sl.hp hS) underlying27 rfl rfl (hS.cell (i := 1) rfl rfl)) ?_
   refine AT 2 rfl (hH23.sub sR) (fun w hS => mV (I _) rfl) ?_
   refine AT 3 rfl (hH23.sub sR) (fun w hS => run_indexAddrS (ha.rows.sl.hp hS) underlying27 sizeOf48 rfl rfl (by omega)) ?_
   refine AT 4 rfl (hH23.sub sR) (fun w hS => run_ld underlying48 rfl rfl ((ha.rows.sl.hp hS).cell _ _ (rowsC_at (by omega)))) ?_
   refine AT 5 rfl (hH23.sub sR) (fun w hS => fA underlying29 1 rfl sizeOf27 e3_19) ?_
   refine AT 6 rfl (hH23.sub sR) (fun w hS => run_ldV (hb.rows.sl.hp hS) underlying27 rfl rfl (hS.cell (i := 0) rfl rfl)) ?_
   refine AT 7 rfl (hH23.sub sR) (fun w hS => mV (I _) rfl) ?_
   refine A1 8 ?_
   refine AO.callP rfl gnone rfl hH23 sR (c_assign_at_api_Value _ _ _ (by omega) _ (hb.rows.sl.hp hH23)) (run_call2 call40 rfl rfl) ?_
   intro w24 hH25
   refine A1 9 ?_
   refine AO.callP rfl gnone rfl hH25 sR (c_assign_below _ _ _ _  _ ((ha.at (by omega) (by omega)).sl.hp hH25) ((hb.each.or j.toNat).sl.hp hH25)) (run_call2 call39 rfl rfl) ?_
   intro w26 hH27
   refine AT 10 rfl (hH27.sub sR) (fun w hS => run_not rfl) ?_
   refine AD ?_
   refine CW.cond rfl (fun h30 => ?_) (fun h30 => ?_)
   ·refine SR ?_
    refine V (aV (B false) rfl) ?_
    refine RL.nil ?_
    refine CW.ret ?_
    refine outP1 Tryz.results17 (congrArg B ?_) hH27.below
    first | exact (leqA_1 h0 ‹k < _› (nt ‹(!leqE _ _) = true›)).symm | exact (leqA_2 j0 ‹j < _› (nt ‹(!belowL _ _) = true›)).symm | exact (leqA_y ‹¬ k < _› hg ‹¬ j < _› hr).symm
   ·refine CW.skip ?_
    refine CW.region ?_
    refine V (run_add e28_19 rfl (by omega)) ?_
    refine V (mV (I _) rfl) ?_
    refine RL.nil ?_
    refine ⟨j + 1, ?_, fr19.u4.u4.u4.u4, hH27, (congrArg I (by first | rfl | omega)), ?_, ?_, ?_⟩
    ·((try dsimp only); omega)
    ·omega
    ·omega
    ·exact fun i u v => if e : i = j then e ▸ (nf ‹(!belowL _ _) = false›) else hr i u (by omega)
  ·refine CW.exit (id := 2) rfl ?_
   refine SR ?_
   refine V (aV (B true) rfl) ?_
   refine RL.nil ?_
   refine CW.ret ?_
   refine outP1 Tryz.results17 (congrArg B ?_) hH19.below
   first | exact (leqA_1 h0 ‹k < _› (nt ‹(!leqE _ _) = true›)).symm | exact (leqA_2 j0 ‹j < _› (nt ‹(!belowL _ _) = true›)).symm | exact (leqA_y ‹¬ k < _› hg ‹¬ j < _› hr).symm

theorem c_clearanceref18_Leq (a b : Asg) (w : World) (ha : AsgV (Kw w) a) (hb : AsgV (Kw w) b) : Calls Tryz.prog 18 #[.agg (asgL a).toArray, .agg (asgL b).toArray] w (Pure (B (leqA a.as b.as)) w) := by
 have hm1 := ha.labels.small
 have hm2 := ha.rows.small
 have hm3 := hb.labels.small
 have hm4 := hb.rows.small
 unfold maxLen at hm1 hm2 hm3 hm4
 refine enter Tryz.func18 rfl Tryz.ntmps18 rfl ?_
 have hH := Hp.start w
 refine SR ?_
 refine RL.new rfl hH (f := fun b => (.pointer (some ⟨b, 0, none⟩))) (run_box (v := .agg _) rfl) ?_
 intro b3 w1 hH2
 refine RL.new rfl hH2 (f := fun b => (.pointer (some ⟨b, 0, none⟩))) (run_box (v := .agg _) rfl) ?_
 intro b6 w4 hH5
 refine V (aV (B false) rfl) ?_
 refine RL.nil ?_
 refine CW.seq ?_
 refine SR ?_
 refine V (aV (I 0) rfl) ?_
 refine RL.nil ?_
 refine CW.block ?_
 refine CW.loop (G := (Int)) (fun (k : Int) s' w' => (Fr [4, 5, 11, 12, 13, 14, 15, 16, 17, 18, 19, 20, 21, 22, 23, 24, 25, 26, 27] _ s') ∧ (Hp w w' _) ∧ (s' 5 = I k) ∧ (0 ≤ k) ∧ (k ≤ a.labels.length) ∧ (∀ i : Int, 0 ≤ i → i < k → leqE (a.labels.getD i.toNat el0) (b.labels.getD i.toNat el0) = true)) (fun (k : Int) => (a.labels.length - k).toNat) (0) ⟨Fr.refl _ _, hH5, rfl, (by omega), (by omega), fun j a b => absurd b (by omega)⟩ ?_
 rintro k sg7 w7 ⟨fr7, hH7, e5_7, h0, hk, hg⟩
 have e2_7 : sg7 2 = Pn _ _ := (fr7 2 rfl).trans rfl
 have e3_7 : sg7 3 = Pn _ _ := (fr7 3 rfl).trans rfl
 refine CW.seq ?_
 refine SR ?_
 refine V (run_move e5_7) ?_
 refine V (fA underlying29 0 rfl sizeOf26 e2_7) ?_
 refine V (run_ldV (ha.labels.sl.hp hH7) underlying26 rfl rfl (hH7.cell (i := 1) rfl rfl)) ?_
 refine V (run_lenSl (ha.labels.sl.hp hH7) rfl underlying26 rfl) ?_
 refine V (run_lss rfl rfl) ?_
 refine RL.nil ?_
 refine CW.condP rfl (fun h9 => ?_) (fun h9 => ?_)
 ·refine CW.skip ?_
  refine CW.seq ?_
  refine CW.block ?_
  refine CW.seq ?_
  refine CW.regionD (by kernel_rfl) hH7 ?_
  intro w10 hH11
  refine AT 0 rfl (hH11.sub sR) (fun w hS => fA underlying29 0 rfl sizeOf26 e2_7) ?_
  refine AT 1 rfl (hH11.sub sR) (fun w hS => run_ldV (ha.labels.sl.hp hS) underlying26 rfl rfl (hS.cell (i := 1) rfl rfl)) ?_
  refine AT 2 rfl (hH11.sub sR) (fun w hS => run_move e5_7) ?_
  refine AT 3 rfl (hH11.sub sR) (fun w hS => run_indexAddrS (ha.labels.sl.hp hS) underlying26 sizeOf51 rfl rfl (by omega)) ?_
  refine AT 4 rfl (hH11.sub sR) (fun w hS => run_ldElS (ha.labels.sl.hp hS) underlying51 rfl rfl rfl (by omega)) ?_
  refine AT 5 rfl (hH11.sub sR) (fun w hS => run_ldA (cs := asgL _) underlying29 rfl rfl e3_7 (rangeAt_cells (hS.blk (i := 0) rfl))) ?_
  refine AT 6 rfl (hH11.sub sR) (fun w hS => run_move e5_7) ?_
  refine A1 7 ?_
  refine AO.callP rfl gnone rfl hH11 sR (c_clearanceref18_label _ _ (by omega) _ (hb.mono hH11.kw)) (run_call2 call42 rfl rfl) ?_
  intro w12 hH13
  refine A1 8 ?_
  refine AO.callP rfl gnone rfl hH13 sR (c_clearanceref07_Leq _ _  _) (run_call2 call41 rfl rfl) ?_
  intro w14 hH15
  refine AT 9 rfl (hH15.sub sR) (fun w hS => run_not rfl) ?_
  refine AD ?_
  refine CW.cond rfl (fun h18 => ?_) (fun h18 => ?_)
  ·refine SR ?_
   refine V (aV (B false) rfl) ?_
   refine RL.nil ?_
   refine CW.ret ?_
   refine outP1 Tryz.results18 (congrArg B ?_) hH15.below
   first | exact (leqA_1 h0 ‹k < _› (nt ‹(!leqE _ _) = true›)).symm | exact (leqA_2 j0 ‹j < _› (below_no1 q0 ‹q < _› (nt ‹(!(getF _ _).2) = true›))).symm | exact (leqA_2 j0 ‹j < _› (below_no2 q0 ‹q < _› (nt ‹(!leqE (ValR.el _) _) = true›))).symm | exact (leqA_y ‹¬ k < _› hg ‹¬ j < _› hr).symm
  ·refine CW.skip ?_
   refine CW.region ?_
   refine V (run_move e5_7) ?_
   refine V (run_add rfl rfl (by omega)) ?_
   refine V (aV (I _) rfl) ?_
   refine RL.nil ?_
   refine ⟨k + 1, ?_, fr7.u4.u4.u4.u4.u1.u1, hH15, (congrArg I (by first | rfl | omega)), ?_, ?_, ?_⟩
   ·((try dsimp only); omega)
   ·omega
   ·omega
   ·exact fun i u v => if e : i = k then e ▸ (nf ‹(!leqE _ _) = false›) else hg i u (by omega)
 ·refine CW.exit (id := 0) rfl ?_
  refine CW.seq ?_
  refine SR ?_
  refine V (aV (I 0) rfl) ?_
  refine RL.nil ?_
  refine CW.block ?_
  refine CW.loop (G := (Int)) (fun (j : Int) s' w' => (Fr [4, 6, 7, 8, 9, 10, 28, 29, 30, 31, 32, 33, 34, 35, 36, 37, 38, 39, 40, 41, 42, 43, 44, 45, 46, 47, 48, 49, 50, 51, 52, 53, 54, 55, 56, 57, 58, 59, 60, 61, 62, 63, 64, 65, 66, 67, 68, 69, 70] _ s') ∧ (Hp w w' _) ∧ (s' 6 = I j) ∧ (0 ≤ j) ∧ (j ≤ a.rows.length) ∧ (∀ i : Int, 0 ≤ i → i < j → belowL (a.rows.getD i.toNat vr0).l (b.rows.getD i.toNat vr0).l = true)) (fun (j : Int) => (a.rows.length - j).toNat) (0) ⟨Fr.refl _ _, hH7, rfl, (by omega), (by omega), fun j a b => absurd b (by omega)⟩ ?_
  rintro j sg19 w19 ⟨fr19, hH19, e6_19, j0, jk, hr⟩
  have e2_19 := (fr19 2 rfl).trans e2_7
  have e3_19 := (fr19 3 rfl).trans e3_7
  refine CW.seq ?_
  refine SR ?_
  refine V (run_move e6_19) ?_
  refine V (fA underlying29 1 rfl sizeOf27 e2_19) ?_
  refine V (run_ldV (ha.rows.sl.hp hH19) underlying27 rfl rfl (hH19.cell (i := 1) rfl rfl)) ?_
  refine V (run_lenSl (ha.rows.sl.hp hH19) rfl underlying27 rfl) ?_
  refine V (run_lss rfl rfl) ?_
  refine RL.nil ?_
  refine CW.condP rfl (fun h21 => ?_) (fun h21 => ?_)
  ·refine CW.skip ?_
   refine CW.seq ?_
   refine CW.block ?_
   refine SR ?_
   refine V (aV (I 0) rfl) ?_
   refine RL.nil ?_
   refine CW.block ?_
   have hm5 := (ha.at j0 ‹j < _›).small
   unfold maxLen at hm5
   refine CW.loop (G := (Int)) (fun (q : Int) s' w' => (Fr [4, 7, 8, 9, 10, 35, 36, 37, 38, 39, 40, 41, 42, 43, 44, 45, 46, 47, 48, 49, 50, 51, 52, 53, 54, 55, 56, 57, 58, 59, 60, 61, 62, 63, 64, 65, 66, 67, 68, 69, 70] _ s') ∧ (Hp w w' _) ∧ (s' 7 = I q) ∧ (0 ≤ q) ∧ (q ≤ (a.rows.getD j.toNat vr0).l.length) ∧ (∀ i : Int, 0 ≤ i → i < q → ((getF (b.rows.getD j.toNat vr0).l ((a.rows.getD j.toNat vr0).l.getD i.toNat val0).name).2 && leqE ((a.rows.getD j.toNat vr0).l.getD i.toNat val0).el (getF (b.rows.getD j.toNat vr0).l ((a.rows.getD j.toNat vr0).l.getD i.toNat val0).name).1) = true)) (fun (q : Int) => ((a.rows.getD j.toNat vr0).l.length - q).toNat) (0) ⟨Fr.refl _ _, hH19, rfl, (by omega), (by omega), fun j a b => absurd b (by omega)⟩ ?_
   rintro q sg22 w22 ⟨fr22, hH22, e7_22, q0, qk, hq⟩
   have e2_22 := (fr22 2 rfl).trans e2_19
   have e3_22 := (fr22 3 rfl).trans e3_19
   have e6_22 := (fr22 6 rfl).trans e6_19
   have e28_22 : sg22 28 = I _ := (fr22 28 rfl).trans rfl
   have e29_22 : sg22 29 = Pn _ _ := (fr22 29 rfl).trans rfl
   have e30_22 := (fr22 30 rfl).trans (by conv => lhs; whnf)
   have e31_22 : sg22 31 = I _ := (fr22 31 rfl).trans rfl
   have e32_22 : sg22 32 = B _ := (fr22 32 rfl).trans rfl
   refine CW.seq ?_
   refine SR ?_
   refine V (run_move e7_22) ?_
   refine V (fA underlying29 1 rfl sizeOf27 e2_22) ?_
   refine V (run_ldV (ha.rows.sl.hp hH22) underlying27 rfl rfl (hH22.cell (i := 1) rfl rfl)) ?_
   refine V (run_move e6_22) ?_
   refine V (run_indexAddrS (ha.rows.sl.hp hH22) underlying27 sizeOf48 rfl rfl (by omega)) ?_
   refine V (run_ld underlying48 rfl rfl ((ha.rows.sl.hp hH22).cell _ _ (rowsC_at (by omega)))) ?_
   refine V (run_lenSl ((ha.at (by omega) (by omega)).sl.hp hH22) rfl underlying48 rfl) ?_
   refine V (run_lss rfl rfl) ?_
   refine RL.nil ?_
   refine CW.condP rfl (fun h24 => ?_) (fun h24 => ?_)
   ·refine CW.skip ?_
    refine CW.seq ?_
    refine CW.block ?_
    refine SR ?_
    refine V (fA underlying29 1 rfl sizeOf27 e2_22) ?_
    refine V (run_ldV (ha.rows.sl.hp hH22) underlying27 rfl rfl (hH22.cell (i := 1) rfl rfl)) ?_
    refine V (run_move e6_22) ?_
    refine V (run_indexAddrS (ha.rows.sl.hp hH22) underlying27 sizeOf48 rfl rfl (by omega)) ?_
    refine V (run_ld underlying48 rfl rfl ((ha.rows.sl.hp hH22).cell _ _ (rowsC_at (by omega)))) ?_
    refine V (run_move e7_22) ?_
    refine V (run_indexAddrS ((ha.at (by omega) (by omega)).sl.hp hH22) underlying48 sizeOf53 rfl rfl (by omega)) ?_
    refine V (run_ldE (dv := val0) valL_len ((ha.at (by omega) (by omega)).sl.hp hH22) underlying53 rfl rfl rfl (by omega)) ?_
    refine RL.new rfl hH22 (f := fun b => (.pointer (some ⟨b, 0, none⟩))) (run_alloc zero_val) ?_
    intro b27 w25 hH26
    refine RL.set hH26 (i := 0) rfl (run_stW (c' := (valL _).toArray) rfl rfl rfl (valL_one _) (hH26.blk (i := 0) rfl) rfl) ?_
    intro w28 hH29
    simp only [z0, z1] at hH29
    refine RL.nil ?_
    refine CW.seq ?_
    refine CW.regionD (by kernel_rfl) hH29 ?_
    intro w30 hH31
    refine AT 0 rfl (hH31.sub sR) (fun w hS => run_ldA (cs := asgL _) underlying29 rfl rfl e3_22 (rangeAt_cells (hS.blk (i := 1) rfl))) ?_
    refine AT 1 rfl (hH31.sub sR) (fun w hS => run_move e6_22) ?_
    refine AT 3 rfl (hH31.sub sR) (fun w hS => fA underlying53 0 rfl sizeOf9 rfl) ?_
    refine AT 4 rfl (hH31.sub sR) (fun w hS => run_ld underlying9 rfl rfl (hS.cell (i := 0) rfl (v := .string _) rfl)) ?_
    refine AN.two 2 9 (by kernel_rfl) ?_ ?_
    ·refine AO.callP rfl gnone rfl hH31 sR (c_clearanceref18_row _ _ (by omega) _ (hb.mono hH31.kw)) (run_call2 call44 rfl rfl) ?_
     intro w32 hH33
     refine AN.two 5 9 (by kernel_rfl) ?_ ?_
     ·refine AO.callP rfl gnone rfl hH33 sR (c_clearanceref18_Get _ _ _  _ ((hb.each.or j.toNat).sl.hp hH33)) (run_call2 call43 rfl rfl) ?_
      intro w34 hH35
      refine AT 6 rfl (hH35.sub sR) (fun w hS => run_move (by conv => lhs; whnf)) ?_
      refine AT 7 rfl (hH35.sub sR) (fun w hS => run_extract rfl (v := .agg _) rfl) ?_
      refine AT 8 rfl (hH35.sub sR) (fun w hS => run_extract rfl (v := B _) rfl) ?_
      refine A1 9 ?_
      refine AO.new rfl gnone rfl hH35 sR (f := fun b => .pointer (some ⟨b, 0, none⟩)) (run_alloc zero_el) ?_
      intro b39 w37 hH38
      refine A1 10 ?_
      refine AO.set rfl gnone hH38 (j := 0) rfl (sQ sR) (run_stEl rfl rfl rfl (hH38.blk (i := 0) rfl)) ?_
      intro w42 hH43
      simp only [z0, z1] at hH43
      refine AT 11 rfl (hH43.sub (sQ sR)) (fun w hS => aV (B _) rfl) ?_
      refine AD ?_
      refine SR ?_
      refine V (mV (B _) rfl) ?_
      refine V (run_not rfl) ?_
      refine V (mV (B _) rfl) ?_
      refine RL.split (dj := 64) rfl (fun h45 => ?_) (fun h45 => ?_)
      ·refine RL.gF rfl rfl (bR (c := true) h45) rfl ?_
       refine RL.gF rfl rfl (bR (c := true) h45) rfl ?_
       refine RL.gF rfl rfl (bR (c := true) h45) rfl ?_
       refine RL.gF rfl rfl (bR (c := true) h45) rfl ?_
       refine RL.gF rfl rfl (bR (c := true) h45) rfl ?_
       refine V (run_pickT (bR (c := true) h45) (v := B true) rfl) ?_
       refine RL.nil ?_
       refine CW.condT rfl ?_
       refine SR ?_
       refine V (aV (B false) rfl) ?_
       refine RL.nil ?_
       refine CW.ret ?_
       refine outP1 Tryz.results18 (congrArg B ?_) hH43.below
       first | exact (leqA_1 h0 ‹k < _› (nt ‹(!leqE _ _) = true›)).symm | exact (leqA_2 j0 ‹j < _› (below_no1 q0 ‹q < _› (nt ‹(!(getF _ _).2) = true›))).symm | exact (leqA_2 j0 ‹j < _› (below_no2 q0 ‹q < _› (nt ‹(!leqE (ValR.el _) _) = true›))).symm | exact (leqA_y ‹¬ k < _› hg ‹¬ j < _› hr).symm
      ·refine RL.gT rfl (bR (c := false) h45) ?_
       refine V (fA underlying53 1 rfl sizeOf51 rfl) ?_
       refine RL.gT rfl (bR (c := false) h45) ?_
       refine V (run_ldVB underlying51 rfl rfl rfl (hH43.blk (i := 1) rfl)) ?_
       refine RL.gT rfl (bR (c := false) h45) ?_
       refine V (run_ldEl underlying51 rfl rfl rfl (hH43.blk (i := 0) rfl)) ?_
       refine RL.gT rfl (bR (c := false) h45) ?_
       refine RL.callP rfl hH43 (c_clearanceref07_Leq _ _  _) (run_call2 call41 rfl rfl) ?_
       intro w46 hH47
       refine RL.gT rfl (bR (c := false) h45) ?_
       refine V (run_not rfl) ?_
       refine V (run_pickF (bR (c := false) h45) (v := B _) rfl) ?_
       refine RL.nil ?_
       refine CW.cond rfl (fun h50 => ?_) (fun h50 => ?_)
       ·refine SR ?_
        refine V (aV (B false) rfl) ?_
        refine RL.nil ?_
        refine CW.ret ?_
        refine outP1 Tryz.results18 (congrArg B ?_) hH47.below
        first | exact (leqA_1 h0 ‹k < _› (nt ‹(!leqE _ _) = true›)).symm | exact (leqA_2 j0 ‹j < _› (below_no1 q0 ‹q < _› (nt ‹(!(getF _ _).2) = true›))).symm | exact (leqA_2 j0 ‹j < _› (below_no2 q0 ‹q < _› (nt ‹(!leqE (ValR.el _) _) = true›))).symm | exact (leqA_y ‹¬ k < _› hg ‹¬ j < _› hr).symm
       ·refine CW.skip ?_
        refine CW.region ?_
        refine V (run_move e7_22) ?_
        refine V (run_add rfl rfl (by omega)) ?_
        refine V (aV (I _) rfl) ?_
        refine RL.nil ?_
        refine ⟨q + 1, ?_, fr22.u4.u4.u4.u4.u4.u4.u4.u4.u4.u4, (hH47.sub (sQ (sQ sR))), (congrArg I (by first | rfl | omega)), ?_, ?_, ?_⟩
        ·((try dsimp only); omega)
        ·omega
        ·omega
        ·exact fun i u v => if e : i = q then e ▸ (by rw [nf ‹(!(getF _ _).2) = false›, nf ‹(!leqE _ _) = false›]; rfl) else hq i u (by omega)
     ·refine AO.new rfl gnone rfl hH33 sR (f := fun b => .pointer (some ⟨b, 0, none⟩)) (run_alloc zero_el) ?_
      intro b53 w51 hH52
      refine A1 5 ?_
      refine AO.callP rfl gnone rfl hH52 (sQ sR) (c_clearanceref18_Get _ _ _  _ ((hb.each.or j.toNat).sl.hp hH52)) (run_call2 call43 rfl rfl) ?_
      intro w54 hH55
      refine AT 6 rfl (hH55.sub (sQ sR)) (fun w hS => run_move (by conv => lhs; whnf)) ?_
      refine AT 7 rfl (hH55.sub (sQ sR)) (fun w hS => run_extract rfl (v := .agg _) rfl) ?_
      refine AT 8 rfl (hH55.sub (sQ sR)) (fun w hS => run_extract rfl (v := B _) rfl) ?_
      refine A1 10 ?_
      refine AO.set rfl gnone hH55 (j := 0) rfl (sQ sR) (run_stEl rfl rfl rfl (hH55.blk (i := 0) rfl)) ?_
      intro w59 hH60
      simp only [z0, z1] at hH60
      refine AT 11 rfl (hH60.sub (sQ sR)) (fun w hS => aV (B _) rfl) ?_
      refine AD ?_
      refine SR ?_
      refine V (mV (B _) rfl) ?_
      refine V (run_not rfl) ?_
      refine V (mV (B _) rfl) ?_
      refine RL.split (dj := 64) rfl (fun h62 => ?_) (fun h62 => ?_)
      ·refine RL.gF rfl rfl (bR (c := true) h62) rfl ?_
       refine RL.gF rfl rfl (bR (c := true) h62) rfl ?_
       refine RL.gF rfl rfl (bR (c := true) h62) rfl ?_
       refine RL.gF rfl rfl (bR (c := true) h62) rfl ?_
       refine RL.gF rfl rfl (bR (c := true) h62) rfl ?_
       refine V (run_pickT (bR (c := true) h62) (v := B true) rfl) ?_
       refine RL.nil ?_
       refine CW.condT rfl ?_
       refine SR ?_
       refine V (aV (B false) rfl) ?_
       refine RL.nil ?_
       refine CW.ret ?_
       refine outP1 Tryz.results18 (congrArg B ?_) hH60.below
       first | exact (leqA_1 h0 ‹k < _› (nt ‹(!leqE _ _) = true›)).symm | exact (leqA_2 j0 ‹j < _› (below_no1 q0 ‹q < _› (nt ‹(!(getF _ _).2) = true›))).symm | exact (leqA_2 j0 ‹j < _› (below_no2 q0 ‹q < _› (nt ‹(!leqE (ValR.el _) _) = true›))).symm | exact (leqA_y ‹¬ k < _› hg ‹¬ j < _› hr).symm
      ·refine RL.gT rfl (bR (c := false) h62) ?_
       refine V (fA underlying53 1 rfl sizeOf51 rfl) ?_
       refine RL.gT rfl (bR (c := false) h62) ?_
       refine V (run_ldVB underlying51 rfl rfl rfl (hH60.blk (i := 1) rfl)) ?_
       refine RL.gT rfl (bR (c := false) h62) ?_
       refine V (run_ldEl underlying51 rfl rfl rfl (hH60.blk (i := 0) rfl)) ?_
       refine RL.gT rfl (bR (c := false) h62) ?_
       refine RL.callP rfl hH60 (c_clearanceref07_Leq _ _  _) (run_call2 call41 rfl rfl) ?_
       intro w63 hH64
       refine RL.gT rfl (bR (c := false) h62) ?_
       refine V (run_not rfl) ?_
       refine V (run_pickF (bR (c := false) h62) (v := B _) rfl) ?_
       refine RL.nil ?_
       refine CW.cond rfl (fun h67 => ?_) (fun h67 => ?_)
       ·refine SR ?_
        refine V (aV (B false) rfl) ?_
        refine RL.nil ?_
        refine CW.ret ?_
        refine outP1 Tryz.results18 (congrArg B ?_) hH64.below
        first | exact (leqA_1 h0 ‹k < _› (nt ‹(!leqE _ _) = true›)).symm | exact (leqA_2 j0 ‹j < _› (below_no1 q0 ‹q < _› (nt ‹(!(getF _ _).2) = true›))).symm | exact (leqA_2 j0 ‹j < _› (below_no2 q0 ‹q < _› (nt ‹(!leqE (ValR.el _) _) = true›))).symm | exact (leqA_y ‹¬ k < _› hg ‹¬ j < _› hr).symm
       ·refine CW.skip ?_
        refine CW.region ?_
        refine V (run_move e7_22) ?_
        refine V (run_add rfl rfl (by omega)) ?_
        refine V (aV (I _) rfl) ?_
        refine RL.nil ?_
        refine ⟨q + 1, ?_, fr22.u4.u4.u4.u4.u4.u4.u4.u4.u4.u4, (hH64.sub (sQ (sQ sR))), (congrArg I (by first | rfl | omega)), ?_, ?_, ?_⟩
        ·((try dsimp only); omega)
        ·omega
        ·omega
        ·exact fun i u v => if e : i = q then e ▸ (by rw [nf ‹(!(getF _ _).2) = false›, nf ‹(!leqE _ _) = false›]; rfl) else hq i u (by omega)
    ·refine AO.new rfl gnone rfl hH31 sR (f := fun b => .pointer (some ⟨b, 0, none⟩)) (run_alloc zero_el) ?_
     intro b70 w68 hH69
     refine A1 2 ?_
     refine AO.callP rfl gnone rfl hH69 (sQ sR) (c_clearanceref18_row _ _ (by omega) _ (hb.mono hH69.kw)) (run_call2 call44 rfl rfl) ?_
     intro w71 hH72
     refine A1 5 ?_
     refine AO.callP rfl gnone rfl hH72 (sQ sR) (c_clearanceref18_Get _ _ _  _ ((hb.each.or j.toNat).sl.hp hH72)) (run_call2 call43 rfl rfl) ?_
     intro w73 hH74
     refine AT 6 rfl (hH74.sub (sQ sR)) (fun w hS => run_move (by conv => lhs; whnf)) ?_
     refine AT 7 rfl (hH74.sub (sQ sR)) (fun w hS => run_extract rfl (v := .agg _) rfl) ?_
     refine AT 8 rfl (hH74.sub (sQ sR)) (fun w hS => run_extract rfl (v := B _) rfl) ?_
     refine A1 10 ?_
     refine AO.set rfl gnone hH74 (j := 0) rfl (sQ sR) (run_stEl rfl rfl rfl (hH74.blk (i := 0) rfl)) ?_
     intro w78 hH79
     simp only [z0, z1] at hH79
     refine AT 11 rfl (hH79.sub (sQ sR)) (fun w hS => aV (B _) rfl) ?_
     refine AD ?_
     refine SR ?_
     refine V (mV (B _) rfl) ?_
     refine V (run_not rfl) ?_
     refine V (mV (B _) rfl) ?_
     refine RL.split (dj := 64) rfl (fun h81 => ?_) (fun h81 => ?_)
     ·refine RL.gF rfl rfl (bR (c := true) h81) rfl ?_
      refine RL.gF rfl rfl (bR (c := true) h81) rfl ?_
      refine RL.gF rfl rfl (bR (c := true) h81) rfl ?_
      refine RL.gF rfl rfl (bR (c := true) h81) rfl ?_
      refine RL.gF rfl rfl (bR (c := true) h81) rfl ?_
      refine V (run_pickT (bR (c := true) h81) (v := B true) rfl) ?_
      refine RL.nil ?_
      refine CW.condT rfl ?_
      refine SR ?_
      refine V (aV (B false) rfl) ?_
      refine RL.nil ?_
      refine CW.ret ?_
      refine outP1 Tryz.results18 (congrArg B ?_) hH79.below
      first | exact (leqA_1 h0 ‹k < _› (nt ‹(!leqE _ _) = true›)).symm | exact (leqA_2 j0 ‹j < _› (below_no1 q0 ‹q < _› (nt ‹(!(getF _ _).2) = true›))).symm | exact (leqA_2 j0 ‹j < _› (below_no2 q0 ‹q < _› (nt ‹(!leqE (ValR.el _) _) = true›))).symm | exact (leqA_y ‹¬ k < _› hg ‹¬ j < _› hr).symm
     ·refine RL.gT rfl (bR (c := false) h81) ?_
      refine V (fA underlying53 1 rfl sizeOf51 rfl) ?_
      refine RL.gT rfl (bR (c := false) h81) ?_
      refine V (run_ldVB underlying51 rfl rfl rfl (hH79.blk (i := 1) rfl)) ?_
      refine RL.gT rfl (bR (c := false) h81) ?_
      refine V (run_ldEl underlying51 rfl rfl rfl (hH79.blk (i := 0) rfl)) ?_
      refine RL.gT rfl (bR (c := false) h81) ?_
      refine RL.callP rfl hH79 (c_clearanceref07_Leq _ _  _) (run_call2 call41 rfl rfl) ?_
      intro w82 hH83
      refine RL.gT rfl (bR (c := false) h81) ?_
      refine V (run_not rfl) ?_
      refine V (run_pickF (bR (c := false) h81) (v := B _) rfl) ?_
      refine RL.nil ?_
      refine CW.cond rfl (fun h86 => ?_) (fun h86 => ?_)
      ·refine SR ?_
       refine V (aV (B false) rfl) ?_
       refine RL.nil ?_
       refine CW.ret ?_
       refine outP1 Tryz.results18 (congrArg B ?_) hH83.below
       first | exact (leqA_1 h0 ‹k < _› (nt ‹(!leqE _ _) = true›)).symm | exact (leqA_2 j0 ‹j < _› (below_no1 q0 ‹q < _› (nt ‹(!(getF _ _).2) = true›))).symm | exact (leqA_2 j0 ‹j < _› (below_no2 q0 ‹q < _› (nt ‹(!leqE (ValR.el _) _) = true›))).symm | exact (leqA_y ‹¬ k < _› hg ‹¬ j < _› hr).symm
      ·refine CW.skip ?_
       refine CW.region ?_
       refine V (run_move e7_22) ?_
       refine V (run_add rfl rfl (by omega)) ?_
       refine V (aV (I _) rfl) ?_
       refine RL.nil ?_
       refine ⟨q + 1, ?_, fr22.u4.u4.u4.u4.u4.u4.u4.u4.u4.u4, (hH83.sub (sQ (sQ sR))), (congrArg I (by first | rfl | omega)), ?_, ?_, ?_⟩
       ·((try dsimp only); omega)
       ·omega
       ·omega
       ·exact fun i u v => if e : i = q then e ▸ (by rw [nf ‹(!(getF _ _).2) = false›, nf ‹(!leqE _ _) = false›]; rfl) else hq i u (by omega)
   ·refine CW.exit (id := 4) rfl ?_
    refine CW.region ?_
    refine V (run_move e6_22) ?_
    refine V (run_add rfl rfl (by omega)) ?_
    refine V (aV (I _) rfl) ?_
    refine RL.nil ?_
    refine ⟨j + 1, ?_, (((fr19.u4.u1.u1).t fr22 rfl)).u4.u4.u1.u1.u1, hH22, (congrArg I (by first | rfl | omega)), ?_, ?_, ?_⟩
    ·((try dsimp only); omega)
    ·omega
    ·omega
    ·exact fun i u v => if e : i = j then e ▸ (below_yes ‹¬ q < _› hq) else hr i u (by omega)
  ·refine CW.exit (id := 2) rfl ?_
   refine SR ?_
   refine V (aV (B true) rfl) ?_
   refine RL.nil ?_
   refine CW.ret ?_
   refine outP1 Tryz.results18 (congrArg B ?_) hH19.below
   first | exact (leqA_1 h0 ‹k < _› (nt ‹(!leqE _ _) = true›)).symm | exact (leqA_2 j0 ‹j < _› (below_no1 q0 ‹q < _› (nt ‹(!(getF _ _).2) = true›))).symm | exact (leqA_2 j0 ‹j < _› (below_no2 q0 ‹q < _› (nt ‹(!leqE (ValR.el _) _) = true›))).symm | exact (leqA_y ‹¬ k < _› hg ‹¬ j < _› hr).symm

set_option maxHeartbeats 2000000 in
theorem c_assign_Right (s : Scp) (a : Asg) (w : World) (hs : ScpV (Kw w) s) (ha : AsgV (Kw w) a) (hT : Tab w) : Calls Tryz.prog 9 #[.agg (scpC s), .agg (asgL a).toArray] w (Pure (B (rightA s.sc a.as)) w) := by
 have hm1 := hs.lats.sl.small
 have hm2 := hs.vars.sl.small
 unfold maxLen at hm1 hm2
 have hm3 := ha.labels.small
 have hm4 := ha.rows.small
 unfold maxLen at hm3 hm4
 refine enter Tryz.func9 rfl Tryz.ntmps9 rfl ?_
 have hH := Hp.start w
 refine SR ?_
 refine RL.new rfl hH (f := fun b => (.pointer (some ⟨b, 0, none⟩))) (run_box (v := .agg _) rfl) ?_
 intro b3 w1 hH2
 refine RL.new rfl hH2 (f := fun b => (.pointer (some ⟨b, 0, none⟩))) (run_box (v := .agg _) rfl) ?_
 intro b6 w4 hH5
 refine V (aV (B false) rfl) ?_
 refine RL.nil ?_
 refine CW.seq ?_
 refine SR ?_
 refine V (fA underlying29 0 rfl sizeOf26 rfl) ?_
 refine V (run_ldV (ha.labels.sl.hp hH5) underlying26 rfl rfl (hH5.cell (i := 0) rfl rfl)) ?_
 refine V (run_lenSl (ha.labels.sl.hp hH5) rfl underlying26 rfl) ?_
 refine V (fA underlying25 1 rfl sizeOf23 rfl) ?_
 refine V (run_ldV (hs.vars.sl.hp hH5) underlying23 rfl rfl (hH5.cell (i := 1) rfl rfl)) ?_
 refine V (run_lenSl (hs.vars.sl.hp hH5) rfl underlying23 rfl) ?_
 refine V (run_neq rfl rfl) ?_
 refine V (mV (B _) rfl) ?_
 refine RL.splitP (dj := 15) rfl (fun h8 => ?_) (fun h8 => ?_)
 ·refine RL.gF rfl rfl (bT h8) rfl ?_
  refine RL.gF rfl rfl (bT h8) rfl ?_
  refine RL.gF rfl rfl (bT h8) rfl ?_
  refine RL.gF rfl rfl (bT h8) rfl ?_
  refine RL.gF rfl rfl (bT h8) rfl ?_
  refine RL.gF rfl rfl (bT h8) rfl ?_
  refine RL.gF rfl rfl (bT h8) rfl ?_
  refine V (run_pickT (bT h8) (v := B true) rfl) ?_
  refine RL.nil ?_
  refine CW.condT rfl ?_
  refine SR ?_
  refine V (aV (B false) rfl) ?_
  refine RL.nil ?_
  refine CW.ret ?_
  refine outP1 Tryz.results9 (congrArg B ?_) hH5.below
  first | (exfalso; omega) | exact (right_3 h0 ‹k < _› (ok_n0 (by omega))).symm | exact (right_3 h0 ‹k < _› (ok_1a (by omega) (by omega))).symm | exact (right_3 h0 ‹k < _› (ok_1b (by omega) (nt ‹(!fitsS _ _) = true›))).symm | exact (right_3 h0 ‹k < _› (ok_2a (by omega) (nt ‹(!decide (eqE _ _)) = true›))).symm | exact (right_3 h0 ‹k < _› (ok_2b (by omega) (nt ‹(!orderedF _) = true›))).symm | exact (right_3 h0 ‹k < _› (ok_2c (by omega) (nt ‹(!fitsF _ _) = true›))).symm | exact (right_3 h0 ‹k < _› (ok_x (by omega) (by omega))).symm | exact (right_y e1 e2 ‹¬ k < _› hg).symm | exact (right_1 (by omega)).symm | exact (right_2 (by omega)).symm
 ·refine RL.gT rfl (bF h8) ?_
  refine V (fA underlying29 1 rfl sizeOf27 rfl) ?_
  refine RL.gT rfl (bF h8) ?_
  refine V (run_ldV (ha.rows.sl.hp hH5) underlying27 rfl rfl (hH5.cell (i := 0) rfl rfl)) ?_
  refine RL.gT rfl (bF h8) ?_
  refine V (run_lenSl (ha.rows.sl.hp hH5) rfl underlying27 rfl) ?_
  refine RL.gT rfl (bF h8) ?_
  refine V (fA underlying25 1 rfl sizeOf23 rfl) ?_
  refine RL.gT rfl (bF h8) ?_
  refine V (run_ldV (hs.vars.sl.hp hH5) underlying23 rfl rfl (hH5.cell (i := 1) rfl rfl)) ?_
  refine RL.gT rfl (bF h8) ?_
  refine V (run_lenSl (hs.vars.sl.hp hH5) rfl underlying23 rfl) ?_
  refine RL.gT rfl (bF h8) ?_
  refine V (run_neq rfl rfl) ?_
  refine V (run_pickF (bF h8) (v := B _) rfl) ?_
  refine RL.nil ?_
  refine CW.condP rfl (fun h10 => ?_) (fun h10 => ?_)
  ·refine SR ?_
   refine V (aV (B false) rfl) ?_
   refine RL.nil ?_
   refine CW.ret ?_
   refine outP1 Tryz.results9 (congrArg B ?_) hH5.below
   first | (exfalso; omega) | exact (right_3 h0 ‹k < _› (ok_n0 (by omega))).symm | exact (right_3 h0 ‹k < _› (ok_1a (by omega) (by omega))).symm | exact (right_3 h0 ‹k < _› (ok_1b (by omega) (nt ‹(!fitsS _ _) = true›))).symm | exact (right_3 h0 ‹k < _› (ok_2a (by omega) (nt ‹(!decide (eqE _ _)) = true›))).symm | exact (right_3 h0 ‹k < _› (ok_2b (by omega) (nt ‹(!orderedF _) = true›))).symm | exact (right_3 h0 ‹k < _› (ok_2c (by omega) (nt ‹(!fitsF _ _) = true›))).symm | exact (right_3 h0 ‹k < _› (ok_x (by omega) (by omega))).symm | exact (right_y e1 e2 ‹¬ k < _› hg).symm | exact (right_1 (by omega)).symm | exact (right_2 (by omega)).symm
  ·refine CW.skip ?_
   refine CW.seq ?_
   refine SR ?_
   refine V (fA underlying25 1 rfl sizeOf23 rfl) ?_
   refine V (run_ldV (hs.vars.sl.hp hH5) underlying23 rfl rfl (hH5.cell (i := 1) rfl rfl)) ?_
   refine V (run_lenSl (hs.vars.sl.hp hH5) rfl underlying23 rfl) ?_
   refine V (mV (I 0) rfl) ?_
   refine RL.nil ?_
   refine CW.block ?_
   have e1 : (a.labels.length : Int) = s.vars.length := by omega
   have e2 : (a.rows.length : Int) = s.vars.length := by omega
   refine CW.loop (G := (Int)) (fun (k : Int) s' w' => (Fr [4, 5, 6, 7, 27, 28, 29, 30, 31, 32, 33, 34, 35, 36, 37, 38, 39, 40, 41, 42, 43, 44, 45, 46, 47, 48, 49, 50, 51, 52, 53, 54, 55, 56, 57, 58, 59, 60, 61, 62, 63, 64, 65, 66, 67, 68, 69, 70, 71, 72, 73, 74, 75, 76, 77, 78, 79, 80, 81, 82, 83, 84, 85, 86, 87, 88, 89, 90, 91, 92, 93, 94, 95, 96, 97, 98, 99] _ s') ∧ (Hp w w' _) ∧ (s' 27 = I k) ∧ (0 ≤ k) ∧ (k ≤ s.vars.length) ∧ (∀ i : Int, 0 ≤ i → i < k → okG s a i = true)) (fun (k : Int) => (s.vars.length - k).toNat) (0) ⟨Fr.refl _ _, hH5, rfl, (by omega), (by omega), fun j a b => absurd b (by omega)⟩ ?_
   rintro k sg11 w11 ⟨fr11, hH11, e27_11, h0, hk, hg⟩
   have e2_11 : sg11 2 = Pn _ _ := (fr11 2 rfl).trans rfl
   have e3_11 : sg11 3 = Pn _ _ := (fr11 3 rfl).trans rfl
   have e25_11 := (fr11 25 rfl).trans (by conv => lhs; whnf)
   have e26_11 : sg11 26 = I _ := (fr11 26 rfl).trans rfl
   refine SR ?_
   refine V (run_lss e27_11 e26_11) ?_
   refine RL.nil ?_
   refine CW.seq ?_
   refine CW.condP rfl (fun h13 => ?_) (fun h13 => ?_)
   ·refine CW.skip ?_
    refine CW.seq ?_
    refine CW.block ?_
    refine SR ?_
    refine V (run_move e27_11) ?_
    refine V (run_indexAddrS (hs.vars.sl.hp hH11) underlying23 sizeOf47 e25_11 e27_11 (by omega)) ?_
    refine V (run_ldE (dv := var0) varL_len (hs.vars.sl.hp hH11) underlying47 rfl rfl rfl (by omega)) ?_
    refine RL.new rfl hH11 (f := fun b => (.pointer (some ⟨b, 0, none⟩))) (run_alloc Tryz.zeroValue47) ?_
    intro b16 w14 hH15
    refine V (aV (I _) rfl) ?_
    refine RL.set hH15 (i := 0) rfl (run_stW (c' := (varL _).toArray) rfl rfl rfl (by simp [varL, Value.oneCell']) (hH15.blk (i := 0) rfl) rfl) ?_
    intro w17 hH18
    simp only [z0, z1] at hH18
    refine RL.nil ?_
    refine CW.seq ?_
    refine SR ?_
    refine V (fA underlying47 2 rfl sizeOf3 rfl) ?_
    refine V (run_ld underlying3 rfl rfl (hH18.cell (i := 0) rfl (v := I _) rfl)) ?_
    refine V (run_lss rfl rfl) ?_
    refine V (mV (B _) rfl) ?_
    refine RL.splitP (dj := 35) rfl (fun h20 => ?_) (fun h20 => ?_)
    ·refine RL.gF rfl rfl (bT h20) rfl ?_
     refine RL.gF rfl rfl (bT h20) rfl ?_
     refine RL.gF rfl rfl (bT h20) rfl ?_
     refine RL.gF rfl rfl (bT h20) rfl ?_
     refine RL.gF rfl rfl (bT h20) rfl ?_
     refine RL.gF rfl rfl (bT h20) rfl ?_
     refine V (run_pickT (bT h20) (v := B true) rfl) ?_
     refine RL.nil ?_
     refine CW.condT rfl ?_
     refine SR ?_
     refine V (aV (B false) rfl) ?_
     refine RL.nil ?_
     refine CW.ret ?_
     refine outP1 Tryz.results9 (congrArg B ?_) hH18.below
     first | (exfalso; omega) | exact (right_3 h0 ‹k < _› (ok_n0 (by omega))).symm | exact (right_3 h0 ‹k < _› (ok_1a (by omega) (by omega))).symm | exact (right_3 h0 ‹k < _› (ok_1b (by omega) (nt ‹(!fitsS _ _) = true›))).symm | exact (right_3 h0 ‹k < _› (ok_2a (by omega) (nt ‹(!decide (eqE _ _)) = true›))).symm | exact (right_3 h0 ‹k < _› (ok_2b (by omega) (nt ‹(!orderedF _) = true›))).symm | exact (right_3 h0 ‹k < _› (ok_2c (by omega) (nt ‹(!fitsF _ _) = true›))).symm | exact (right_3 h0 ‹k < _› (ok_x (by omega) (by omega))).symm | exact (right_y e1 e2 ‹¬ k < _› hg).symm | exact (right_1 (by omega)).symm | exact (right_2 (by omega)).symm
    ·refine RL.gT rfl (bF h20) ?_
     refine V (fA underlying47 2 rfl sizeOf3 rfl) ?_
     refine RL.gT rfl (bF h20) ?_
     refine V (run_ld underlying3 rfl rfl (hH18.cell (i := 0) rfl (v := I _) rfl)) ?_
     refine RL.gT rfl (bF h20) ?_
     refine V (fA underlying25 0 rfl sizeOf22 e2_11) ?_
     refine RL.gT rfl (bF h20) ?_
     refine V (run_ldV (hs.lats.sl.hp hH18) underlying22 rfl rfl (hH18.cell (i := 2) rfl rfl)) ?_
     refine RL.gT rfl (bF h20) ?_
     refine V (run_lenSl (hs.lats.sl.hp hH18) rfl underlying22 rfl) ?_
     refine RL.gT rfl (bF h20) ?_
     refine V (run_geq rfl rfl) ?_
     refine V (run_pickF (bF h20) (v := B _) rfl) ?_
     refine RL.nil ?_
     refine CW.condP rfl (fun h22 => ?_) (fun h22 => ?_)
     ·refine SR ?_
      refine V (aV (B false) rfl) ?_
      refine RL.nil ?_
      refine CW.ret ?_
      refine outP1 Tryz.results9 (congrArg B ?_) hH18.below
      first | (exfalso; omega) | exact (right_3 h0 ‹k < _› (ok_n0 (by omega))).symm | exact (right_3 h0 ‹k < _› (ok_1a (by omega) (by omega))).symm | exact (right_3 h0 ‹k < _› (ok_1b (by omega) (nt ‹(!fitsS _ _) = true›))).symm | exact (right_3 h0 ‹k < _› (ok_2a (by omega) (nt ‹(!decide (eqE _ _)) = true›))).symm | exact (right_3 h0 ‹k < _› (ok_2b (by omega) (nt ‹(!orderedF _) = true›))).symm | exact (right_3 h0 ‹k < _› (ok_2c (by omega) (nt ‹(!fitsF _ _) = true›))).symm | exact (right_3 h0 ‹k < _› (ok_x (by omega) (by omega))).symm | exact (right_y e1 e2 ‹¬ k < _› hg).symm | exact (right_1 (by omega)).symm | exact (right_2 (by omega)).symm
     ·refine CW.skip ?_
      refine SR ?_
      refine V (fA underlying25 0 rfl sizeOf22 e2_11) ?_
      refine V (run_ldV (hs.lats.sl.hp hH18) underlying22 rfl rfl (hH18.cell (i := 2) rfl rfl)) ?_
      refine V (fA underlying47 2 rfl sizeOf3 rfl) ?_
      refine V (run_ld underlying3 rfl rfl (hH18.cell (i := 0) rfl (v := I _) rfl)) ?_
      refine V (run_indexAddrS (hs.lats.sl.hp hH18) underlying22 sizeOf44 rfl rfl (by omega)) ?_
      refine V (fA underlying44 1 rfl sizeOf42 rfl) ?_
      refine V (run_ldEA (dv := lat0) (off := 1) (cs := shpL _) latL_len (hs.lats.sl.hp hH18) underlying42 rfl rfl rfl (by omega) (lat_shp _)) ?_
      refine RL.new rfl hH18 (f := fun b => (.pointer (some ⟨b, 0, none⟩))) (run_alloc Tryz.zeroValue42) ?_
      intro b25 w23 hH24
      refine RL.set hH24 (i := 0) rfl (run_stShp (hs.at (by omega) (by omega)) rfl rfl rfl (hH24.blk (i := 0) rfl) rfl) ?_
      intro w26 hH27
      simp only [z0, z1] at hH27
      refine RL.nil ?_
      refine SR ?_
      refine V (fA underlying47 1 rfl sizeOf3 rfl) ?_
      refine V (run_ld underlying3 rfl rfl (hH27.cell (i := 1) rfl (v := I _) rfl)) ?_
      refine RL.nil ?_
      refine CW.block ?_
      refine SR ?_
      refine V (run_eql rfl rfl) ?_
      refine V (aV (B _) rfl) ?_
      refine RL.nil ?_
      refine CW.condP rfl (fun h29 => ?_) (fun h29 => ?_)
      ·refine CW.seq ?_
       refine CW.regionD (by kernel_rfl) hH27 ?_
       intro w30 hH31
       refine AT 0 rfl (hH31.sub sR) (fun w hS => fA underlying29 1 rfl sizeOf27 e3_11) ?_
       refine AT 1 rfl (hH31.sub sR) (fun w hS => run_ldV (ha.rows.sl.hp hS) underlying27 rfl rfl (hS.cell (i := 2) rfl rfl)) ?_
       refine AT 2 rfl (hH31.sub sR) (fun w hS => mV (I _) rfl) ?_
       refine AT 3 rfl (hH31.sub sR) (fun w hS => run_indexAddrS (ha.rows.sl.hp hS) underlying27 sizeOf48 rfl rfl (by omega)) ?_
       refine AT 4 rfl (hH31.sub sR) (fun w hS => run_ld underlying48 rfl rfl ((ha.rows.sl.hp hS).cell _ _ (rowsC_at (by omega)))) ?_
       refine AT 5 rfl (hH31.sub sR) (fun w hS => run_lenSl ((ha.at (by omega) (by omega)).sl.hp hS) rfl underlying48 rfl) ?_
       refine AT 6 rfl (hH31.sub sR) (fun w hS => run_gtr rfl rfl) ?_
       refine AT 7 rfl (hH31.sub sR) (fun w hS => mV (B _) rfl) ?_
       refine AN.splitP (dj := 61) rfl (fun h33 => ?_) (fun h33 => ?_)
       ·refine AK 8 rfl rfl (bT h33) (hH31.sub sR) ?_
        refine AK 9 rfl rfl (bT h33) (hH31.sub sR) ?_
        refine AK 10 rfl rfl (bT h33) (hH31.sub sR) ?_
        refine AK 11 rfl rfl (bT h33) (hH31.sub sR) ?_
        refine AK 12 rfl rfl (bT h33) (hH31.sub sR) ?_
        refine AK 13 rfl rfl (bT h33) (hH31.sub sR) ?_
        refine AK 14 rfl rfl (bT h33) (hH31.sub sR) ?_
        refine AK 15 rfl rfl (bT h33) (hH31.sub sR) ?_
        refine AT 16 rfl (hH31.sub sR) (fun w hS => run_pickT (bT h33) (v := B true) rfl) ?_
        refine AD ?_
        refine CW.condT rfl ?_
        refine SR ?_
        refine V (aV (B false) rfl) ?_
        refine RL.nil ?_
        refine CW.ret ?_
        refine outP1 Tryz.results9 (congrArg B ?_) hH31.below
        first | (exfalso; omega) | exact (right_3 h0 ‹k < _› (ok_n0 (by omega))).symm | exact (right_3 h0 ‹k < _› (ok_1a (by omega) (by omega))).symm | exact (right_3 h0 ‹k < _› (ok_1b (by omega) (nt ‹(!fitsS _ _) = true›))).symm | exact (right_3 h0 ‹k < _› (ok_2a (by omega) (nt ‹(!decide (eqE _ _)) = true›))).symm | exact (right_3 h0 ‹k < _› (ok_2b (by omega) (nt ‹(!orderedF _) = true›))).symm | exact (right_3 h0 ‹k < _› (ok_2c (by omega) (nt ‹(!fitsF _ _) = true›))).symm | exact (right_3 h0 ‹k < _› (ok_x (by omega) (by omega))).symm | exact (right_y e1 e2 ‹¬ k < _› hg).symm | exact (right_1 (by omega)).symm | exact (right_2 (by omega)).symm
       ·refine AG 8 rfl rfl (bF h33) (hH31.sub sR) (fun w hS => run_ldA (cs := [B _, _]) underlying42 rfl rfl rfl (rangeAt_cells (hS.blk (i := 0) rfl))) ?_
        refine AG 9 rfl rfl (bF h33) (hH31.sub sR) (fun w hS => fA underlying29 0 rfl sizeOf26 e3_11) ?_
        refine AG 10 rfl rfl (bF h33) (hH31.sub sR) (fun w hS => run_ldV (ha.labels.sl.hp hS) underlying26 rfl rfl (hS.cell (i := 2) rfl rfl)) ?_
        refine AG 11 rfl rfl (bF h33) (hH31.sub sR) (fun w hS => mV (I _) rfl) ?_
        refine AG 12 rfl rfl (bF h33) (hH31.sub sR) (fun w hS => run_indexAddrS (ha.labels.sl.hp hS) underlying26 sizeOf51 rfl rfl (by omega)) ?_
        refine AG 13 rfl rfl (bF h33) (hH31.sub sR) (fun w hS => run_ldElS (ha.labels.sl.hp hS) underlying51 rfl rfl rfl (by omega)) ?_
        refine A1 14 ?_
        refine AO.callP rfl (gsome rfl (bF h33)) rfl hH31 sR (c_shape_Fits _ _  _ ((hs.at (by omega) (by omega)).mono hH31.kw) (hT.hp hH31)) (run_call2 call24 rfl rfl) ?_
        intro w34 hH35
        refine AG 15 rfl rfl (bF h33) (hH35.sub sR) (fun w hS => run_not rfl) ?_
        refine AT 16 rfl (hH35.sub sR) (fun w hS => run_pickF (bF h33) (v := B _) rfl) ?_
        refine AD ?_
        refine CW.cond rfl (fun h38 => ?_) (fun h38 => ?_)
        ·refine SR ?_
         refine V (aV (B false) rfl) ?_
         refine RL.nil ?_
         refine CW.ret ?_
         refine outP1 Tryz.results9 (congrArg B ?_) hH35.below
         first | (exfalso; omega) | exact (right_3 h0 ‹k < _› (ok_n0 (by omega))).symm | exact (right_3 h0 ‹k < _› (ok_1a (by omega) (by omega))).symm | exact (right_3 h0 ‹k < _› (ok_1b (by omega) (nt ‹(!fitsS _ _) = true›))).symm | exact (right_3 h0 ‹k < _› (ok_2a (by omega) (nt ‹(!decide (eqE _ _)) = true›))).symm | exact (right_3 h0 ‹k < _› (ok_2b (by omega) (nt ‹(!orderedF _) = true›))).symm | exact (right_3 h0 ‹k < _› (ok_2c (by omega) (nt ‹(!fitsF _ _) = true›))).symm | exact (right_3 h0 ‹k < _› (ok_x (by omega) (by omega))).symm | exact (right_y e1 e2 ‹¬ k < _› hg).symm | exact (right_1 (by omega)).symm | exact (right_2 (by omega)).symm
        ·refine CW.skip ?_
         refine CW.region ?_
         refine V (run_add e27_11 rfl (by omega)) ?_
         refine V (mV (I _) rfl) ?_
         refine RL.nil ?_
         refine ⟨k + 1, ?_, fr11.u4.u4.u4.u4.u4.u4.u4.u4.u4.u4.u4.u4, (hH35.sub (sQ (sQ sR))), (congrArg I (by first | rfl | omega)), ?_, ?_, ?_⟩
         ·((try dsimp only); omega)
         ·omega
         ·omega
         ·exact fun i u v => if e : i = k then e ▸ (by first | (exfalso; omega) | exact ok_y1 ⟨by omega, by omega⟩ (by omega) (by omega) (nf ‹(!fitsS _ _) = false›) | exact ok_y2 ⟨by omega, by omega⟩ (by omega) (nf ‹(!decide (eqE _ _)) = false›) (nf ‹(!orderedF _) = false›) (nf ‹(!fitsF _ _) = false›)) else hg i u (by omega)
      ·refine SR ?_
       refine V (run_eql rfl rfl) ?_
       refine V (aV (B _) rfl) ?_
       refine RL.nil ?_
       refine CW.condP rfl (fun h40 => ?_) (fun h40 => ?_)
       ·refine CW.seq ?_
        refine CW.regionD (by kernel_rfl) hH27 ?_
        intro w41 hH42
        refine AT 0 rfl (hH42.sub sR) (fun w hS => fA underlying29 0 rfl sizeOf26 e3_11) ?_
        refine AT 1 rfl (hH42.sub sR) (fun w hS => run_ldV (ha.labels.sl.hp hS) underlying26 rfl rfl (hS.cell (i := 2) rfl rfl)) ?_
        refine AT 2 rfl (hH42.sub sR) (fun w hS => mV (I _) rfl) ?_
        refine AT 3 rfl (hH42.sub sR) (fun w hS => run_indexAddrS (ha.labels.sl.hp hS) underlying26 sizeOf51 rfl rfl (by omega)) ?_
        refine AT 4 rfl (hH42.sub sR) (fun w hS => run_ldElS (ha.labels.sl.hp hS) underlying51 rfl rfl rfl (by omega)) ?_
        refine AT 5 rfl (hH42.sub sR) (fun w hS => run_bld (vs := []) rfl (built_el0)) ?_
        refine AT 6 rfl (hH42.sub sR) (fun w hS => run_neqEl elT_fact rfl rfl) ?_
        refine AT 7 rfl (hH42.sub sR) (fun w hS => mV (B _) rfl) ?_
        refine AN.split (dj := 80) rfl (fun h44 => ?_) (fun h44 => ?_)
        ·refine AK 8 rfl rfl (bR (c := true) h44) (hH42.sub sR) ?_
         refine AK 9 rfl rfl (bR (c := true) h44) (hH42.sub sR) ?_
         refine AK 10 rfl rfl (bR (c := true) h44) (hH42.sub sR) ?_
         refine AK 11 rfl rfl (bR (c := true) h44) (hH42.sub sR) ?_
         refine AK 12 rfl rfl (bR (c := true) h44) (hH42.sub sR) ?_
         refine AK 13 rfl rfl (bR (c := true) h44) (hH42.sub sR) ?_
         refine AK 14 rfl rfl (bR (c := true) h44) (hH42.sub sR) ?_
         refine AT 15 rfl (hH42.sub sR) (fun w hS => run_pickT (bR (c := true) h44) (v := B true) rfl) ?_
         refine AT 16 rfl (hH42.sub sR) (fun w hS => mV (B _) rfl) ?_
         refine AK 17 rfl rfl rfl (hH42.sub sR) ?_
         refine AK 18 rfl rfl rfl (hH42.sub sR) ?_
         refine AK 19 rfl rfl rfl (hH42.sub sR) ?_
         refine AK 20 rfl rfl rfl (hH42.sub sR) ?_
         refine AK 21 rfl rfl rfl (hH42.sub sR) ?_
         refine AK 22 rfl rfl rfl (hH42.sub sR) ?_
         refine AK 23 rfl rfl rfl (hH42.sub sR) ?_
         refine AK 24 rfl rfl rfl (hH42.sub sR) ?_
         refine AT 25 rfl (hH42.sub sR) (fun w hS => run_pickT rfl (v := B true) rfl) ?_
         refine AD ?_
         refine CW.condT rfl ?_
         refine SR ?_
         refine V (aV (B false) rfl) ?_
         refine RL.nil ?_
         refine CW.ret ?_
         refine outP1 Tryz.results9 (congrArg B ?_) hH42.below
         first | (exfalso; omega) | exact (right_3 h0 ‹k < _› (ok_n0 (by omega))).symm | exact (right_3 h0 ‹k < _› (ok_1a (by omega) (by omega))).symm | exact (right_3 h0 ‹k < _› (ok_1b (by omega) (nt ‹(!fitsS _ _) = true›))).symm | exact (right_3 h0 ‹k < _› (ok_2a (by omega) (nt ‹(!decide (eqE _ _)) = true›))).symm | exact (right_3 h0 ‹k < _› (ok_2b (by omega) (nt ‹(!orderedF _) = true›))).symm | exact (right_3 h0 ‹k < _› (ok_2c (by omega) (nt ‹(!fitsF _ _) = true›))).symm | exact (right_3 h0 ‹k < _› (ok_x (by omega) (by omega))).symm | exact (right_y e1 e2 ‹¬ k < _› hg).symm | exact (right_1 (by omega)).symm | exact (right_2 (by omega)).symm
        ·refine AG 8 rfl rfl (bR (c := false) h44) (hH42.sub sR) (fun w hS => fA underlying29 1 rfl sizeOf27 e3_11) ?_
         refine AG 9 rfl rfl (bR (c := false) h44) (hH42.sub sR) (fun w hS => run_ldV (ha.rows.sl.hp hS) underlying27 rfl rfl (hS.cell (i := 2) rfl rfl)) ?_
         refine AG 10 rfl rfl (bR (c := false) h44) (hH42.sub sR) (fun w hS => mV (I _) rfl) ?_
         refine AG 11 rfl rfl (bR (c := false) h44) (hH42.sub sR) (fun w hS => run_indexAddrS (ha.rows.sl.hp hS) underlying27 sizeOf48 rfl rfl (by omega)) ?_
         refine AG 12 rfl rfl (bR (c := false) h44) (hH42.sub sR) (fun w hS => run_ld underlying48 rfl rfl ((ha.rows.sl.hp hS).cell _ _ (rowsC_at (by omega)))) ?_
         refine A1 13 ?_
         refine AO.callP rfl (gsome rfl (bR (c := false) h44)) rfl hH42 sR (c_assign_ordered _ _  _ ((ha.at (by omega) (by omega)).sl.hp hH42)) (run_call1 call25 rfl) ?_
         intro w45 hH46
         refine AG 14 rfl rfl (bR (c := false) h44) (hH46.sub sR) (fun w hS => run_not rfl) ?_
         refine AT 15 rfl (hH46.sub sR) (fun w hS => run_pickF (bR (c := false) h44) (v := B _) rfl) ?_
         refine AT 16 rfl (hH46.sub sR) (fun w hS => mV (B _) rfl) ?_
         refine AN.split (dj := 89) rfl (fun h49 => ?_) (fun h49 => ?_)
         ·refine AK 17 rfl rfl (bR (c := true) h49) (hH46.sub sR) ?_
          refine AK 18 rfl rfl (bR (c := true) h49) (hH46.sub sR) ?_
          refine AK 19 rfl rfl (bR (c := true) h49) (hH46.sub sR) ?_
          refine AK 20 rfl rfl (bR (c := true) h49) (hH46.sub sR) ?_
          refine AK 21 rfl rfl (bR (c := true) h49) (hH46.sub sR) ?_
          refine AK 22 rfl rfl (bR (c := true) h49) (hH46.sub sR) ?_
          refine AK 23 rfl rfl (bR (c := true) h49) (hH46.sub sR) ?_
          refine AK 24 rfl rfl (bR (c := true) h49) (hH46.sub sR) ?_
          refine AT 25 rfl (hH46.sub sR) (fun w hS => run_pickT (bR (c := true) h49) (v := B true) rfl) ?_
          refine AD ?_
          refine CW.condT rfl ?_
          refine SR ?_
          refine V (aV (B false) rfl) ?_
          refine RL.nil ?_
          refine CW.ret ?_
          refine outP1 Tryz.results9 (congrArg B ?_) hH46.below
          first | (exfalso; omega) | exact (right_3 h0 ‹k < _› (ok_n0 (by omega))).symm | exact (right_3 h0 ‹k < _› (ok_1a (by omega) (by omega))).symm | exact (right_3 h0 ‹k < _› (ok_1b (by omega) (nt ‹(!fitsS _ _) = true›))).symm | exact (right_3 h0 ‹k < _› (ok_2a (by omega) (nt ‹(!decide (eqE _ _)) = true›))).symm | exact (right_3 h0 ‹k < _› (ok_2b (by omega) (nt ‹(!orderedF _) = true›))).symm | exact (right_3 h0 ‹k < _› (ok_2c (by omega) (nt ‹(!fitsF _ _) = true›))).symm | exact (right_3 h0 ‹k < _› (ok_x (by omega) (by omega))).symm | exact (right_y e1 e2 ‹¬ k < _› hg).symm | exact (right_1 (by omega)).symm | exact (right_2 (by omega)).symm
         ·refine AG 17 rfl rfl (bR (c := false) h49) (hH46.sub sR) (fun w hS => run_ldA (cs := [B _, _]) underlying42 rfl rfl rfl (rangeAt_cells (hS.blk (i := 0) rfl))) ?_
          refine AG 18 rfl rfl (bR (c := false) h49) (hH46.sub sR) (fun w hS => fA underlying29 1 rfl sizeOf27 e3_11) ?_
          refine AG 19 rfl rfl (bR (c := false) h49) (hH46.sub sR) (fun w hS => run_ldV (ha.rows.sl.hp hS) underlying27 rfl rfl (hS.cell (i := 2) rfl rfl)) ?_
          refine AG 20 rfl rfl (bR (c := false) h49) (hH46.sub sR) (fun w hS => mV (I _) rfl) ?_
          refine AG 21 rfl rfl (bR (c := false) h49) (hH46.sub sR) (fun w hS => run_indexAddrS (ha.rows.sl.hp hS) underlying27 sizeOf48 rfl rfl (by omega)) ?_
          refine AG 22 rfl rfl (bR (c := false) h49) (hH46.sub sR) (fun w hS => run_ld underlying48 rfl rfl ((ha.rows.sl.hp hS).cell _ _ (rowsC_at (by omega)))) ?_
          refine A1 23 ?_
          refine AO.callP rfl (gsome rfl (bR (c := false) h49)) rfl hH46 sR (c_assign_fits _ _ _  _ ((ha.at (by omega) (by omega)).sl.hp hH46) ((hs.at (by omega) (by omega)).mono hH46.kw) (hT.hp hH46)) (run_call2 call26 rfl rfl) ?_
          intro w50 hH51
          refine AG 24 rfl rfl (bR (c := false) h49) (hH51.sub sR) (fun w hS => run_not rfl) ?_
          refine AT 25 rfl (hH51.sub sR) (fun w hS => run_pickF (bR (c := false) h49) (v := B _) rfl) ?_
          refine AD ?_
          refine CW.cond rfl (fun h54 => ?_) (fun h54 => ?_)
          ·refine SR ?_
           refine V (aV (B false) rfl) ?_
           refine RL.nil ?_
           refine CW.ret ?_
           refine outP1 Tryz.results9 (congrArg B ?_) hH51.below
           first | (exfalso; omega) | exact (right_3 h0 ‹k < _› (ok_n0 (by omega))).symm | exact (right_3 h0 ‹k < _› (ok_1a (by omega) (by omega))).symm | exact (right_3 h0 ‹k < _› (ok_1b (by omega) (nt ‹(!fitsS _ _) = true›))).symm | exact (right_3 h0 ‹k < _› (ok_2a (by omega) (nt ‹(!decide (eqE _ _)) = true›))).symm | exact (right_3 h0 ‹k < _› (ok_2b (by omega) (nt ‹(!orderedF _) = true›))).symm | exact (right_3 h0 ‹k < _› (ok_2c (by omega) (nt ‹(!fitsF _ _) = true›))).symm | exact (right_3 h0 ‹k < _› (ok_x (by omega) (by omega))).symm | exact (right_y e1 e2 ‹¬ k < _› hg).symm | exact (right_1 (by omega)).symm | exact (right_2 (by omega)).symm
          ·refine CW.skip ?_
           refine CW.region ?_
           refine V (run_add e27_11 rfl (by omega)) ?_
           refine V (mV (I _) rfl) ?_
           refine RL.nil ?_
           refine ⟨k + 1, ?_, fr11.u4.u4.u4.u4.u4.u4.u4.u4.u4.u4.u4.u4.u4.u4.u1.u1.u1, (hH51.sub (sQ (sQ sR))), (congrArg I (by first | rfl | omega)), ?_, ?_, ?_⟩
           ·((try dsimp only); omega)
           ·omega
           ·omega
           ·exact fun i u v => if e : i = k then e ▸ (by first | (exfalso; omega) | exact ok_y1 ⟨by omega, by omega⟩ (by omega) (by omega) (nf ‹(!fitsS _ _) = false›) | exact ok_y2 ⟨by omega, by omega⟩ (by omega) (nf ‹(!decide (eqE _ _)) = false›) (nf ‹(!orderedF _) = false›) (nf ‹(!fitsF _ _) = false›)) else hg i u (by omega)
       ·refine SR ?_
        refine V (aV (B false) rfl) ?_
        refine RL.nil ?_
        refine CW.ret ?_
        refine outP1 Tryz.results9 (congrArg B ?_) hH27.below
        first | (exfalso; omega) | exact (right_3 h0 ‹k < _› (ok_n0 (by omega))).symm | exact (right_3 h0 ‹k < _› (ok_1a (by omega) (by omega))).symm | exact (right_3 h0 ‹k < _› (ok_1b (by omega) (nt ‹(!fitsS _ _) = true›))).symm | exact (right_3 h0 ‹k < _› (ok_2a (by omega) (nt ‹(!decide (eqE _ _)) = true›))).symm | exact (right_3 h0 ‹k < _› (ok_2b (by omega) (nt ‹(!orderedF _) = true›))).symm | exact (right_3 h0 ‹k < _› (ok_2c (by omega) (nt ‹(!fitsF _ _) = true›))).symm | exact (right_3 h0 ‹k < _› (ok_x (by omega) (by omega))).symm | exact (right_y e1 e2 ‹¬ k < _› hg).symm | exact (right_1 (by omega)).symm | exact (right_2 (by omega)).symm
   ·refine CW.exit (id := 0) rfl ?_
    refine SR ?_
    refine V (aV (B true) rfl) ?_
    refine RL.nil ?_
    refine CW.ret ?_
    refine outP1 Tryz.results9 (congrArg B ?_) hH11.below
    first | (exfalso; omega) | exact (right_3 h0 ‹k < _› (ok_n0 (by omega))).symm | exact (right_3 h0 ‹k < _› (ok_1a (by omega) (by omega))).symm | exact (right_3 h0 ‹k < _› (ok_1b (by omega) (nt ‹(!fitsS _ _) = true›))).symm | exact (right_3 h0 ‹k < _› (ok_2a (by omega) (nt ‹(!decide (eqE _ _)) = true›))).symm | exact (right_3 h0 ‹k < _› (ok_2b (by omega) (nt ‹(!orderedF _) = true›))).symm | exact (right_3 h0 ‹k < _› (ok_2c (by omega) (nt ‹(!fitsF _ _) = true›))).symm | exact (right_3 h0 ‹k < _› (ok_x (by omega) (by omega))).symm | exact (right_y e1 e2 ‹¬ k < _› hg).symm | exact (right_1 (by omega)).symm | exact (right_2 (by omega)).symm

theorem c_clearancelaw18_Big (a : Asg) (hbd : ∀ r ∈ a.rows, r.l.length ≤ 1759218604390) (w : World) (ha : AsgV (Kw w) a) : Calls Tryz.prog 7 #[.agg (asgL a).toArray] w (Pure (B (bigA a)) w) := by
 have hm1 := ha.labels.small
 have hm2 := ha.rows.small
 unfold maxLen at hm1 hm2
 refine enter Tryz.func7 rfl Tryz.ntmps7 rfl ?_
 have hH := Hp.start w
 refine SR ?_
 refine RL.new rfl hH (f := fun b => (.pointer (some ⟨b, 0, none⟩))) (run_box (v := .agg _) rfl) ?_
 intro b3 w1 hH2
 refine V (aV (B false) rfl) ?_
 refine RL.nil ?_
 refine CW.seq ?_
 refine SR ?_
 refine V (fA underlying29 0 rfl sizeOf26 rfl) ?_
 refine V (run_ldV (ha.labels.sl.hp hH2) underlying26 rfl rfl (hH2.cell (i := 0) rfl rfl)) ?_
 refine V (run_lenSl (ha.labels.sl.hp hH2) rfl underlying26 rfl) ?_
 refine V (run_gtr rfl rfl) ?_
 refine V (mV (B _) rfl) ?_
 refine RL.splitP (dj := 12) rfl (fun h5 => ?_) (fun h5 => ?_)
 ·refine RL.gF rfl rfl (bT h5) rfl ?_
  refine RL.gF rfl rfl (bT h5) rfl ?_
  refine RL.gF rfl rfl (bT h5) rfl ?_
  refine RL.gF rfl rfl (bT h5) rfl ?_
  refine V (run_pickT (bT h5) (v := B true) rfl) ?_
  refine RL.nil ?_
  refine CW.condT rfl ?_
  refine SR ?_
  refine V (aV (B true) rfl) ?_
  refine RL.nil ?_
  refine CW.ret ?_
  refine outP1 Tryz.results7 (congrArg B ?_) hH2.below
  first | (rw [bigA, decide_eq_true (by omega)]; rfl) | (rw [bigA, any_yes (d := vr0) (P := bigR) h0 ‹k < _› (any_yes (d := val0) (P := bigNm) q0 ‹q < _› (decide_eq_true (by omega)))]; simp; done) | (rw [bigA, decide_eq_false hno, any_no (d := vr0) (P := bigR) ‹¬ k < _› hg, rsum_all ‹¬ k < _›]; rfl)
 ·refine RL.gT rfl (bF h5) ?_
  refine V (fA underlying29 1 rfl sizeOf27 rfl) ?_
  refine RL.gT rfl (bF h5) ?_
  refine V (run_ldV (ha.rows.sl.hp hH2) underlying27 rfl rfl (hH2.cell (i := 0) rfl rfl)) ?_
  refine RL.gT rfl (bF h5) ?_
  refine V (run_lenSl (ha.rows.sl.hp hH2) rfl underlying27 rfl) ?_
  refine RL.gT rfl (bF h5) ?_
  refine V (run_gtr rfl rfl) ?_
  refine V (run_pickF (bF h5) (v := B _) rfl) ?_
  refine RL.nil ?_
  refine CW.condP rfl (fun h7 => ?_) (fun h7 => ?_)
  ·refine SR ?_
   refine V (aV (B true) rfl) ?_
   refine RL.nil ?_
   refine CW.ret ?_
   refine outP1 Tryz.results7 (congrArg B ?_) hH2.below
   first | (rw [bigA, decide_eq_true (by omega)]; rfl) | (rw [bigA, any_yes (d := vr0) (P := bigR) h0 ‹k < _› (any_yes (d := val0) (P := bigNm) q0 ‹q < _› (decide_eq_true (by omega)))]; simp; done) | (rw [bigA, decide_eq_false hno, any_no (d := vr0) (P := bigR) ‹¬ k < _› hg, rsum_all ‹¬ k < _›]; rfl)
  ·refine CW.skip ?_
   refine SR ?_
   refine V (aV (I 0) rfl) ?_
   refine RL.nil ?_
   refine CW.seq ?_
   refine SR ?_
   refine V (fA underlying29 1 rfl sizeOf27 rfl) ?_
   refine V (run_ldV (ha.rows.sl.hp hH2) underlying27 rfl rfl (hH2.cell (i := 0) rfl rfl)) ?_
   refine V (run_lenSl (ha.rows.sl.hp hH2) rfl underlying27 rfl) ?_
   refine V (mV (I 0) rfl) ?_
   refine RL.nil ?_
   refine CW.block ?_
   have hno : ¬ (100 < a.labels.length ∨ 100 < a.rows.length) := by omega
   refine CW.loop (G := (Int)) (fun (k : Int) s' w' => (Fr [2, 3, 5, 7, 21, 22, 23, 24, 25, 26, 27, 28, 29, 30, 31, 32, 33, 34, 35, 36, 37, 38, 39, 40] _ s') ∧ (Hp w w' _) ∧ (s' 3 = I (rsum (a.rows.take k.toNat))) ∧ (s' 21 = I k) ∧ (0 ≤ k) ∧ (k ≤ a.rows.length) ∧ (∀ i : Int, 0 ≤ i → i < k → bigR (a.rows.getD i.toNat vr0) = false)) (fun (k : Int) => (a.rows.length - k).toNat) (0) ⟨Fr.refl _ _, hH2, rfl, rfl, (by omega), (by omega), fun j a b => absurd b (by omega)⟩ ?_
   rintro k sg8 w8 ⟨fr8, hH8, e3_8, e21_8, h0, hk, hg⟩
   have e19_8 := (fr8 19 rfl).trans (by conv => lhs; whnf)
   have e20_8 : sg8 20 = I _ := (fr8 20 rfl).trans rfl
   refine SR ?_
   refine V (run_lss e21_8 e20_8) ?_
   refine RL.nil ?_
   refine CW.seq ?_
   refine CW.condP rfl (fun h10 => ?_) (fun h10 => ?_)
   ·refine CW.skip ?_
    refine CW.seq ?_
    refine CW.block ?_
    refine SR ?_
    refine V (run_indexAddrS (ha.rows.sl.hp hH8) underlying27 sizeOf48 e19_8 e21_8 (by omega)) ?_
    refine V (run_ld underlying48 rfl rfl ((ha.rows.sl.hp hH8).cell _ _ (rowsC_at (by omega)))) ?_
    refine V (run_assign (by conv => lhs; whnf)) ?_
    refine RL.nil ?_
    refine SR ?_
    refine V (run_move e3_8) ?_
    refine V (run_move (by conv => lhs; whnf)) ?_
    refine V (run_lenSl ((ha.at (by omega) (by omega)).sl.hp hH8) rfl underlying48 rfl) ?_
    refine V (run_add rfl rfl (by first | omega | (have hb2 := hbd _ (List.mem_of_getElem? (getD_at (d := vr0) h0 ‹k < _›)); have hb3 := rsum_bd hbd h0 (show k ≤ 100 by omega); omega))) ?_
    refine V (aV (I _) rfl) ?_
    refine RL.nil ?_
    refine SR ?_
    refine V (run_move (by conv => lhs; whnf)) ?_
    refine V (run_lenSl ((ha.at (by omega) (by omega)).sl.hp hH8) rfl underlying48 rfl) ?_
    refine V (mV (I 0) rfl) ?_
    refine RL.nil ?_
    refine CW.block ?_
    have hm5 := (ha.at h0 (by omega)).small
    unfold maxLen at hm5
    refine CW.loop (G := (Int)) (fun (q : Int) s' w' => (Fr [2, 7, 31, 32, 33, 34, 35, 36, 37, 38, 39] _ s') ∧ (Hp w w' _) ∧ (s' 31 = I q) ∧ (0 ≤ q) ∧ (q ≤ (a.rows.getD k.toNat vr0).l.length) ∧ (∀ i : Int, 0 ≤ i → i < q → bigNm ((a.rows.getD k.toNat vr0).l.getD i.toNat val0) = false)) (fun (q : Int) => ((a.rows.getD k.toNat vr0).l.length - q).toNat) (0) ⟨Fr.refl _ _, hH8, rfl, (by omega), (by omega), fun j a b => absurd b (by omega)⟩ ?_
    rintro q sg11 w11 ⟨fr11, hH11, e31_11, q0, qk, hq⟩
    have e3_11 : sg11 3 = I _ := (fr11 3 rfl).trans rfl
    have e5_11 := (fr11 5 rfl).trans (by conv => lhs; whnf)
    have e19_11 := (fr11 19 rfl).trans e19_8
    have e20_11 := (fr11 20 rfl).trans e20_8
    have e21_11 := (fr11 21 rfl).trans e21_8
    have e22_11 := (fr11 22 rfl).trans (by conv => lhs; whnf)
    have e23_11 : sg11 23 = Pn _ _ := (fr11 23 rfl).trans rfl
    have e24_11 := (fr11 24 rfl).trans (by conv => lhs; whnf)
    have e25_11 : sg11 25 = I _ := (fr11 25 rfl).trans rfl
    have e26_11 := (fr11 26 rfl).trans (by conv => lhs; whnf)
    have e27_11 : sg11 27 = I _ := (fr11 27 rfl).trans rfl
    have e28_11 : sg11 28 = I _ := (fr11 28 rfl).trans rfl
    have e29_11 := (fr11 29 rfl).trans (by conv => lhs; whnf)
    have e30_11 : sg11 30 = I _ := (fr11 30 rfl).trans rfl
    refine SR ?_
    refine V (run_lss e31_11 e30_11) ?_
    refine RL.nil ?_
    refine CW.seq ?_
    refine CW.condP rfl (fun h13 => ?_) (fun h13 => ?_)
    ·refine CW.skip ?_
     refine CW.seq ?_
     refine CW.block ?_
     refine SR ?_
     refine V (run_indexAddrS ((ha.at (by omega) (by omega)).sl.hp hH11) underlying48 sizeOf53 e29_11 e31_11 (by omega)) ?_
     refine V (run_ldE (dv := val0) valL_len ((ha.at (by omega) (by omega)).sl.hp hH11) underlying53 rfl rfl rfl (by omega)) ?_
     refine RL.new rfl hH11 (f := fun b => (.pointer (some ⟨b, 0, none⟩))) (run_alloc zero_val) ?_
     intro b16 w14 hH15
     refine RL.set hH15 (i := 0) rfl (run_stW (c' := (valL _).toArray) rfl rfl rfl (valL_one _) (hH15.blk (i := 0) rfl) rfl) ?_
     intro w17 hH18
     simp only [z0, z1] at hH18
     refine RL.nil ?_
     refine SR ?_
     refine V (fA underlying53 0 rfl sizeOf9 rfl) ?_
     refine V (run_ld underlying9 rfl rfl (hH18.cell (i := 0) rfl (v := .string _) rfl)) ?_
     refine V (run_lenStr rfl underlying9 rfl) ?_
     refine V (run_gtr rfl rfl) ?_
     refine RL.nil ?_
     refine CW.condP rfl (fun h20 => ?_) (fun h20 => ?_)
     ·refine SR ?_
      refine V (aV (B true) rfl) ?_
      refine RL.nil ?_
      refine CW.ret ?_
      refine outP1 Tryz.results7 (congrArg B ?_) hH18.below
      first | (rw [bigA, decide_eq_true (by omega)]; rfl) | (rw [bigA, any_yes (d := vr0) (P := bigR) h0 ‹k < _› (any_yes (d := val0) (P := bigNm) q0 ‹q < _› (decide_eq_true (by omega)))]; simp; done) | (rw [bigA, decide_eq_false hno, any_no (d := vr0) (P := bigR) ‹¬ k < _› hg, rsum_all ‹¬ k < _›]; rfl)
     ·refine CW.skip ?_
      refine CW.region ?_
      refine V (run_add e31_11 rfl (by first | omega | (have hb2 := hbd _ (List.mem_of_getElem? (getD_at (d := vr0) h0 ‹k < _›)); have hb3 := rsum_bd hbd h0 (show k ≤ 100 by omega); omega))) ?_
      refine V (mV (I _) rfl) ?_
      refine RL.nil ?_
      refine ⟨q + 1, ?_, fr11.u4.u4.u1.u1, (hH18.sub (sQ sR)), (congrArg I (by first | rfl | omega)), ?_, ?_, ?_⟩
      ·((try dsimp only); omega)
      ·omega
      ·omega
      ·exact fun i u v => if e : i = q then e ▸ decide_eq_false (by omega) else hq i u (by omega)
    ·refine CW.exit (id := 2) rfl ?_
     refine CW.region ?_
     refine V (run_add e21_11 rfl (by first | omega | (have hb2 := hbd _ (List.mem_of_getElem? (getD_at (d := vr0) h0 ‹k < _›)); have hb3 := rsum_bd hbd h0 (show k ≤ 100 by omega); omega))) ?_
     refine V (mV (I _) rfl) ?_
     refine RL.nil ?_
     refine ⟨k + 1, ?_, (((fr8.u4.u4.u4).t fr11 rfl)).u1.u1.u1, hH11, (Eq.trans e3_11 (congrArg I (rsum_next h0 ‹k < _›).symm)), (congrArg I (by first | rfl | omega)), ?_, ?_, ?_⟩
     ·((try dsimp only); omega)
     ·omega
     ·omega
     ·exact fun i u v => if e : i = k then e ▸ any_no (d := val0) ‹¬ q < _› hq else hg i u (by omega)
   ·refine CW.exit (id := 0) rfl ?_
    refine SR ?_
    refine V (run_move e3_8) ?_
    refine V (run_gtr rfl rfl) ?_
    refine V (aV (B _) rfl) ?_
    refine RL.nil ?_
    refine CW.ret ?_
    refine outP1 Tryz.results7 (congrArg B ?_) hH8.below
    first | (rw [bigA, decide_eq_true (by omega)]; rfl) | (rw [bigA, any_yes (d := vr0) (P := bigR) h0 ‹k < _› (any_yes (d := val0) (P := bigNm) q0 ‹q < _› (decide_eq_true (by omega)))]; simp; done) | (rw [bigA, decide_eq_false hno, any_no (d := vr0) (P := bigR) ‹¬ k < _› hg, rsum_all ‹¬ k < _›]; rfl)

theorem c_name_Join (v : Value) (l : List Tx) (b : Tx) (hz : szJ b l ≤ 200000000000) (w : World) (hs : Sl w v 1 l.length (txL l)) : Calls Tryz.prog 35 #[v, S b] w (Pure (S (joinF b l)) w) := by
 have hm := hs.small
 unfold maxLen at hm
 refine enter Tryz.func35 rfl Tryz.ntmps35 rfl ?_
 have hH := Hp.start w
 refine SR ?_
 refine V (aV (.string ⟨#[]⟩) rfl) ?_
 refine RL.nil ?_
 refine SR ?_
 refine V (aV (.slice none 0 0) rfl) ?_
 have hH1 := hH.nilRow 5 1
 refine RL.nil ?_
 refine CW.seq ?_
 refine SR ?_
 refine V (run_move (by conv => lhs; whnf)) ?_
 refine V (run_lenSl (hs.hp hH1) rfl underlying54 rfl) ?_
 refine V (mV (I 0) rfl) ?_
 refine RL.nil ?_
 refine CW.block ?_
 refine CW.loop (G := (Int) × (Tx) × (Value)) (fun (⟨k, m, v5⟩ : (Int) × (Tx) × (Value)) s' w' => (Fr [5, 6, 9, 10, 11, 12, 13, 14, 15, 16, 17, 18, 19, 20, 21, 22, 23] _ s') ∧ (Hp w w' (.row v5 5 1 (m.size) (byL m) :: _)) ∧ (s' 5 = v5) ∧ (s' 9 = I k) ∧ (0 ≤ k) ∧ (k ≤ l.length) ∧ (m = joinTo b l k)) (fun (⟨k, m, v5⟩ : (Int) × (Tx) × (Value)) => (l.length - k).toNat) ((0, tx0, (.slice none 0 0 : Value))) ⟨Fr.refl _ _, hH1, rfl, rfl, (by omega), (by omega), rfl⟩ ?_
 rintro ⟨k, m, v5⟩ sg2 w2 ⟨fr2, hH2, e5_2, e9_2, h0, hk, hm⟩
 have e0_2 := (fr2 0 rfl).trans (by conv => lhs; whnf)
 have e1_2 : sg2 1 = .string _ := (fr2 1 rfl).trans rfl
 have e4_2 : sg2 4 = .string _ := (fr2 4 rfl).trans rfl
 have e8_2 : sg2 8 = I _ := (fr2 8 rfl).trans rfl
 subst hm
 refine SR ?_
 refine V (run_lss e9_2 e8_2) ?_
 refine RL.nil ?_
 refine CW.seq ?_
 refine CW.condP rfl (fun h4 => ?_) (fun h4 => ?_)
 ·refine CW.skip ?_
  refine CW.seq ?_
  refine CW.block ?_
  refine SR ?_
  refine V (run_move e9_2) ?_
  refine V (aV (I _) rfl) ?_
  refine RL.nil ?_
  refine CW.seq ?_
  refine SR ?_
  refine V (mV (I _) rfl) ?_
  refine V (run_gtr rfl rfl) ?_
  refine RL.nil ?_
  refine CW.condP rfl (fun h6 => ?_) (fun h6 => ?_)
  ·refine CW.region ?_
   refine V (run_move e5_2) ?_
   refine V (run_move e1_2) ?_
   refine RL.appS rfl hH2 (i := 0) rfl rfl rfl underlying98 underlying9 rfl rfl rfl rfl (by have hjz := joinTo_sz (b := b) h0 ‹k < l.length›; (try simp only [List.length_cons, List.length_nil]); omega) ?_
   intro v7 w8 hH9
   simp only [z0, z1] at hH9
   refine V (run_assign (by conv => lhs; whnf)) ?_
   refine RL.nil ?_
   refine CW.region ?_
   refine V (run_move (by conv => lhs; whnf)) ?_
   refine V (run_move e0_2) ?_
   refine V (mV (I _) rfl) ?_
   refine V (run_indexAddrS (hs.hp hH9) underlying54 sizeOf9 rfl rfl (by omega)) ?_
   refine V (run_ld underlying9 rfl rfl ((hs.hp hH9).cell _ _ (txL_at (by omega)))) ?_
   refine RL.appS rfl hH9 (i := 0) rfl rfl rfl underlying98 underlying9 rfl rfl rfl rfl (by have hjz := joinTo_sz (b := b) h0 ‹k < l.length›; (try simp only [List.length_cons, List.length_nil]); omega) ?_
   intro v10 w11 hH12
   simp only [z0, z1] at hH12
   refine V (run_assign (by conv => lhs; whnf)) ?_
   refine RL.nil ?_
   refine CW.region ?_
   refine V (run_add e9_2 rfl (by omega)) ?_
   refine V (mV (I _) rfl) ?_
   refine RL.nil ?_
   refine ⟨(k + 1, joinTo b l (k + 1), v10), ?_, fr2.u4.u4.u4.u4.u1.u1, (Hp.conv hH12 (by first | (rw [← join_2 ‹0 < k› ‹k < _›, tx_size_app, tx_size_app, byL_app, byL_app]; done) | (rw [← join_2 ‹0 < k› ‹k < _›, tx_size_app, tx_size_app, byL_app, byL_app]; rfl) | (rw [← join_1 (show k = 0 by omega) ‹k < _›, tx_size_app, byL_app]))), rfl, (congrArg I (by first | rfl | omega)), ?_, ?_, ?_⟩
   ·((try dsimp only); omega)
   ·omega
   ·omega
   ·rfl
  ·refine CW.skip ?_
   refine CW.region ?_
   refine V (run_move e5_2) ?_
   refine V (run_move e0_2) ?_
   refine V (mV (I _) rfl) ?_
   refine V (run_indexAddrS (hs.hp hH2) underlying54 sizeOf9 rfl rfl (by omega)) ?_
   refine V (run_ld underlying9 rfl rfl ((hs.hp hH2).cell _ _ (txL_at (by omega)))) ?_
   refine RL.appS rfl hH2 (i := 0) rfl rfl rfl underlying98 underlying9 rfl rfl rfl rfl (by have hjz := joinTo_sz (b := b) h0 ‹k < l.length›; (try simp only [List.length_cons, List.length_nil]); omega) ?_
   intro v13 w14 hH15
   simp only [z0, z1] at hH15
   refine V (run_assign (by conv => lhs; whnf)) ?_
   refine RL.nil ?_
   refine CW.region ?_
   refine V (run_add e9_2 rfl (by omega)) ?_
   refine V (mV (I _) rfl) ?_
   refine RL.nil ?_
   refine ⟨(k + 1, joinTo b l (k + 1), v13), ?_, fr2.u4.u4.u4.u1.u1, (Hp.conv hH15 (by first | (rw [← join_2 ‹0 < k› ‹k < _›, tx_size_app, tx_size_app, byL_app, byL_app]; done) | (rw [← join_2 ‹0 < k› ‹k < _›, tx_size_app, tx_size_app, byL_app, byL_app]; rfl) | (rw [← join_1 (show k = 0 by omega) ‹k < _›, tx_size_app, byL_app]))), rfl, (congrArg I (by first | rfl | omega)), ?_, ?_, ?_⟩
   ·((try dsimp only); omega)
   ·omega
   ·omega
   ·rfl
 ·refine CW.exit (id := 0) rfl ?_
  refine SR ?_
  refine V (run_move e5_2) ?_
  refine V (run_convBS (s := (joinTo b l k)) (hH2.sl (i := 0) rfl) underlying98 underlying5 underlying9 rfl) ?_
  refine V (aV (.string _) rfl) ?_
  refine RL.nil ?_
  refine CW.ret ?_
  refine outP1 Tryz.results35 ?_ hH2.below
  exact congrArg S (join_all ‹¬ k < _›)

theorem c_assign_row (s : Shp) (v : Value) (l : List ValR) (hn : ∀ v ∈ l, v.name.size ≤ 40) (hl : l.length ≤ 1000) (w : World) (hs : Sl w v 9 l.length (l.flatMap valL)) (hsh : ShpV (Kw w) s) (hT : Tab w) : Calls Tryz.prog 34 #[.agg (shpC s), v] w (Pure (S (rowT s.sh l)) w) := by
 have hm := hs.small
 unfold maxLen at hm
 refine enter Tryz.func34 rfl Tryz.ntmps34 rfl ?_
 have hH := Hp.start w
 refine SR ?_
 refine RL.new rfl hH (f := fun b => (.pointer (some ⟨b, 0, none⟩))) (run_box (v := .agg _) rfl) ?_
 intro b3 w1 hH2
 refine V (aV (.string ⟨#[]⟩) rfl) ?_
 refine RL.nil ?_
 refine SR ?_
 refine V (aV (.slice none 0 0) rfl) ?_
 have hH4 := hH2.nilRow 9 1
 refine RL.nil ?_
 refine CW.seq ?_
 refine SR ?_
 refine V (run_move (by conv => lhs; whnf)) ?_
 refine V (run_lenSl (hs.hp hH4) rfl underlying48 rfl) ?_
 refine V (mV (I 0) rfl) ?_
 refine RL.nil ?_
 refine CW.block ?_
 refine CW.loop (G := (Int) × (List Tx) × (Value)) (fun (⟨k, m, v5⟩ : (Int) × (List Tx) × (Value)) s' w' => (Fr [5, 7, 10, 11, 12, 13, 14, 15, 16, 17, 18, 19, 20, 21, 22, 23, 24, 25] _ s') ∧ (Hp w w' (.row v5 9 1 (m.length) (txL m) :: _)) ∧ (s' 5 = v5) ∧ (s' 10 = I k) ∧ (0 ≤ k) ∧ (k ≤ l.length) ∧ (m = (l.take k.toNat).map (fieldT s.sh)) ∧ ((m.length : Int) = k)) (fun (⟨k, m, v5⟩ : (Int) × (List Tx) × (Value)) => (l.length - k).toNat) ((0, [], (.slice none 0 0 : Value))) ⟨Fr.refl _ _, hH4, rfl, rfl, (by omega), (by omega), rfl, rfl⟩ ?_
 rintro ⟨k, m, v5⟩ sg5 w5 ⟨fr5, hH5, e5_5, e10_5, h0, hk, hm, hml⟩
 have e2_5 : sg5 2 = Pn _ _ := (fr5 2 rfl).trans rfl
 have e4_5 : sg5 4 = .string _ := (fr5 4 rfl).trans rfl
 have e8_5 := (fr5 8 rfl).trans (by conv => lhs; whnf)
 have e9_5 : sg5 9 = I _ := (fr5 9 rfl).trans rfl
 refine SR ?_
 refine V (run_lss e10_5 e9_5) ?_
 refine RL.nil ?_
 refine CW.seq ?_
 refine CW.condP rfl (fun h7 => ?_) (fun h7 => ?_)
 ·refine CW.skip ?_
  refine CW.seq ?_
  refine CW.block ?_
  refine SR ?_
  refine V (run_indexAddrS (hs.hp hH5) underlying48 sizeOf53 e8_5 e10_5 (by omega)) ?_
  refine V (run_ldE (dv := val0) valL_len (hs.hp hH5) underlying53 rfl rfl rfl (by omega)) ?_
  refine RL.new rfl hH5 (f := fun b => (.pointer (some ⟨b, 0, none⟩))) (run_alloc zero_val) ?_
  intro b10 w8 hH9
  refine RL.set hH9 (i := 0) rfl (run_stW (c' := (valL _).toArray) rfl rfl rfl (valL_one _) (hH9.blk (i := 0) rfl) rfl) ?_
  intro w11 hH12
  simp only [z0, z1] at hH12
  refine RL.nil ?_
  refine CW.regionS (by kernel_rfl) hH12 (sP (sQ sR)) ?_
  intro w13 hH14
  refine AT 0 rfl (hH14.sub (sP (sQ sR))) (fun w hS => run_move e5_5) ?_
  refine AT 1 rfl (hH14.sub (sP (sQ sR))) (fun w hS => fA underlying53 0 rfl sizeOf9 rfl) ?_
  refine AT 2 rfl (hH14.sub (sP (sQ sR))) (fun w hS => run_ld underlying9 rfl rfl (hS.cell (i := 0) rfl (v := .string _) rfl)) ?_
  refine AT 3 rfl (hH14.sub (sP (sQ sR))) (fun w hS => run_addS rfl rfl (by first | (have hnk := hn _ (List.mem_of_getElem? (getD_at (d := val0) h0 ‹k < _›)); have hss := spell_sz s.sh (l.getD k.toNat val0).el; (try simp only [tx_size_app]); (try simp only [tsz1, tsz2]); omega) | (have he : m = l.map (fieldT s.sh) := (by rw [hm, List.take_of_length_le (show l.length ≤ k.toNat by omega)]); rw [he]; have hjs := join_sz (tc 44) (l.map (fieldT s.sh)); have hfs := fields_sz (s := s.sh) hn hl; (try simp only [tx_size_app]); (try simp only [tsz1, tsz2]); omega))) ?_
  refine AT 4 rfl (hH14.sub (sP (sQ sR))) (fun w hS => run_ldA (cs := [B _, _]) underlying42 rfl rfl e2_5 (rangeAt_cells (hS.blk (i := 1) rfl))) ?_
  refine AT 5 rfl (hH14.sub (sP (sQ sR))) (fun w hS => fA underlying53 1 rfl sizeOf51 rfl) ?_
  refine AT 6 rfl (hH14.sub (sP (sQ sR))) (fun w hS => run_ldVB underlying51 rfl rfl rfl (hS.blk (i := 0) rfl)) ?_
  refine A1 7 ?_
  refine AO.callP rfl gnone rfl hH14 (sP (sQ sR)) (c_spell_Text _ _  _ (hsh.mono hH14.kw) (hT.hp hH14)) (run_call2 call33 rfl rfl) ?_
  intro w15 hH16
  refine AT 8 rfl (hH16.sub (sP (sQ sR))) (fun w hS => run_addS rfl rfl (by first | (have hnk := hn _ (List.mem_of_getElem? (getD_at (d := val0) h0 ‹k < _›)); have hss := spell_sz s.sh (l.getD k.toNat val0).el; (try simp only [tx_size_app]); (try simp only [tsz1, tsz2]); omega) | (have he : m = l.map (fieldT s.sh) := (by rw [hm, List.take_of_length_le (show l.length ≤ k.toNat by omega)]); rw [he]; have hjs := join_sz (tc 44) (l.map (fieldT s.sh)); have hfs := fields_sz (s := s.sh) hn hl; (try simp only [tx_size_app]); (try simp only [tsz1, tsz2]); omega))) ?_
  refine A1 9 ?_
  refine AO.new rfl gnone rfl hH16 (sP (sQ sR)) (f := fun b => .slice (some ⟨b, 0, none⟩) 1 1) (run_mkL underlying54 rfl rfl (sz := 1) (vs := [.string _]) rfl rfl (by decide) (by decide) rfl rfl) ?_
  intro b19 w17 hH18
  (try simp only [List.flatMap_cons, List.flatMap_nil, clI, clB, clS, clP, clL, clA, List.append_nil, List.cons_append, List.nil_append] at hH18)
  refine A1 10 ?_
  refine AO.app rfl gnone rfl hH18 (j := 2) rfl (fun _ => (sQ (sP (sQ sR)))) (hH18.slBlk (i := 0) (n := 1) (sz := 1) rfl rfl (by decide)) rfl rfl underlying54 rfl rfl (size := 1) (bytes := 16) rfl rfl rfl (by decide) (by simp [Value.oneCell']) (by omega) (by simp only [maxLen]; omega) ?_
  intro v22 w20 hH21
  simp only [z0, z1] at hH21
  refine AT 11 rfl (hH21.sub (sQ (sP (sQ sR)))) (fun w hS => run_assign (by conv => lhs; whnf)) ?_
  refine AD ?_
  refine CW.region ?_
  refine V (run_add e10_5 rfl (by omega)) ?_
  refine V (mV (I _) rfl) ?_
  refine RL.nil ?_
  refine ⟨(k + 1, m ++ [fieldT s.sh (l.getD k.toNat val0)], v22), ?_, fr5.u4.u4.u4.u4.u1.u1, (Hp.conv (hH21.sub (sQ (sQ sR))) (by (simp only [txL, List.map_append, List.map_cons, List.map_nil, List.length_append, List.length_singleton]; rfl))), rfl, (congrArg I (by first | rfl | omega)), ?_, ?_, ?_, ?_⟩
  ·((try dsimp only); omega)
  ·omega
  ·omega
  ·rw [fields_next h0 ‹k < _›, ← hm]
  ·simp only [List.length_append, List.length_singleton]; omega
 ·refine CW.exit (id := 0) rfl ?_
  refine SR ?_
  refine V (run_move e5_5) ?_
  refine RL.callP rfl hH5 (c_name_Join _ m (tc 44) (by rw [hm, List.take_of_length_le (show l.length ≤ k.toNat by omega)]; have := fields_sz (s := s.sh) hn hl; omega) _ (hH5.sl (i := 0) rfl)) (run_call2 call35 rfl (show _ = Value.string ⟨#[44]⟩ from rfl)) ?_
  intro w23 hH24
  refine V (run_addS rfl rfl (by first | (have hnk := hn _ (List.mem_of_getElem? (getD_at (d := val0) h0 ‹k < _›)); have hss := spell_sz s.sh (l.getD k.toNat val0).el; (try simp only [tx_size_app]); (try simp only [tsz1, tsz2]); omega) | (have he : m = l.map (fieldT s.sh) := (by rw [hm, List.take_of_length_le (show l.length ≤ k.toNat by omega)]); rw [he]; have hjs := join_sz (tc 44) (l.map (fieldT s.sh)); have hfs := fields_sz (s := s.sh) hn hl; (try simp only [tx_size_app]); (try simp only [tsz1, tsz2]); omega))) ?_
  refine V (run_addS rfl rfl (by first | (have hnk := hn _ (List.mem_of_getElem? (getD_at (d := val0) h0 ‹k < _›)); have hss := spell_sz s.sh (l.getD k.toNat val0).el; (try simp only [tx_size_app]); (try simp only [tsz1, tsz2]); omega) | (have he : m = l.map (fieldT s.sh) := (by rw [hm, List.take_of_length_le (show l.length ≤ k.toNat by omega)]); rw [he]; have hjs := join_sz (tc 44) (l.map (fieldT s.sh)); have hfs := fields_sz (s := s.sh) hn hl; (try simp only [tx_size_app]); (try simp only [tsz1, tsz2]); omega))) ?_
  refine V (aV (.string _) rfl) ?_
  refine RL.nil ?_
  refine CW.ret ?_
  refine outP1 Tryz.results34 ?_ hH24.below
  (rw [hm, List.take_of_length_le (show l.length ≤ k.toNat by omega)]; rfl)

theorem c_assign_Text (s : Scp) (a : Asg) (hv : s.vars.length ≤ 80) (hvn : ∀ v ∈ s.vars, v.name.size ≤ 40) (hrl : ∀ r ∈ a.rows, r.l.length ≤ 200) (w : World) (hs : ScpV (Kw w) s) (ha : AsgV (Kw w) a) (hT : Tab w) : Calls Tryz.prog 14 #[.agg (scpC s), .agg (asgL a).toArray] w (Pure (S (textA s.sc a.as)) w) := by
 have hm1 := hs.lats.sl.small
 have hm2 := hs.vars.sl.small
 unfold maxLen at hm1 hm2
 have hm3 := ha.labels.small
 have hm4 := ha.rows.small
 unfold maxLen at hm3 hm4
 refine enter Tryz.func14 rfl Tryz.ntmps14 rfl ?_
 have hH := Hp.start w
 refine SR ?_
 refine RL.new rfl hH (f := fun b => (.pointer (some ⟨b, 0, none⟩))) (run_box (v := .agg _) rfl) ?_
 intro b3 w1 hH2
 refine RL.new rfl hH2 (f := fun b => (.pointer (some ⟨b, 0, none⟩))) (run_box (v := .agg _) rfl) ?_
 intro b6 w4 hH5
 refine V (aV (.string ⟨#[]⟩) rfl) ?_
 refine RL.nil ?_
 refine CW.seq ?_
 refine SR ?_
 refine V (run_ldA (cs := scpL _) underlying25 rfl rfl rfl (rangeAt_cells (hH5.blk (i := 1) rfl))) ?_
 refine V (run_ldA (cs := asgL _) underlying29 rfl rfl rfl (rangeAt_cells (hH5.blk (i := 0) rfl))) ?_
 refine RL.callP rfl hH5 (c_assign_Right _ _  _ (hs.mono hH5.kw) (ha.mono hH5.kw) (hT.hp hH5)) (run_call2 call9 rfl rfl) ?_
 intro w7 hH8
 refine V (run_not rfl) ?_
 refine RL.nil ?_
 refine CW.cond rfl (fun h11 => ?_) (fun h11 => ?_)
 ·refine SR ?_
  refine V (aV (.string ⟨#[]⟩) rfl) ?_
  refine RL.nil ?_
  refine CW.ret ?_
  refine outP1 Tryz.results14 ?_ hH8.below
  first | exact congrArg S (text_no (nt ‹(!rightA _ _) = true›)).symm | exact congrArg S (by rw [text_yes hR, show (s.vars.length : Int) = k by omega])
 ·refine CW.skip ?_
  refine SR ?_
  refine V (aV (.slice none 0 0) rfl) ?_
  have hH12 := hH8.nilRow 9 1
  refine RL.nil ?_
  refine CW.seq ?_
  refine SR ?_
  refine V (fA underlying25 1 rfl sizeOf23 rfl) ?_
  refine V (run_ldV (hs.vars.sl.hp hH12) underlying23 rfl rfl (hH12.cell (i := 2) rfl rfl)) ?_
  refine V (run_lenSl (hs.vars.sl.hp hH12) rfl underlying23 rfl) ?_
  refine V (mV (I 0) rfl) ?_
  refine RL.nil ?_
  refine CW.block ?_
  have hR := nf ‹(!rightA _ _) = false›
  have hrl2 := right_len hR
  have hvz : szJ (tc 32) (VS s a) ≤ 160003443520 := vars_sz hR hv hvn hrl
  have hVl := VS_len (s := s) (a := a)
  refine CW.loop (G := (Int) × (List Tx) × (Value)) (fun (⟨k, m, v5⟩ : (Int) × (List Tx) × (Value)) s' w' => (Fr [5, 6, 7, 8, 16, 17, 18, 19, 20, 21, 22, 23, 24, 25, 26, 27, 28, 29, 30, 31, 32, 33, 34, 35, 36, 37, 38, 39, 40, 41, 42, 43, 44, 45, 46, 47, 48, 49, 50, 51, 52, 53, 54, 55, 56, 57, 58, 59] _ s') ∧ (Hp w w' (.row v5 9 1 (m.length) (txL m) :: _)) ∧ (s' 5 = v5) ∧ (s' 16 = I k) ∧ (0 ≤ k) ∧ (k ≤ s.vars.length) ∧ (m = varsT s.sc a.as k)) (fun (⟨k, m, v5⟩ : (Int) × (List Tx) × (Value)) => (s.vars.length - k).toNat) ((0, [], (.slice none 0 0 : Value))) ⟨Fr.refl _ _, hH12, rfl, rfl, (by omega), (by omega), rfl⟩ ?_
  rintro ⟨k, m, v5⟩ sg13 w13 ⟨fr13, hH13, e5_13, e16_13, h0, hk, hm⟩
  have e2_13 : sg13 2 = Pn _ _ := (fr13 2 rfl).trans rfl
  have e3_13 : sg13 3 = Pn _ _ := (fr13 3 rfl).trans rfl
  have e4_13 : sg13 4 = .string _ := (fr13 4 rfl).trans rfl
  have e14_13 := (fr13 14 rfl).trans (by conv => lhs; whnf)
  have e15_13 : sg13 15 = I _ := (fr13 15 rfl).trans rfl
  subst hm
  refine SR ?_
  refine V (run_lss e16_13 e15_13) ?_
  refine RL.nil ?_
  refine CW.seq ?_
  refine CW.condP rfl (fun h15 => ?_) (fun h15 => ?_)
  ·refine CW.skip ?_
   refine CW.seq ?_
   refine CW.block ?_
   refine SR ?_
   refine V (run_move e16_13) ?_
   refine V (run_indexAddrS (hs.vars.sl.hp hH13) underlying23 sizeOf47 e14_13 e16_13 (by first | omega | (have hok := ok_lat (right_at hR h0 ‹k < s.vars.length›); omega))) ?_
   refine V (run_ldE (dv := var0) varL_len (hs.vars.sl.hp hH13) underlying47 rfl rfl rfl (by first | omega | (have hok := ok_lat (right_at hR h0 ‹k < s.vars.length›); omega))) ?_
   refine RL.new rfl hH13 (f := fun b => (.pointer (some ⟨b, 0, none⟩))) (run_alloc Tryz.zeroValue47) ?_
   intro b18 w16 hH17
   refine V (aV (I _) rfl) ?_
   refine RL.set hH17 (i := 0) rfl (run_stW (c' := (varL _).toArray) rfl rfl rfl (by simp [varL, Value.oneCell']) (hH17.blk (i := 0) rfl) rfl) ?_
   intro w19 hH20
   simp only [z0, z1] at hH20
   refine RL.nil ?_
   refine SR ?_
   refine V (fA underlying25 0 rfl sizeOf22 e2_13) ?_
   refine V (run_ldV (hs.lats.sl.hp hH20) underlying22 rfl rfl (hH20.cell (i := 3) rfl rfl)) ?_
   refine V (fA underlying47 2 rfl sizeOf3 rfl) ?_
   refine V (run_ld underlying3 rfl rfl (hH20.cell (i := 0) rfl (v := I _) rfl)) ?_
   refine V (run_indexAddrS (hs.lats.sl.hp hH20) underlying22 sizeOf44 rfl rfl (by first | omega | (have hok := ok_lat (right_at hR h0 ‹k < s.vars.length›); omega))) ?_
   refine V (fA underlying44 1 rfl sizeOf42 rfl) ?_
   refine V (run_ldEA (dv := lat0) (off := 1) (cs := shpL _) latL_len (hs.lats.sl.hp hH20) underlying42 rfl rfl rfl (by first | omega | (have hok := ok_lat (right_at hR h0 ‹k < s.vars.length›); omega)) (lat_shp _)) ?_
   refine RL.new rfl hH20 (f := fun b => (.pointer (some ⟨b, 0, none⟩))) (run_alloc Tryz.zeroValue42) ?_
   intro b23 w21 hH22
   refine RL.set hH22 (i := 0) rfl (run_stShp (hs.at (by first | omega | (have hok := ok_lat (right_at hR h0 ‹k < s.vars.length›); omega)) (by first | omega | (have hok := ok_lat (right_at hR h0 ‹k < s.vars.length›); omega))) rfl rfl rfl (hH22.blk (i := 0) rfl) rfl) ?_
   intro w24 hH25
   simp only [z0, z1] at hH25
   refine RL.nil ?_
   refine CW.seq ?_
   refine SR ?_
   refine V (fA underlying47 1 rfl sizeOf3 rfl) ?_
   refine V (run_ld underlying3 rfl rfl (hH25.cell (i := 1) rfl (v := I _) rfl)) ?_
   refine V (run_eql rfl rfl) ?_
   refine RL.nil ?_
   refine CW.condP rfl (fun h27 => ?_) (fun h27 => ?_)
   ·refine CW.seq ?_
    refine CW.regionS (by kernel_rfl) hH25 (sP (sP (sQ sR))) ?_
    intro w28 hH29
    refine AT 0 rfl (hH29.sub (sP (sP (sQ sR)))) (fun w hS => run_move e5_13) ?_
    refine AT 1 rfl (hH29.sub (sP (sP (sQ sR)))) (fun w hS => fA underlying47 0 rfl sizeOf9 rfl) ?_
    refine AT 2 rfl (hH29.sub (sP (sP (sQ sR)))) (fun w hS => run_ld underlying9 rfl rfl (hS.cell (i := 1) rfl (v := .string _) rfl)) ?_
    refine AT 3 rfl (hH29.sub (sP (sP (sQ sR)))) (fun w hS => run_addS rfl rfl (by have hnk := hvn _ (List.mem_of_getElem? (getD_at (d := var0) h0 ‹k < s.vars.length›)); have hss := spell_sz (s.lats.getD (s.vars.getD k.toNat var0).lat.toNat lat0).shp.sh (a.labels.getD k.toNat el0); have hrs := row_sz (s := (s.lats.getD (s.vars.getD k.toNat var0).lat.toNat lat0).shp.sh) (names_at hR h0 ‹k < s.vars.length›) (by have := hrl _ (List.mem_of_getElem? (getD_at (d := vr0) h0 (by omega))); omega); (try simp only [tx_size_app]); (try simp only [tsz1, tsz2]); omega)) ?_
    refine AT 4 rfl (hH29.sub (sP (sP (sQ sR)))) (fun w hS => run_ldA (cs := [B _, _]) underlying42 rfl rfl rfl (rangeAt_cells (hS.blk (i := 0) rfl))) ?_
    refine AT 5 rfl (hH29.sub (sP (sP (sQ sR)))) (fun w hS => fA underlying29 0 rfl sizeOf26 e3_13) ?_
    refine AT 6 rfl (hH29.sub (sP (sP (sQ sR)))) (fun w hS => run_ldV (ha.labels.sl.hp hS) underlying26 rfl rfl (hS.cell (i := 2) rfl rfl)) ?_
    refine AT 7 rfl (hH29.sub (sP (sP (sQ sR)))) (fun w hS => mV (I _) rfl) ?_
    refine AT 8 rfl (hH29.sub (sP (sP (sQ sR)))) (fun w hS => run_indexAddrS (ha.labels.sl.hp hS) underlying26 sizeOf51 rfl rfl (by first | omega | (have hok := ok_lat (right_at hR h0 ‹k < s.vars.length›); omega))) ?_
    refine AT 9 rfl (hH29.sub (sP (sP (sQ sR)))) (fun w hS => run_ldElS (ha.labels.sl.hp hS) underlying51 rfl rfl rfl (by first | omega | (have hok := ok_lat (right_at hR h0 ‹k < s.vars.length›); omega))) ?_
    refine A1 10 ?_
    refine AO.callP rfl gnone rfl hH29 (sP (sP (sQ sR))) (c_spell_Text _ _  _ ((hs.at (by first | omega | (have hok := ok_lat (right_at hR h0 ‹k < s.vars.length›); omega)) (by first | omega | (have hok := ok_lat (right_at hR h0 ‹k < s.vars.length›); omega))).mono hH29.kw) (hT.hp hH29)) (run_call2 call33 rfl rfl) ?_
    intro w30 hH31
    refine AT 11 rfl (hH31.sub (sP (sP (sQ sR)))) (fun w hS => run_addS rfl rfl (by have hnk := hvn _ (List.mem_of_getElem? (getD_at (d := var0) h0 ‹k < s.vars.length›)); have hss := spell_sz (s.lats.getD (s.vars.getD k.toNat var0).lat.toNat lat0).shp.sh (a.labels.getD k.toNat el0); have hrs := row_sz (s := (s.lats.getD (s.vars.getD k.toNat var0).lat.toNat lat0).shp.sh) (names_at hR h0 ‹k < s.vars.length›) (by have := hrl _ (List.mem_of_getElem? (getD_at (d := vr0) h0 (by omega))); omega); (try simp only [tx_size_app]); (try simp only [tsz1, tsz2]); omega)) ?_
    refine A1 12 ?_
    refine AO.new rfl gnone rfl hH31 (sP (sP (sQ sR))) (f := fun b => .slice (some ⟨b, 0, none⟩) 1 1) (run_mkL underlying54 rfl rfl (sz := 1) (vs := [.string _]) rfl rfl (by decide) (by decide) rfl rfl) ?_
    intro b34 w32 hH33
    (try simp only [List.flatMap_cons, List.flatMap_nil, clI, clB, clS, clP, clL, clA, List.append_nil, List.cons_append, List.nil_append] at hH33)
    refine A1 13 ?_
    refine AO.app rfl gnone rfl hH33 (j := 3) rfl (fun _ => (sQ (sP (sP (sQ sR))))) (hH33.slBlk (i := 0) (n := 1) (sz := 1) rfl rfl (by decide)) rfl rfl underlying54 rfl rfl (size := 1) (bytes := 16) rfl rfl rfl (by decide) (by simp [Value.oneCell']) (by have := vars_len (s := s.sc) (a := a.as) h0; omega) (by have := vars_len (s := s.sc) (a := a.as) h0; simp only [maxLen]; omega) ?_
    intro v37 w35 hH36
    simp only [z0, z1] at hH36
    refine AT 14 rfl (hH36.sub (sQ (sP (sP (sQ sR))))) (fun w hS => run_assign (by conv => lhs; whnf)) ?_
    refine AD ?_
    refine CW.exit (id := 1) rfl ?_
    refine CW.region ?_
    refine V (run_add e16_13 rfl (by omega)) ?_
    refine V (mV (I _) rfl) ?_
    refine RL.nil ?_
    refine ⟨(k + 1, varsT s.sc a.as (k + 1), v37), ?_, fr13.u4.u4.u4.u4.u4.u4.u4.u4.u1.u1, (Hp.conv (hH36.sub (sQ (sQ (sQ sR)))) (by first | (rw [vars_1 h0 ‹(s.vars.getD k.toNat var0).kind = 1›]; simp only [txL, List.map_append, List.map_cons, List.map_nil, List.length_append, List.length_singleton]; rfl) | (rw [vars_2 h0 ‹¬ (s.vars.getD k.toNat var0).kind = 1›]; simp only [txL, List.map_append, List.map_cons, List.map_nil, List.length_append, List.length_singleton]; rfl))), rfl, (congrArg I (by first | rfl | omega)), ?_, ?_, ?_⟩
    ·((try dsimp only); omega)
    ·omega
    ·omega
    ·rfl
   ·refine CW.skip ?_
    refine CW.regionS (by kernel_rfl) hH25 (sP (sP (sQ sR))) ?_
    intro w38 hH39
    refine AT 0 rfl (hH39.sub (sP (sP (sQ sR)))) (fun w hS => run_move e5_13) ?_
    refine AT 1 rfl (hH39.sub (sP (sP (sQ sR)))) (fun w hS => fA underlying47 0 rfl sizeOf9 rfl) ?_
    refine AT 2 rfl (hH39.sub (sP (sP (sQ sR)))) (fun w hS => run_ld underlying9 rfl rfl (hS.cell (i := 1) rfl (v := .string _) rfl)) ?_
    refine AT 3 rfl (hH39.sub (sP (sP (sQ sR)))) (fun w hS => run_addS rfl rfl (by have hnk := hvn _ (List.mem_of_getElem? (getD_at (d := var0) h0 ‹k < s.vars.length›)); have hss := spell_sz (s.lats.getD (s.vars.getD k.toNat var0).lat.toNat lat0).shp.sh (a.labels.getD k.toNat el0); have hrs := row_sz (s := (s.lats.getD (s.vars.getD k.toNat var0).lat.toNat lat0).shp.sh) (names_at hR h0 ‹k < s.vars.length›) (by have := hrl _ (List.mem_of_getElem? (getD_at (d := vr0) h0 (by omega))); omega); (try simp only [tx_size_app]); (try simp only [tsz1, tsz2]); omega)) ?_
    refine AT 4 rfl (hH39.sub (sP (sP (sQ sR)))) (fun w hS => run_ldA (cs := [B _, _]) underlying42 rfl rfl rfl (rangeAt_cells (hS.blk (i := 0) rfl))) ?_
    refine AT 5 rfl (hH39.sub (sP (sP (sQ sR)))) (fun w hS => fA underlying29 1 rfl sizeOf27 e3_13) ?_
    refine AT 6 rfl (hH39.sub (sP (sP (sQ sR)))) (fun w hS => run_ldV (ha.rows.sl.hp hS) underlying27 rfl rfl (hS.cell (i := 2) rfl rfl)) ?_
    refine AT 7 rfl (hH39.sub (sP (sP (sQ sR)))) (fun w hS => mV (I _) rfl) ?_
    refine AT 8 rfl (hH39.sub (sP (sP (sQ sR)))) (fun w hS => run_indexAddrS (ha.rows.sl.hp hS) underlying27 sizeOf48 rfl rfl (by first | omega | (have hok := ok_lat (right_at hR h0 ‹k < s.vars.length›); omega))) ?_
    refine AT 9 rfl (hH39.sub (sP (sP (sQ sR)))) (fun w hS => run_ld underlying48 rfl rfl ((ha.rows.sl.hp hS).cell _ _ (rowsC_at (by first | omega | (have hok := ok_lat (right_at hR h0 ‹k < s.vars.length›); omega))))) ?_
    refine A1 10 ?_
    refine AO.callP rfl gnone rfl hH39 (sP (sP (sQ sR))) (c_assign_row _ _ _ (names_at hR h0 ‹k < s.vars.length›) (by have := hrl _ (List.mem_of_getElem? (getD_at (d := vr0) h0 (by omega))); omega) _ ((ha.at (by first | omega | (have hok := ok_lat (right_at hR h0 ‹k < s.vars.length›); omega)) (by first | omega | (have hok := ok_lat (right_at hR h0 ‹k < s.vars.length›); omega))).sl.hp hH39) ((hs.at (by first | omega | (have hok := ok_lat (right_at hR h0 ‹k < s.vars.length›); omega)) (by first | omega | (have hok := ok_lat (right_at hR h0 ‹k < s.vars.length›); omega))).mono hH39.kw) (hT.hp hH39)) (run_call2 call34 rfl rfl) ?_
    intro w40 hH41
    refine AT 11 rfl (hH41.sub (sP (sP (sQ sR)))) (fun w hS => run_addS rfl rfl (by have hnk := hvn _ (List.mem_of_getElem? (getD_at (d := var0) h0 ‹k < s.vars.length›)); have hss := spell_sz (s.lats.getD (s.vars.getD k.toNat var0).lat.toNat lat0).shp.sh (a.labels.getD k.toNat el0); have hrs := row_sz (s := (s.lats.getD (s.vars.getD k.toNat var0).lat.toNat lat0).shp.sh) (names_at hR h0 ‹k < s.vars.length›) (by have := hrl _ (List.mem_of_getElem? (getD_at (d := vr0) h0 (by omega))); omega); (try simp only [tx_size_app]); (try simp only [tsz1, tsz2]); omega)) ?_
    refine A1 12 ?_
    refine AO.new rfl gnone rfl hH41 (sP (sP (sQ sR))) (f := fun b => .slice (some ⟨b, 0, none⟩) 1 1) (run_mkL underlying54 rfl rfl (sz := 1) (vs := [.string _]) rfl rfl (by decide) (by decide) rfl rfl) ?_
    intro b44 w42 hH43
    (try simp only [List.flatMap_cons, List.flatMap_nil, clI, clB, clS, clP, clL, clA, List.append_nil, List.cons_append, List.nil_append] at hH43)
    refine A1 13 ?_
    refine AO.app rfl gnone rfl hH43 (j := 3) rfl (fun _ => (sQ (sP (sP (sQ sR))))) (hH43.slBlk (i := 0) (n := 1) (sz := 1) rfl rfl (by decide)) rfl rfl underlying54 rfl rfl (size := 1) (bytes := 16) rfl rfl rfl (by decide) (by simp [Value.oneCell']) (by have := vars_len (s := s.sc) (a := a.as) h0; omega) (by have := vars_len (s := s.sc) (a := a.as) h0; simp only [maxLen]; omega) ?_
    intro v47 w45 hH46
    simp only [z0, z1] at hH46
    refine AT 14 rfl (hH46.sub (sQ (sP (sP (sQ sR))))) (fun w hS => run_assign (by conv => lhs; whnf)) ?_
    refine AD ?_
    refine CW.region ?_
    refine V (run_add e16_13 rfl (by omega)) ?_
    refine V (mV (I _) rfl) ?_
    refine RL.nil ?_
    refine ⟨(k + 1, varsT s.sc a.as (k + 1), v47), ?_, fr13.u4.u4.u4.u4.u4.u4.u4.u4.u1.u1, (Hp.conv (hH46.sub (sQ (sQ (sQ sR)))) (by first | (rw [vars_1 h0 ‹(s.vars.getD k.toNat var0).kind = 1›]; simp only [txL, List.map_append, List.map_cons, List.map_nil, List.length_append, List.length_singleton]; rfl) | (rw [vars_2 h0 ‹¬ (s.vars.getD k.toNat var0).kind = 1›]; simp only [txL, List.map_append, List.map_cons, List.map_nil, List.length_append, List.length_singleton]; rfl))), rfl, (congrArg I (by first | rfl | omega)), ?_, ?_, ?_⟩
    ·((try dsimp only); omega)
    ·omega
    ·omega
    ·rfl
  ·refine CW.exit (id := 0) rfl ?_
   refine SR ?_
   refine V (run_move e5_13) ?_
   refine RL.callP rfl hH13 (c_name_Join _ (varsT s.sc a.as k) (tc 32) (by rw [show k = s.vars.length by omega]; exact Nat.le_trans hvz (by decide)) _ (hH13.sl (i := 0) rfl)) (run_call2 call35 rfl (show _ = Value.string ⟨#[32]⟩ from rfl)) ?_
   intro w48 hH49
   refine V (aV (.string _) rfl) ?_
   refine RL.nil ?_
   refine CW.ret ?_
   refine outP1 Tryz.results14 ?_ hH49.below
   first | exact congrArg S (text_no (nt ‹(!rightA _ _) = true›)).symm | exact congrArg S (by rw [text_yes hR, show (s.vars.length : Int) = k by omega])

theorem c_assign_both (K : Vu) (v u : Value) (l m : List ValR) (hl : l.length ≤ 1000) (w : World) (hK : Le K (Kw w)) (hs : Sl w v 9 l.length (l.flatMap valL)) (ht : Sl w u 9 m.length (m.flatMap valL)) : Calls Tryz.prog 46 #[v, u] w (PureF K (fun K' u => SlV K' u 9 (bothF l m).length ((bothF l m).flatMap valL)) w) := by
 have hm := hs.small
 unfold maxLen at hm
 have hm2 := ht.small
 unfold maxLen at hm2
 refine enter Tryz.func46 rfl Tryz.ntmps46 rfl ?_
 have hH := Hp.start w
 refine SR ?_
 refine V (aV (.slice none 0 0) rfl) ?_
 refine RL.nil ?_
 refine SR ?_
 refine V (aV (.slice none 0 0) rfl) ?_
 have hH1 := hH.nilRow 53 9
 refine RL.nil ?_
 refine CW.seq ?_
 refine SR ?_
 refine V (run_move (by conv => lhs; whnf)) ?_
 refine V (run_lenSl (hs.hp hH1) rfl underlying48 rfl) ?_
 refine V (mV (I 0) rfl) ?_
 refine RL.nil ?_
 refine CW.block ?_
 refine CW.loop (G := (Int) × (List ValR) × (Value)) (fun (⟨k, m2, v5⟩ : (Int) × (List ValR) × (Value)) s' w' => (Fr [5, 7, 8, 9, 12, 13, 14, 15, 16, 17, 18, 19, 20, 21, 22, 23, 24, 25, 26, 27, 28, 29, 30, 31, 32, 33, 34] _ s') ∧ (Hp w w' (.row v5 53 9 (m2.length) (m2.flatMap valL) :: _)) ∧ (s' 5 = v5) ∧ (s' 12 = I k) ∧ (0 ≤ k) ∧ (k ≤ l.length) ∧ (m2 = bothF (l.take k.toNat) m) ∧ ((m2.length : Int) ≤ k)) (fun (⟨k, m2, v5⟩ : (Int) × (List ValR) × (Value)) => (l.length - k).toNat) ((0, [], (.slice none 0 0 : Value))) ⟨Fr.refl _ _, hH1, rfl, rfl, (by omega), (by omega), rfl, (by simp)⟩ ?_
 rintro ⟨k, m2, v5⟩ sg2 w2 ⟨fr2, hH2, e5_2, e12_2, h0, hk, hm2, hml⟩
 have e1_2 := (fr2 1 rfl).trans (by conv => lhs; whnf)
 have e4_2 := (fr2 4 rfl).trans (by conv => lhs; whnf)
 have e10_2 := (fr2 10 rfl).trans (by conv => lhs; whnf)
 have e11_2 : sg2 11 = I _ := (fr2 11 rfl).trans rfl
 refine SR ?_
 refine V (run_lss e12_2 e11_2) ?_
 refine RL.nil ?_
 refine CW.seq ?_
 refine CW.condP rfl (fun h4 => ?_) (fun h4 => ?_)
 ·refine CW.skip ?_
  refine CW.seq ?_
  refine CW.block ?_
  refine SR ?_
  refine V (run_indexAddrS (hs.hp hH2) underlying48 sizeOf53 e10_2 e12_2 (by omega)) ?_
  refine V (run_ldE (dv := val0) valL_len (hs.hp hH2) underlying53 rfl rfl rfl (by omega)) ?_
  refine RL.new rfl hH2 (f := fun b => (.pointer (some ⟨b, 0, none⟩))) (run_alloc zero_val) ?_
  intro b7 w5 hH6
  refine RL.set hH6 (i := 0) rfl (run_stW (c' := (valL _).toArray) rfl rfl rfl (valL_one _) (hH6.blk (i := 0) rfl) rfl) ?_
  intro w8 hH9
  simp only [z0, z1] at hH9
  refine RL.nil ?_
  refine SR ?_
  refine V (run_move e1_2) ?_
  refine V (fA underlying53 0 rfl sizeOf9 rfl) ?_
  refine V (run_ld underlying9 rfl rfl (hH9.cell (i := 0) rfl (v := .string _) rfl)) ?_
  refine RL.callP rfl hH9 (c_assign_Get _ _ _  _ (ht.hp hH9)) (run_call2 call69 rfl rfl) ?_
  intro w10 hH11
  refine V (run_move (by conv => lhs; whnf)) ?_
  refine V (run_extract rfl (v := .agg _) rfl) ?_
  refine V (run_extract rfl (v := B _) rfl) ?_
  refine RL.new rfl hH11 (f := fun b => (.pointer (some ⟨b, 0, none⟩))) (run_alloc zero_el) ?_
  intro b15 w13 hH14
  refine RL.set hH14 (i := 0) rfl (run_stEl rfl rfl rfl (hH14.blk (i := 0) rfl)) ?_
  intro w16 hH17
  simp only [z0, z1] at hH17
  refine V (aV (B _) rfl) ?_
  refine RL.nil ?_
  refine SR ?_
  refine V (mV (B _) rfl) ?_
  refine RL.nil ?_
  refine CW.cond rfl (fun h18 => ?_) (fun h18 => ?_)
  ·refine CW.regionS (by kernel_rfl) hH17 (sP (sP (sQ sR))) ?_
   intro w19 hH20
   refine AT 0 rfl (hH20.sub (sP (sP (sQ sR)))) (fun w hS => run_move e5_2) ?_
   refine AT 1 rfl (hH20.sub (sP (sP (sQ sR)))) (fun w hS => fA underlying53 0 rfl sizeOf9 rfl) ?_
   refine AT 2 rfl (hH20.sub (sP (sP (sQ sR)))) (fun w hS => run_ld underlying9 rfl rfl (hS.cell (i := 1) rfl (v := .string _) rfl)) ?_
   refine AT 3 rfl (hH20.sub (sP (sP (sQ sR)))) (fun w hS => fA underlying53 1 rfl sizeOf51 rfl) ?_
   refine AT 4 rfl (hH20.sub (sP (sP (sQ sR)))) (fun w hS => run_ldVB underlying51 rfl rfl rfl (hS.blk (i := 1) rfl)) ?_
   refine AT 5 rfl (hH20.sub (sP (sP (sQ sR)))) (fun w hS => run_ldEl underlying51 rfl rfl rfl (hS.blk (i := 0) rfl)) ?_
   refine A1 6 ?_
   refine AO.callP rfl gnone rfl hH20 (sP (sP (sQ sR))) (c_shape_Meet _ _  _) (run_call2 call45 rfl rfl) ?_
   intro w21 hH22
   refine AT 7 rfl (hH22.sub (sP (sP (sQ sR)))) (fun w hS => run_bld (vs := [(0, S _), (1, .agg (elC _))]) rfl (built_val _ _)) ?_
   refine A1 8 ?_
   refine AO.new rfl gnone rfl hH22 (sP (sP (sQ sR))) (f := fun b => .slice (some ⟨b, 0, none⟩) 1 1) (run_mkRecs valL_len underlying48 rfl rfl rfl (l := [_]) rfl (by decide) (by decide) rfl) ?_
   intro b25 w23 hH24
   refine A1 9 ?_
   refine AO.app rfl gnone rfl hH24 (j := 3) rfl (fun _ => (sQ (sP (sP (sQ sR))))) (Hp.slFlat valL_len hH24 (i := 0) (l := [_]) rfl (by simp [maxLen])) rfl rfl underlying48 rfl rfl (size := 9) (bytes := 80) rfl rfl rfl (by decide) (vals_one _) (by simp only [List.length_cons, List.length_nil]; omega) (by simp only [maxLen, List.length_cons, List.length_nil]; omega) ?_
   intro v28 w26 hH27
   simp only [z0, z1] at hH27
   refine AT 10 rfl (hH27.sub (sQ (sP (sP (sQ sR))))) (fun w hS => run_assign (by conv => lhs; whnf)) ?_
   refine AD ?_
   refine CW.region ?_
   refine V (run_add e12_2 rfl (by omega)) ?_
   refine V (mV (I _) rfl) ?_
   refine RL.nil ?_
   refine ⟨(k + 1, m2 ++ [⟨(l.getD k.toNat val0).name, meetE (l.getD k.toNat val0).el (getF m (l.getD k.toNat val0).name).1⟩], v28), ?_, fr2.u4.u4.u4.u4.u4.u4.u1.u1.u1, (Hp.conv (hH27.sub (sQ (sQ (sQ sR)))) (by first | rfl | simp)), rfl, (congrArg I (by first | rfl | omega)), ?_, ?_, ?_, ?_⟩
   ·((try dsimp only); omega)
   ·omega
   ·omega
   ·first | (rw [hm2]; exact both_one h0 ‹k < _› ‹(getF _ _).2 = true›) | (rw [hm2]; exact both_not h0 ‹k < _› ‹(getF _ _).2 = false›)
   ·first | (simp only [List.length_append, List.length_singleton]; omega) | omega
  ·refine CW.skip ?_
   refine CW.region ?_
   refine V (run_add e12_2 rfl (by omega)) ?_
   refine V (mV (I _) rfl) ?_
   refine RL.nil ?_
   refine ⟨(k + 1, m2, v5), ?_, fr2.u4.u4.u4.u4, (Hp.conv (hH17.sub (sQ (sQ sR))) (by first | rfl | simp)), e5_2, (congrArg I (by first | rfl | omega)), ?_, ?_, ?_, ?_⟩
   ·((try dsimp only); omega)
   ·omega
   ·omega
   ·first | (rw [hm2]; exact both_one h0 ‹k < _› ‹(getF _ _).2 = true›) | (rw [hm2]; exact both_not h0 ‹k < _› ‹(getF _ _).2 = false›)
   ·first | (simp only [List.length_append, List.length_singleton]; omega) | omega
 ·refine CW.exit (id := 0) rfl ?_
  refine SR ?_
  refine V (run_move e5_2) ?_
  refine V (run_assign (by conv => lhs; whnf)) ?_
  refine RL.nil ?_
  refine CW.ret ?_
  obtain ⟨Z29, hz30, hv31, -⟩ := hH2.frz (K)
  have hH32 : Hp _ w2 (Z29) := hz30.zin0 (L := [])
  refine out1 Tryz.results46 (v := v5) rfl ⟨Z29, (hH32.sub sR), ?_⟩
  rw [← both_all ‹¬ k < _›, ← hm2]; exact hv31

theorem c_assign_Meet (K : Vu) (a b : Asg) (hrl : ∀ r ∈ a.rows, r.l.length ≤ 1000) (hla : a.labels.length ≤ 1000) (hlr : a.rows.length ≤ 1000) (w : World) (hK : Le K (Kw w)) (ha : AsgV K a) (hb : AsgV K b) : Calls Tryz.prog 19 #[.agg (asgL a).toArray, .agg (asgL b).toArray] w (PureF K (fun K' u => ∃ m : Asg, u = .agg (asgL m).toArray ∧ m.as = meetA a.as b.as ∧ AsgV K' m) w) := by
 have hm1 := ha.labels.small
 have hm2 := ha.rows.small
 have hm3 := hb.labels.small
 have hm4 := hb.rows.small
 unfold maxLen at hm1 hm2 hm3 hm4
 refine enter Tryz.func19 rfl Tryz.ntmps19 rfl ?_
 have hH := Hp.start w
 refine SR ?_
 refine RL.new rfl hH (f := fun b => (.pointer (some ⟨b, 0, none⟩))) (run_box (v := .agg _) rfl) ?_
 intro b3 w1 hH2
 refine RL.new rfl hH2 (f := fun b => (.pointer (some ⟨b, 0, none⟩))) (run_box (v := .agg _) rfl) ?_
 intro b6 w4 hH5
 refine RL.new rfl hH5 (f := fun b => (.pointer (some ⟨b, 0, none⟩))) (run_alloc zero_asg) ?_
 intro b9 w7 hH8
 refine RL.nil ?_
 refine SR ?_
 refine RL.new rfl hH8 (f := fun b => .pointer (some ⟨b, 0, none⟩)) (run_alloc zero_asg) ?_
 intro b12 w10 hH11
 have hH13 := hH11.nilRow 51 8
 have hH14 := hH13.nilRow 48 1
 refine RL.nil ?_
 refine CW.seq ?_
 refine SR ?_
 refine V (fA underlying29 0 rfl sizeOf26 rfl) ?_
 refine V (run_ldV ((ha.mono hK).labels.sl.hp hH14) underlying26 rfl rfl (hH14.cell (i := 5) rfl rfl)) ?_
 refine V (run_lenSl ((ha.mono hK).labels.sl.hp hH14) rfl underlying26 rfl) ?_
 refine V (fA underlying29 0 rfl sizeOf26 rfl) ?_
 refine V (run_ldV ((hb.mono hK).labels.sl.hp hH14) underlying26 rfl rfl (hH14.cell (i := 4) rfl rfl)) ?_
 refine V (run_lenSl ((hb.mono hK).labels.sl.hp hH14) rfl underlying26 rfl) ?_
 refine V (run_minI rfl rfl) ?_
 refine V (mV (I 0) rfl) ?_
 refine RL.nil ?_
 refine CW.block ?_
 refine CW.loop (G := (Int) × (Value) × (List El)) (fun (⟨k, v0, ls⟩ : (Int) × (Value) × (List El)) s' w' => (Fr [6, 15, 16, 17, 18, 19, 20, 21, 22, 23, 24, 25, 26, 27, 28, 29, 30, 31, 32, 33, 34] _ s') ∧ (Hp w w' (_ :: .row v0 51 8 (ls.length) (ls.flatMap elL) :: .blk b12 (.cells (#[v0, .slice none 0 0]) 29 (0, 0)) :: _)) ∧ (s' 15 = I k) ∧ (0 ≤ k) ∧ (k ≤ a.labels.length) ∧ (ls = ((a.labels.zip b.labels).take k.toNat).map fun p => meetE p.1 p.2) ∧ ((ls.length : Int) = k)) (fun (⟨k, v0, ls⟩ : (Int) × (Value) × (List El)) => (a.labels.length - k).toNat) ((0, (.slice none 0 0 : Value), [])) ⟨Fr.refl _ _, hH14, rfl, (by omega), (by omega), rfl, rfl⟩ ?_
 rintro ⟨k, v0, ls⟩ sg15 w15 ⟨fr15, hH15, e15_15, h0, hk, hm, hl⟩
 have e2_15 : sg15 2 = Pn _ _ := (fr15 2 rfl).trans rfl
 have e3_15 : sg15 3 = Pn _ _ := (fr15 3 rfl).trans rfl
 have e4_15 : sg15 4 = Pn _ _ := (fr15 4 rfl).trans rfl
 have e5_15 : sg15 5 = Pn _ _ := (fr15 5 rfl).trans rfl
 have e14_15 : sg15 14 = I _ := (fr15 14 rfl).trans rfl
 refine SR ?_
 refine V (run_lss e15_15 e14_15) ?_
 refine RL.nil ?_
 refine CW.seq ?_
 refine CW.condP rfl (fun h17 => ?_) (fun h17 => ?_)
 ·refine CW.skip ?_
  refine CW.seq ?_
  refine CW.block ?_
  refine SR ?_
  refine V (run_move e15_15) ?_
  refine V (aV (I _) rfl) ?_
  refine RL.nil ?_
  refine CW.regionS (by kernel_rfl) hH15 (sP (sQ (sQ sR))) ?_
  intro w18 hH19
  refine AT 0 rfl (hH19.sub (sP (sQ (sQ sR)))) (fun w hS => fA underlying29 0 rfl sizeOf26 e5_15) ?_
  refine AT 2 rfl (hH19.sub (sP (sQ (sQ sR)))) (fun w hS => fA underlying29 0 rfl sizeOf26 e2_15) ?_
  refine AT 3 rfl (hH19.sub (sP (sQ (sQ sR)))) (fun w hS => run_ldV ((ha.mono hK).labels.sl.hp hS) underlying26 rfl rfl (hS.cell (i := 3) rfl rfl)) ?_
  refine AT 4 rfl (hH19.sub (sP (sQ (sQ sR)))) (fun w hS => mV (I _) rfl) ?_
  refine AT 5 rfl (hH19.sub (sP (sQ (sQ sR)))) (fun w hS => run_indexAddrS ((ha.mono hK).labels.sl.hp hS) underlying26 sizeOf51 rfl rfl (by omega)) ?_
  refine AT 6 rfl (hH19.sub (sP (sQ (sQ sR)))) (fun w hS => run_ldElS ((ha.mono hK).labels.sl.hp hS) underlying51 rfl rfl rfl (by omega)) ?_
  refine AT 7 rfl (hH19.sub (sP (sQ (sQ sR)))) (fun w hS => fA underlying29 0 rfl sizeOf26 e3_15) ?_
  refine AT 8 rfl (hH19.sub (sP (sQ (sQ sR)))) (fun w hS => run_ldV ((hb.mono hK).labels.sl.hp hS) underlying26 rfl rfl (hS.cell (i := 2) rfl rfl)) ?_
  refine AT 9 rfl (hH19.sub (sP (sQ (sQ sR)))) (fun w hS => mV (I _) rfl) ?_
  refine AT 10 rfl (hH19.sub (sP (sQ (sQ sR)))) (fun w hS => run_indexAddrS ((hb.mono hK).labels.sl.hp hS) underlying26 sizeOf51 rfl rfl (by omega)) ?_
  refine AT 11 rfl (hH19.sub (sP (sQ (sQ sR)))) (fun w hS => run_ldElS ((hb.mono hK).labels.sl.hp hS) underlying51 rfl rfl rfl (by omega)) ?_
  refine AN.two 1 12 (by kernel_rfl) ?_ ?_
  ·refine AO.read rfl gnone rfl hH19 (sP (sQ (sQ sR))) (run_ld underlying26 rfl rfl (hH19.cell (i := 2) rfl rfl)) ?_
   refine A1 12 ?_
   refine AO.callP rfl gnone rfl hH19 (sP (sQ (sQ sR))) (c_shape_Meet _ _  _) (run_call2 call45 rfl rfl) ?_
   intro w22 hH23
   refine A1 13 ?_
   refine AO.new rfl gnone rfl hH23 (sP (sQ (sQ sR))) (f := fun b => .slice (some ⟨b, 0, none⟩) 1 1) (run_mkEl1 underlying26 rfl rfl rfl rfl) ?_
   intro b26 w24 hH25
   (try simp only [List.flatMap_cons, List.flatMap_nil, clI, clB, clS, clP, clL, clA, List.append_nil, List.cons_append, List.nil_append] at hH25)
   refine A1 14 ?_
   refine AO.app rfl gnone rfl hH25 (j := 2) rfl (fun _ => (sQ (sP (sQ (sQ sR))))) (Hp.slFlat elL_len hH25 (i := 0) (l := [_]) rfl (by simp [maxLen])) rfl rfl underlying26 rfl rfl (size := 8) (bytes := 64) rfl rfl rfl (by decide) (els_one _) (by first | (show (ls.length + 1) * _ ≤ _; omega) | (show (gr.length + 1) * _ ≤ _; omega)) (by first | (show ls.length + 1 ≤ _; simp only [maxLen]; omega) | (show gr.length + 1 ≤ _; simp only [maxLen]; omega)) ?_
   intro v29 w27 hH28
   simp only [z0, z1] at hH28
   refine AT 15 rfl (hH28.sub (sQ (sP (sQ (sQ sR))))) (fun w hS => fA underlying29 0 rfl sizeOf26 e5_15) ?_
   refine A1 16 ?_
   refine AO.set rfl gnone hH28 (j := 3) rfl (sQ (sP (sQ (sQ sR)))) (run_st rfl rfl (v := v29) rfl (row_cells (hH28.get (i := 2) rfl)).1 (row_cells (hH28.get (i := 2) rfl)).2 (hH28.blk (i := 3) rfl) (by first | (show 0 < 2; decide) | decide | (simp only [List.size_toArray, asgL_len]; decide) | simp)) ?_
   intro w32 hH33
   simp only [z0, z1] at hH33
   refine AD ?_
   refine CW.region ?_
   refine V (run_add e15_15 rfl (by omega)) ?_
   refine V (mV (I _) rfl) ?_
   refine RL.nil ?_
   refine ⟨(k + 1, v29, (ls ++ [meetE (a.labels.getD k.toNat el0) (b.labels.getD k.toNat el0)])), ?_, fr15.u4.u4.u4.u4.u4.u1, (Hp.conv (hH33.sub (sQ sR)) (by first | rfl | (simp; done))), (congrArg I (by first | rfl | omega)), ?_, ?_, ?_, ?_⟩
   ·((try dsimp only); omega)
   ·omega
   ·omega
   ·rw [hm]; exact labels_next (a := a.as) (b := b.as) h0 (show k < a.labels.length by omega) (show k < b.labels.length by omega)
   ·simp only [List.length_append, List.length_singleton]; omega
  ·refine AO.callP rfl gnone rfl hH19 (sP (sQ (sQ sR))) (c_shape_Meet _ _  _) (run_call2 call45 rfl rfl) ?_
   intro w34 hH35
   refine AN.two 1 13 (by kernel_rfl) ?_ ?_
   ·refine AO.read rfl gnone rfl hH35 (sP (sQ (sQ sR))) (run_ld underlying26 rfl rfl (hH35.cell (i := 2) rfl rfl)) ?_
    refine A1 13 ?_
    refine AO.new rfl gnone rfl hH35 (sP (sQ (sQ sR))) (f := fun b => .slice (some ⟨b, 0, none⟩) 1 1) (run_mkEl1 underlying26 rfl rfl rfl rfl) ?_
    intro b40 w38 hH39
    (try simp only [List.flatMap_cons, List.flatMap_nil, clI, clB, clS, clP, clL, clA, List.append_nil, List.cons_append, List.nil_append] at hH39)
    refine A1 14 ?_
    refine AO.app rfl gnone rfl hH39 (j := 2) rfl (fun _ => (sQ (sP (sQ (sQ sR))))) (Hp.slFlat elL_len hH39 (i := 0) (l := [_]) rfl (by simp [maxLen])) rfl rfl underlying26 rfl rfl (size := 8) (bytes := 64) rfl rfl rfl (by decide) (els_one _) (by first | (show (ls.length + 1) * _ ≤ _; omega) | (show (gr.length + 1) * _ ≤ _; omega)) (by first | (show ls.length + 1 ≤ _; simp only [maxLen]; omega) | (show gr.length + 1 ≤ _; simp only [maxLen]; omega)) ?_
    intro v43 w41 hH42
    simp only [z0, z1] at hH42
    refine AT 15 rfl (hH42.sub (sQ (sP (sQ (sQ sR))))) (fun w hS => fA underlying29 0 rfl sizeOf26 e5_15) ?_
    refine A1 16 ?_
    refine AO.set rfl gnone hH42 (j := 3) rfl (sQ (sP (sQ (sQ sR)))) (run_st rfl rfl (v := v43) rfl (row_cells (hH42.get (i := 2) rfl)).1 (row_cells (hH42.get (i := 2) rfl)).2 (hH42.blk (i := 3) rfl) (by first | (show 0 < 2; decide) | decide | (simp only [List.size_toArray, asgL_len]; decide) | simp)) ?_
    intro w46 hH47
    simp only [z0, z1] at hH47
    refine AD ?_
    refine CW.region ?_
    refine V (run_add e15_15 rfl (by omega)) ?_
    refine V (mV (I _) rfl) ?_
    refine RL.nil ?_
    refine ⟨(k + 1, v43, (ls ++ [meetE (a.labels.getD k.toNat el0) (b.labels.getD k.toNat el0)])), ?_, fr15.u4.u4.u4.u4.u4.u1, (Hp.conv (hH47.sub (sQ sR)) (by first | rfl | (simp; done))), (congrArg I (by first | rfl | omega)), ?_, ?_, ?_, ?_⟩
    ·((try dsimp only); omega)
    ·omega
    ·omega
    ·rw [hm]; exact labels_next (a := a.as) (b := b.as) h0 (show k < a.labels.length by omega) (show k < b.labels.length by omega)
    ·simp only [List.length_append, List.length_singleton]; omega
   ·refine AO.new rfl gnone rfl hH35 (sP (sQ (sQ sR))) (f := fun b => .slice (some ⟨b, 0, none⟩) 1 1) (run_mkEl1 underlying26 rfl rfl rfl rfl) ?_
    intro b50 w48 hH49
    (try simp only [List.flatMap_cons, List.flatMap_nil, clI, clB, clS, clP, clL, clA, List.append_nil, List.cons_append, List.nil_append] at hH49)
    refine A1 1 ?_
    refine AO.read rfl gnone rfl hH49 (sQ (sP (sQ (sQ sR)))) (run_ld underlying26 rfl rfl (hH49.cell (i := 3) rfl rfl)) ?_
    refine A1 14 ?_
    refine AO.app rfl gnone rfl hH49 (j := 2) rfl (fun _ => (sQ (sP (sQ (sQ sR))))) (Hp.slFlat elL_len hH49 (i := 0) (l := [_]) rfl (by simp [maxLen])) rfl rfl underlying26 rfl rfl (size := 8) (bytes := 64) rfl rfl rfl (by decide) (els_one _) (by first | (show (ls.length + 1) * _ ≤ _; omega) | (show (gr.length + 1) * _ ≤ _; omega)) (by first | (show ls.length + 1 ≤ _; simp only [maxLen]; omega) | (show gr.length + 1 ≤ _; simp only [maxLen]; omega)) ?_
    intro v55 w53 hH54
    simp only [z0, z1] at hH54
    refine AT 15 rfl (hH54.sub (sQ (sP (sQ (sQ sR))))) (fun w hS => fA underlying29 0 rfl sizeOf26 e5_15) ?_
    refine A1 16 ?_
    refine AO.set rfl gnone hH54 (j := 3) rfl (sQ (sP (sQ (sQ sR)))) (run_st rfl rfl (v := v55) rfl (row_cells (hH54.get (i := 2) rfl)).1 (row_cells (hH54.get (i := 2) rfl)).2 (hH54.blk (i := 3) rfl) (by first | (show 0 < 2; decide) | decide | (simp only [List.size_toArray, asgL_len]; decide) | simp)) ?_
    intro w58 hH59
    simp only [z0, z1] at hH59
    refine AD ?_
    refine CW.region ?_
    refine V (run_add e15_15 rfl (by omega)) ?_
    refine V (mV (I _) rfl) ?_
    refine RL.nil ?_
    refine ⟨(k + 1, v55, (ls ++ [meetE (a.labels.getD k.toNat el0) (b.labels.getD k.toNat el0)])), ?_, fr15.u4.u4.u4.u4.u4.u1, (Hp.conv (hH59.sub (sQ sR)) (by first | rfl | (simp; done))), (congrArg I (by first | rfl | omega)), ?_, ?_, ?_, ?_⟩
    ·((try dsimp only); omega)
    ·omega
    ·omega
    ·rw [hm]; exact labels_next (a := a.as) (b := b.as) h0 (show k < a.labels.length by omega) (show k < b.labels.length by omega)
    ·simp only [List.length_append, List.length_singleton]; omega
 ·refine CW.exit (id := 0) rfl ?_
  refine CW.seq ?_
  refine SR ?_
  refine V (fA underlying29 1 rfl sizeOf27 e2_15) ?_
  refine V (run_ldV ((ha.mono hK).rows.sl.hp hH15) underlying27 rfl rfl (hH15.cell (i := 5) rfl rfl)) ?_
  refine V (run_lenSl ((ha.mono hK).rows.sl.hp hH15) rfl underlying27 rfl) ?_
  refine V (fA underlying29 1 rfl sizeOf27 e3_15) ?_
  refine V (run_ldV ((hb.mono hK).rows.sl.hp hH15) underlying27 rfl rfl (hH15.cell (i := 4) rfl rfl)) ?_
  refine V (run_lenSl ((hb.mono hK).rows.sl.hp hH15) rfl underlying27 rfl) ?_
  refine V (run_minI rfl rfl) ?_
  refine V (mV (I 0) rfl) ?_
  refine RL.nil ?_
  refine CW.block ?_
  refine CW.loop (G := (Int) × (Value) × (List VrR) × (List Ent)) (fun (⟨j, v1, gr, Z⟩ : (Int) × (Value) × (List VrR) × (List Ent)) s' w' => (Fr [7, 42, 43, 44, 45, 46, 47, 48, 49, 50, 51, 52, 53, 54, 55, 56, 57, 58, 59, 60, 61] _ s') ∧ (Hp w w' (.row v1 48 1 (gr.length) (rowsC gr) :: _ :: .blk b12 (.cells (#[v0, v1]) 29 (0, 0)) :: _ :: _ :: _ :: Z)) ∧ (s' 42 = I j) ∧ (0 ≤ j) ∧ (j ≤ a.rows.length) ∧ (gr.map VrR.l = ((a.as.rows.zip b.as.rows).take j.toNat).map fun p => bothF p.1 p.2) ∧ (RowsV (Kz K Z) gr) ∧ ((gr.length : Int) = j)) (fun (⟨j, v1, gr, Z⟩ : (Int) × (Value) × (List VrR) × (List Ent)) => (a.rows.length - j).toNat) ((0, (.slice none 0 0 : Value), [], [])) ⟨Fr.refl _ _, hH15, rfl, (by omega), (by omega), rfl, RowsV.nil _, rfl⟩ ?_
  rintro ⟨j, v1, gr, Z⟩ sg60 w60 ⟨fr60, hH60, e42_60, j0, jk, hmr, hr, hgl⟩
  have e2_60 := (fr60 2 rfl).trans e2_15
  have e3_60 := (fr60 3 rfl).trans e3_15
  have e4_60 := (fr60 4 rfl).trans e4_15
  have e5_60 := (fr60 5 rfl).trans e5_15
  have e41_60 : sg60 41 = I _ := (fr60 41 rfl).trans rfl
  refine SR ?_
  refine V (run_lss e42_60 e41_60) ?_
  refine RL.nil ?_
  refine CW.seq ?_
  refine CW.condP rfl (fun h62 => ?_) (fun h62 => ?_)
  ·refine CW.skip ?_
   refine CW.seq ?_
   refine CW.block ?_
   refine SR ?_
   refine V (run_move e42_60) ?_
   refine V (aV (I _) rfl) ?_
   refine RL.nil ?_
   refine CW.regionS (by kernel_rfl) hH60 (sQ (sP (sQ sR))) ?_
   intro w63 hH64
   refine AT 0 rfl (hH64.sub (sQ (sP (sQ sR)))) (fun w hS => fA underlying29 1 rfl sizeOf27 e5_60) ?_
   refine AT 2 rfl (hH64.sub (sQ (sP (sQ sR)))) (fun w hS => fA underlying29 1 rfl sizeOf27 e2_60) ?_
   refine AT 3 rfl (hH64.sub (sQ (sP (sQ sR)))) (fun w hS => run_ldV ((ha.mono hK).rows.sl.hp hS) underlying27 rfl rfl (hS.cell (i := 3) rfl rfl)) ?_
   refine AT 4 rfl (hH64.sub (sQ (sP (sQ sR)))) (fun w hS => mV (I _) rfl) ?_
   refine AT 5 rfl (hH64.sub (sQ (sP (sQ sR)))) (fun w hS => run_indexAddrS ((ha.mono hK).rows.sl.hp hS) underlying27 sizeOf48 rfl rfl (by omega)) ?_
   refine AT 6 rfl (hH64.sub (sQ (sP (sQ sR)))) (fun w hS => run_ld underlying48 rfl rfl (((ha.mono hK).rows.sl.hp hS).cell _ _ (rowsC_at (by omega)))) ?_
   refine AT 7 rfl (hH64.sub (sQ (sP (sQ sR)))) (fun w hS => fA underlying29 1 rfl sizeOf27 e3_60) ?_
   refine AT 8 rfl (hH64.sub (sQ (sP (sQ sR)))) (fun w hS => run_ldV ((hb.mono hK).rows.sl.hp hS) underlying27 rfl rfl (hS.cell (i := 2) rfl rfl)) ?_
   refine AT 9 rfl (hH64.sub (sQ (sP (sQ sR)))) (fun w hS => mV (I _) rfl) ?_
   refine AT 10 rfl (hH64.sub (sQ (sP (sQ sR)))) (fun w hS => run_indexAddrS ((hb.mono hK).rows.sl.hp hS) underlying27 sizeOf48 rfl rfl (by omega)) ?_
   refine AT 11 rfl (hH64.sub (sQ (sP (sQ sR)))) (fun w hS => run_ld underlying48 rfl rfl (((hb.mono hK).rows.sl.hp hS).cell _ _ (rowsC_at (by omega)))) ?_
   refine AN.two 1 12 (by kernel_rfl) ?_ ?_
   ·refine AO.read rfl gnone rfl hH64 (sQ (sP (sQ sR))) (run_ld underlying27 rfl rfl (hH64.cell (i := 2) rfl rfl)) ?_
    refine A1 12 ?_
    refine AO.callF rfl gnone rfl hH64 (sQ (sP (sQ sR))) (c_assign_both K _ _ _ _ (by have := hrl _ (List.mem_of_getElem? (getD_at (d := vr0) j0 (by omega))); omega) _ (hK.trans hH64.kw) (((ha.mono hK).at (by omega) (by omega)).sl.hp hH64) (((hb.mono hK).at (by omega) (by omega)).sl.hp hH64)) (run_call2 call46 rfl rfl) ?_
    intro v69 w70 Z72 hH71 hp73
    have hH74 : Hp _ w70 (_ :: _ :: _ :: _ :: _ :: _ :: (Z72 ++ Z)) := hH71.zin (L := [_, _, _, _, _, _]) (L' := Z)
    have hv75 := hp73
    refine A1 13 ?_
    refine AO.new rfl gnone rfl hH74 (sQ (sP (sQ (sP (sP (sP (sA sR))))))) (f := fun b => .slice (some ⟨b, 0, none⟩) 1 1) (run_mkSl1 (v := v69) (one_slv hv75).2 underlying27 rfl rfl rfl rfl) ?_
    intro b78 w76 hH77
    (try simp only [List.flatMap_cons, List.flatMap_nil, clI, clB, clS, clP, clL, clA, List.append_nil, List.cons_append, List.nil_append] at hH77)
    refine A1 14 ?_
    refine AO.app rfl gnone rfl hH77 (j := 1) rfl (fun _ => (sQ (sQ (sP (sQ (sP (sP (sP (sA sR))))))))) (hH77.slBlk (i := 0) (n := 1) (sz := 1) rfl rfl (by decide)) rfl rfl underlying27 rfl rfl (size := 1) (bytes := 24) rfl rfl rfl (by decide) (one_one (one_slv hv75).1) (by first | (show (ls.length + 1) * _ ≤ _; omega) | (show (gr.length + 1) * _ ≤ _; omega)) (by first | (show ls.length + 1 ≤ _; simp only [maxLen]; omega) | (show gr.length + 1 ≤ _; simp only [maxLen]; omega)) ?_
    intro v81 w79 hH80
    simp only [z0, z1] at hH80
    refine AT 15 rfl (hH80.sub (sQ (sQ (sP (sQ (sP (sP (sP (sA sR))))))))) (fun w hS => fA underlying29 1 rfl sizeOf27 e5_60) ?_
    refine A1 16 ?_
    refine AO.set rfl gnone hH80 (j := 3) rfl (sQ (sQ (sP (sQ (sP (sP (sP (sA sR)))))))) (run_st rfl rfl (v := v81) rfl (row_cells (hH80.get (i := 1) rfl)).1 (row_cells (hH80.get (i := 1) rfl)).2 (hH80.blk (i := 3) rfl) (by first | (show 1 < 2; decide) | decide | (simp only [List.size_toArray, asgL_len]; decide) | simp)) ?_
    intro w84 hH85
    simp only [z0, z1] at hH85
    refine AD ?_
    refine CW.region ?_
    refine V (run_add e42_60 rfl (by omega)) ?_
    refine V (mV (I _) rfl) ?_
    refine RL.nil ?_
    refine ⟨(j + 1, v81, (gr ++ [(⟨v69, bothF (a.rows.getD j.toNat vr0).l (b.rows.getD j.toNat vr0).l⟩ : VrR)]), (Z72 ++ Z)), ?_, fr60.u4.u4.u4.u4.u4.u1, (Hp.conv (hH85.sub (sQ sR)) (by first | rfl | (simp; done))), (congrArg I (by first | rfl | omega)), ?_, ?_, ?_, ?_, ?_⟩
    ·((try dsimp only); omega)
    ·omega
    ·omega
    ·rw [List.map_append, hmr]; exact mrows_next j0 (by omega) (by omega)
    ·exact (hr.mono (Le.zz fun y hy => List.mem_append_right _ hy)).snoc (hv75.mono (Le.zz fun y hy => List.mem_append_left _ hy))
    ·simp only [List.length_append, List.length_singleton]; omega
   ·refine AO.callF rfl gnone rfl hH64 (sQ (sP (sQ sR))) (c_assign_both K _ _ _ _ (by have := hrl _ (List.mem_of_getElem? (getD_at (d := vr0) j0 (by omega))); omega) _ (hK.trans hH64.kw) (((ha.mono hK).at (by omega) (by omega)).sl.hp hH64) (((hb.mono hK).at (by omega) (by omega)).sl.hp hH64)) (run_call2 call46 rfl rfl) ?_
    intro v88 w89 Z91 hH90 hp92
    have hH93 : Hp _ w89 (_ :: _ :: _ :: _ :: _ :: _ :: (Z91 ++ Z)) := hH90.zin (L := [_, _, _, _, _, _]) (L' := Z)
    have hv94 := hp92
    refine AN.two 1 13 (by kernel_rfl) ?_ ?_
    ·refine AO.read rfl gnone rfl hH93 (sQ (sP (sQ (sP (sP (sP (sA sR))))))) (run_ld underlying27 rfl rfl (hH93.cell (i := 2) rfl rfl)) ?_
     refine A1 13 ?_
     refine AO.new rfl gnone rfl hH93 (sQ (sP (sQ (sP (sP (sP (sA sR))))))) (f := fun b => .slice (some ⟨b, 0, none⟩) 1 1) (run_mkSl1 (v := v88) (one_slv hv94).2 underlying27 rfl rfl rfl rfl) ?_
     intro b99 w97 hH98
     (try simp only [List.flatMap_cons, List.flatMap_nil, clI, clB, clS, clP, clL, clA, List.append_nil, List.cons_append, List.nil_append] at hH98)
     refine A1 14 ?_
     refine AO.app rfl gnone rfl hH98 (j := 1) rfl (fun _ => (sQ (sQ (sP (sQ (sP (sP (sP (sA sR))))))))) (hH98.slBlk (i := 0) (n := 1) (sz := 1) rfl rfl (by decide)) rfl rfl underlying27 rfl rfl (size := 1) (bytes := 24) rfl rfl rfl (by decide) (one_one (one_slv hv94).1) (by first | (show (ls.length + 1) * _ ≤ _; omega) | (show (gr.length + 1) * _ ≤ _; omega)) (by first | (show ls.length + 1 ≤ _; simp only [maxLen]; omega) | (show gr.length + 1 ≤ _; simp only [maxLen]; omega)) ?_
     intro v102 w100 hH101
     simp only [z0, z1] at hH101
     refine AT 15 rfl (hH101.sub (sQ (sQ (sP (sQ (sP (sP (sP (sA sR))))))))) (fun w hS => fA underlying29 1 rfl sizeOf27 e5_60) ?_
     refine A1 16 ?_
     refine AO.set rfl gnone hH101 (j := 3) rfl (sQ (sQ (sP (sQ (sP (sP (sP (sA sR)))))))) (run_st rfl rfl (v := v102) rfl (row_cells (hH101.get (i := 1) rfl)).1 (row_cells (hH101.get (i := 1) rfl)).2 (hH101.blk (i := 3) rfl) (by first | (show 1 < 2; decide) | decide | (simp only [List.size_toArray, asgL_len]; decide) | simp)) ?_
     intro w105 hH106
     simp only [z0, z1] at hH106
     refine AD ?_
     refine CW.region ?_
     refine V (run_add e42_60 rfl (by omega)) ?_
     refine V (mV (I _) rfl) ?_
     refine RL.nil ?_
     refine ⟨(j + 1, v102, (gr ++ [(⟨v88, bothF (a.rows.getD j.toNat vr0).l (b.rows.getD j.toNat vr0).l⟩ : VrR)]), (Z91 ++ Z)), ?_, fr60.u4.u4.u4.u4.u4.u1, (Hp.conv (hH106.sub (sQ sR)) (by first | rfl | (simp; done))), (congrArg I (by first | rfl | omega)), ?_, ?_, ?_, ?_, ?_⟩
     ·((try dsimp only); omega)
     ·omega
     ·omega
     ·rw [List.map_append, hmr]; exact mrows_next j0 (by omega) (by omega)
     ·exact (hr.mono (Le.zz fun y hy => List.mem_append_right _ hy)).snoc (hv94.mono (Le.zz fun y hy => List.mem_append_left _ hy))
     ·simp only [List.length_append, List.length_singleton]; omega
    ·refine AO.new rfl gnone rfl hH93 (sQ (sP (sQ (sP (sP (sP (sA sR))))))) (f := fun b => .slice (some ⟨b, 0, none⟩) 1 1) (run_mkSl1 (v := v88) (one_slv hv94).2 underlying27 rfl rfl rfl rfl) ?_
     intro b109 w107 hH108
     (try simp only [List.flatMap_cons, List.flatMap_nil, clI, clB, clS, clP, clL, clA, List.append_nil, List.cons_append, List.nil_append] at hH108)
     refine A1 1 ?_
     refine AO.read rfl gnone rfl hH108 (sQ (sQ (sP (sQ (sP (sP (sP (sA sR)))))))) (run_ld underlying27 rfl rfl (hH108.cell (i := 3) rfl rfl)) ?_
     refine A1 14 ?_
     refine AO.app rfl gnone rfl hH108 (j := 1) rfl (fun _ => (sQ (sQ (sP (sQ (sP (sP (sP (sA sR))))))))) (hH108.slBlk (i := 0) (n := 1) (sz := 1) rfl rfl (by decide)) rfl rfl underlying27 rfl rfl (size := 1) (bytes := 24) rfl rfl rfl (by decide) (one_one (one_slv hv94).1) (by first | (show (ls.length + 1) * _ ≤ _; omega) | (show (gr.length + 1) * _ ≤ _; omega)) (by first | (show ls.length + 1 ≤ _; simp only [maxLen]; omega) | (show gr.length + 1 ≤ _; simp only [maxLen]; omega)) ?_
     intro v114 w112 hH113
     simp only [z0, z1] at hH113
     refine AT 15 rfl (hH113.sub (sQ (sQ (sP (sQ (sP (sP (sP (sA sR))))))))) (fun w hS => fA underlying29 1 rfl sizeOf27 e5_60) ?_
     refine A1 16 ?_
     refine AO.set rfl gnone hH113 (j := 3) rfl (sQ (sQ (sP (sQ (sP (sP (sP (sA sR)))))))) (run_st rfl rfl (v := v114) rfl (row_cells (hH113.get (i := 1) rfl)).1 (row_cells (hH113.get (i := 1) rfl)).2 (hH113.blk (i := 3) rfl) (by first | (show 1 < 2; decide) | decide | (simp only [List.size_toArray, asgL_len]; decide) | simp)) ?_
     intro w117 hH118
     simp only [z0, z1] at hH118
     refine AD ?_
     refine CW.region ?_
     refine V (run_add e42_60 rfl (by omega)) ?_
     refine V (mV (I _) rfl) ?_
     refine RL.nil ?_
     refine ⟨(j + 1, v114, (gr ++ [(⟨v88, bothF (a.rows.getD j.toNat vr0).l (b.rows.getD j.toNat vr0).l⟩ : VrR)]), (Z91 ++ Z)), ?_, fr60.u4.u4.u4.u4.u4.u1, (Hp.conv (hH118.sub (sQ sR)) (by first | rfl | (simp; done))), (congrArg I (by first | rfl | omega)), ?_, ?_, ?_, ?_, ?_⟩
     ·((try dsimp only); omega)
     ·omega
     ·omega
     ·rw [List.map_append, hmr]; exact mrows_next j0 (by omega) (by omega)
     ·exact (hr.mono (Le.zz fun y hy => List.mem_append_right _ hy)).snoc (hv94.mono (Le.zz fun y hy => List.mem_append_left _ hy))
     ·simp only [List.length_append, List.length_singleton]; omega
  ·refine CW.exit (id := 2) rfl ?_
   refine SR ?_
   obtain ⟨Z119, hz120, hv121, -⟩ := (hH60.perm (((pC pR).trans pS).trans (pC pR))).frz (K)
   have hH122 : Hp _ w60 (_ :: _ :: _ :: _ :: _ :: (Z119 ++ Z)) := hz120.zin (L := [_, _, _, _, _]) (L' := Z)
   obtain ⟨Z123, hz124, hv125, -⟩ := hH122.frz (K)
   have hH126 : Hp _ w60 (_ :: _ :: _ :: _ :: (Z123 ++ (Z119 ++ Z))) := hz124.zin (L := [_, _, _, _]) (L' := (Z119 ++ Z))
   have hN127 : AsgV (Kz K (Z123 ++ (Z119 ++ Z))) (⟨v0, ls, v1, gr⟩ : Asg) := ⟨(hv121.mono (Le.zz (fun x hx => (List.mem_append_right _ (List.mem_append_left _ hx))))), (hv125.mono (Le.zz (fun x hx => (List.mem_append_left _ hx)))), hr.mono (Le.zz (fun x hx => (List.mem_append_right _ (List.mem_append_right _ hx))))⟩
   refine V (run_ldA (cs := asgL (⟨v0, ls, v1, gr⟩ : Asg)) underlying29 rfl rfl e5_60 (rangeAt_cells (hH126.blk (i := 0) rfl))) ?_
   refine RL.set hH126 (i := 1) rfl (run_stW (c' := (asgL (⟨v0, ls, v1, gr⟩ : Asg)).toArray) rfl e4_60 rfl (asgL_one hN127) (hH126.blk (i := 1) rfl) rfl) ?_
   intro w128 hH129
   simp only [z0, z1] at hH129
   refine RL.nil ?_
   refine CW.ret ?_
   refine outCg Tryz.results19 e4_60 hH129 (i := 1) rfl underlying29 rfl rfl ⟨(Z123 ++ (Z119 ++ Z)), (hH129.sub (sQ (sQ (sQ (sQ sR))))), (⟨v0, ls, v1, gr⟩ : Asg), rfl, ?_, hN127⟩
   exact meet_is hm hmr (by omega) (by omega)

end Go.Proofs.YtieckcbckgalhaaGreatDoor.W
