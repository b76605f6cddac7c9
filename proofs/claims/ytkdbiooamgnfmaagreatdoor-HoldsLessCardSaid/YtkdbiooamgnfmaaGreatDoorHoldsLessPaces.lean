/-
  The walks of the functions that the laws of this seat reach, part 3: each returns what its plain counterpart tells, and turns nothing that was there.
-/
import Derived.Test.YtkdbiooamgnfmaaGreatDoorProg
import Derived.Test.YtkdbiooamgnfmaaGreatDoorEnv
import Derived.Test.YtkdbiooamgnfmaaGreatDoorPlain
import Derived.Test.YtkdbiooamgnfmaaGreatDoorBase
import Derived.Test.YtkdbiooamgnfmaaGreatDoorOrd
import Derived.Test.YtkdbiooamgnfmaaGreatDoorRel
import Derived.Test.YtkdbiooamgnfmaaGreatDoorClo
import Derived.Test.YtkdbiooamgnfmaaGreatDoorCov
import Derived.Test.YtkdbiooamgnfmaaGreatDoorArr
import Derived.Test.YtkdbiooamgnfmaaGreatDoorHas
import Derived.Test.YtkdbiooamgnfmaaGreatDoorGrd
import Derived.Test.YtkdbiooamgnfmaaGreatDoorStr
import Derived.Test.YtkdbiooamgnfmaaGreatDoorVu
import Derived.Test.YtkdbiooamgnfmaaGreatDoorShp
import Derived.Test.YtkdbiooamgnfmaaGreatDoorShl
import Derived.Test.YtkdbiooamgnfmaaGreatDoorShq
import Derived.Test.YtkdbiooamgnfmaaGreatDoorCut
import Derived.Test.YtkdbiooamgnfmaaGreatDoorRec
import Derived.Test.YtkdbiooamgnfmaaGreatDoorScp
import Derived.Test.YtkdbiooamgnfmaaGreatDoorNod
import Derived.Test.YtkdbiooamgnfmaaGreatDoorSpn
import Derived.Test.YtkdbiooamgnfmaaGreatDoorSpy
import Derived.Test.YtkdbiooamgnfmaaGreatDoorMk
import Derived.Test.YtkdbiooamgnfmaaGreatDoorAsn
import Derived.Test.YtkdbiooamgnfmaaGreatDoorAsr
import Derived.Test.YtkdbiooamgnfmaaGreatDoorAst
import Derived.Test.YtkdbiooamgnfmaaGreatDoorRgs
import Derived.Test.YtkdbiooamgnfmaaGreatDoorIns
import Derived.Test.YtkdbiooamgnfmaaGreatDoorCod
import Derived.Test.YtkdbiooamgnfmaaGreatDoorFit
import Derived.Test.YtkdbiooamgnfmaaGreatDoorRow
import Derived.Test.YtkdbiooamgnfmaaGreatDoorHol
import Derived.Test.YtkdbiooamgnfmaaGreatDoorGap
import Derived.Test.YtkdbiooamgnfmaaGreatDoorMap
import Derived.Test.YtkdbiooamgnfmaaGreatDoorExn
import Derived.Test.YtkdbiooamgnfmaaGreatDoorMin
import Derived.Test.YtkdbiooamgnfmaaGreatDoorHoldsLessPacesB
namespace Go.Proofs.YtkdbiooamgnfmaaGreatDoor.W
open Go Go.RowKit Go.Proofs.YtkdbiooamgnfmaaGreatDoor.E Go.Proofs.YtkdbiooamgnfmaaGreatDoor.M
set_option linter.unusedVariables false
set_option linter.unusedSimpArgs false
set_option maxRecDepth 100000
open Tryz
set_option maxHeartbeats 1000000 in
theorem c_code_Eval (s : Shp) (v : Value) (l : List InsR) (u : Value) (vs : List El) (hl : l.length ≤ 1000) (w : World) (hs : Sl w v 10 l.length (l.flatMap insL)) (ht : Sl w u 8 vs.length (vs.flatMap elL)) (hsh : ShpV (Kw w) s) (hT : Tab w) : Calls Tryz.prog 22 #[.agg (shpC s), v, u] w (Pure (.tuple #[.agg (elC (evalF s.sh l vs).1), B (evalF s.sh l vs).2]) w) := by
 have hm := hs.small
 unfold maxLen at hm
 have hm2 := ht.small
 unfold maxLen at hm2
 refine enter Tryz.func22 rfl Tryz.ntmps22 rfl <| have hH := Hp.start w; SR <| RL.new rfl hH (f := fun b => (.pointer (some ⟨b, 0, none⟩))) (run_box (v := .agg _) rfl) <| fun b3 w1 hH2 => RL.new rfl hH2 (f := fun b => (.pointer (some ⟨b, 0, none⟩))) (run_alloc zero_el) <| fun b6 w4 hH5 => va (v := B false) rfl <| RL.nil <| CW.seq <| SR <| ?_
 refine V (run_move (by conv => lhs; whnf)) ?_
 refine RL.callP rfl hH5 (c_code_Right _ _  _ (hs.hp hH5)) (run_call1 call44 rfl) <| fun w7 hH8 => V (run_not rfl) <| RL.nil <| CW.cond rfl (fun h11 => ?_) (fun h11 => ?_)
 ·refine SR <| V (run_bld (vs := []) rfl (built_el0)) <| RL.set hH8 (i := 0) rfl (run_stEl rfl rfl rfl (hH8.blk (i := 0) rfl)) <| fun w12 hH13 => ?_
  simp only [z2] at hH13
  refine va (v := B false) rfl <| RL.nil <| CW.ret <| outCT Tryz.results22 rfl rfl hH13 (i := 0) rfl underlying39 rfl (by rw [elC_size]; rfl) ⟨?_, hH13.below⟩
  (rw [ev_no (nt ‹(!rightC l) = true›)]; rfl)
 ·refine CW.skip <| SR <| va (v := .slice none 0 0) rfl <| have hH14 := hH8.nilRow 39 8; RL.nil <| CW.seq <| SR <| ?_
  refine V (run_move (by conv => lhs; whnf)) ?_
  refine V (run_lenSl (hs.hp hH14) rfl underlying36 rfl) <| vm (v := I 0) rfl <| RL.nil <| CW.block <| have hr : rightC l = true := nf ‹(!rightC l) = false›; CW.loop (G := Int × (List El) × Value) (fun ⟨k, st, v8⟩ s' w' => (Fr (7 :: 8 :: (10 :: 11 :: (rg 18 53 []))) _ s') ∧ (Hp w w' (.row v8 39 8 (st.length) (st.flatMap elL) :: _)) ∧ (s' 8 = v8) ∧ (s' 18 = I k) ∧ (0 ≤ k) ∧ (k ≤ l.length) ∧ (stackTo s.sh vs l k = some st) ∧ (deepTo l k = some (st.length : Int))) (fun ⟨k, st, v8⟩ => (l.length - k).toNat) ((0, [], (.slice none 0 0 : Value))) ⟨Fr.refl _ _, hH14, rfl, rfl, (by omega), (by omega), rfl, deep_zero l⟩ <| ?_
  rintro ⟨k, st, v8⟩ sg15 w15 ⟨fr15, hH15, e8_15, e18_15, h0, hk, hst, hdp⟩
  have e2_15 := (fr15 2 rfl).trans (by conv => lhs; whnf)
  have e3_15 := fr15.pp 3 rfl rfl
  have e6_15 := fr15.pp 6 rfl rfl
  have e16_15 := (fr15 16 rfl).trans (by conv => lhs; whnf)
  have e17_15 := fr15.ii 17 rfl rfl
  have hdk := deep_bd h0 hk hdp
  refine SR <| V (run_lss e18_15 e17_15) <| RL.nil <| CW.seq <| CW.condP rfl (fun h17 => ?_) (fun h17 => ?_)
  ·refine CW.skip <| CW.seq <| CW.block <| SR <| V (run_indexAddrS (hs.hp hH15) underlying36 sizeOf91 e16_15 e18_15 (by omega)) <| V (run_ldE (dv := ins0) insL_len (hs.hp hH15) underlying91 rfl rfl rfl (by omega)) <| RL.new rfl hH15 (f := fun b => (.pointer (some ⟨b, 0, none⟩))) (run_alloc zero_ins) <| fun b20 w18 hH19 => RL.set hH19 (i := 0) rfl (run_stW (c' := (insL _).toArray) rfl rfl rfl (insL_one _) (hH19.blk (i := 0) rfl) rfl) <| fun w21 hH22 => ?_
   simp only [z2] at hH22
   refine RL.nil <| SR <| V (fA underlying91 0 rfl sizeOf3 rfl) <| V (run_ld underlying3 rfl rfl (hH22.cell (i := 0) rfl (v := I _) rfl)) <| RL.nil <| CW.block <| SR <| V (run_eql rfl rfl) <| aB rfl <| RL.nil <| CW.condP rfl (fun h24 => ?_) (fun h24 => ?_)
   ·refine CW.seq <| SR <| V (fA underlying91 1 rfl sizeOf3 rfl) <| V (run_ld underlying3 rfl rfl (hH22.cell (i := 0) rfl (v := I _) rfl)) <| V (run_lss rfl rfl) <| mB rfl <| RL.splitP (dj := 47) rfl (fun h26 => ?_) (fun h26 => ?_)
    ·refine gF rfl (bT h26) <| gF rfl (bT h26) <| gF rfl (bT h26) <| gF rfl (bT h26) <| gF rfl (bT h26) <| V (run_pickT (bT h26) (v := B true) rfl) <| RL.nil <| CW.condT rfl <| SR <| V (run_bld (vs := []) rfl (built_el0)) <| RL.set hH22 (i := 2) rfl (run_stEl rfl e6_15 rfl (hH22.blk (i := 2) rfl)) <| fun w27 hH28 => ?_
     simp only [z2] at hH28
     refine va (v := B false) rfl <| RL.nil <| CW.ret <| outCT Tryz.results22 e6_15 rfl hH28 (i := 2) rfl underlying39 rfl (by rw [elC_size]; rfl) ⟨?_, hH28.below⟩
     (rw [ev_dead h0 ‹k < _› hst ‹(List.getD l k.toNat ins0).op = 1› (by omega)]; rfl)
    ·refine gT rfl (bF h26) <| V (fA underlying91 1 rfl sizeOf3 rfl) <| gT rfl (bF h26) <| V (run_ld underlying3 rfl rfl (hH22.cell (i := 0) rfl (v := I _) rfl)) <| gT rfl (bF h26) <| vm e2_15 <| gT rfl (bF h26) <| V (run_lenSl (ht.hp hH22) rfl underlying29 rfl) <| gT rfl (bF h26) <| V (run_geq rfl rfl) <| V (run_pickF (bF h26) (v := B _) rfl) <| RL.nil <| CW.condP rfl (fun h30 => ?_) (fun h30 => ?_)
     ·refine SR <| V (run_bld (vs := []) rfl (built_el0)) <| RL.set hH22 (i := 2) rfl (run_stEl rfl e6_15 rfl (hH22.blk (i := 2) rfl)) <| fun w31 hH32 => ?_
      simp only [z2] at hH32
      refine va (v := B false) rfl <| RL.nil <| CW.ret <| outCT Tryz.results22 e6_15 rfl hH32 (i := 2) rfl underlying39 rfl (by rw [elC_size]; rfl) ⟨?_, hH32.below⟩
      (rw [ev_dead h0 ‹k < _› hst ‹(List.getD l k.toNat ins0).op = 1› (by omega)]; rfl)
     ·refine CW.skip <| CW.region <| vm e8_15 <| vm e2_15 <| V (fA underlying91 1 rfl sizeOf3 rfl) <| V (run_ld underlying3 rfl rfl (hH22.cell (i := 0) rfl (v := I _) rfl)) <| V (run_indexAddrS (ht.hp hH22) underlying29 sizeOf39 rfl rfl (by omega)) <| V (run_ldElS (ht.hp hH22) underlying39 rfl rfl rfl (by omega)) <| RL.new rfl hH22 (f := fun b => (.slice (some ⟨b, 0, none⟩) 1 1)) (run_mkEl1 underlying29 rfl rfl rfl rfl) <| fun b35 w33 hH34 => ?_
      (try simp only [clX] at hH34)
      refine RL.app rfl hH34 (i := 2) rfl (Hp.slFlat elL_len hH34 (i := 0) (l := [_]) rfl (by simp [maxLen])) rfl rfl underlying29 rfl rfl (size := 8) (bytes := 64) rfl rfl rfl (by decide) (els_one _) (by show (st.length + 1) * _ ≤ _; omega) (by show st.length + 1 ≤ _; simp only [maxLen]; omega) <| fun v36 w37 hH38 => ?_
      simp only [z2] at hH38
      refine V (run_assign (by conv => lhs; whnf)) ?_
      refine RL.nil <| CW.region <| V (run_add e18_15 rfl (by omega)) <| mI rfl <| RL.nil <| ?_
      refine ⟨(k + 1, st ++ [vs.getD (l.getD k.toNat ins0).n.toNat el0], v36), ?_, fr15.u4.u4.u4.u4.u4.u4.u4.u1, (Hp.conv (hH38.sub (sQ (sQ sR))) (by simp; done)), rfl, (congrArg I (by rfl)), ?_, ?_, ?_, ?_⟩
      ·((try dsimp only); omega)
      ·omega
      ·omega
      ·exact ev_1 h0 ‹k < _› hst ‹(List.getD l k.toNat ins0).op = 1› ⟨by omega, by omega⟩
      ·(rw [deep_next h0 ‹k < _›, hdp, st_push (.inl ‹(List.getD l k.toNat ins0).op = 1›)]; simp; done)
   ·refine SR <| V (run_eql rfl rfl) <| aB rfl <| RL.nil <| CW.condP rfl (fun h40 => ?_) (fun h40 => ?_)
    ·refine CW.region <| vm e8_15 <| V (fA underlying91 2 rfl sizeOf39 rfl) <| V (run_ldElR underlying39 rfl rfl rfl (hH22.blk (i := 0) rfl) (ins_elB _)) <| RL.new rfl hH22 (f := fun b => (.slice (some ⟨b, 0, none⟩) 1 1)) (run_mkEl1 underlying29 rfl rfl rfl rfl) <| fun b43 w41 hH42 => ?_
     (try simp only [clX] at hH42)
     refine RL.app rfl hH42 (i := 2) rfl (Hp.slFlat elL_len hH42 (i := 0) (l := [_]) rfl (by simp [maxLen])) rfl rfl underlying29 rfl rfl (size := 8) (bytes := 64) rfl rfl rfl (by decide) (els_one _) (by show (st.length + 1) * _ ≤ _; omega) (by show st.length + 1 ≤ _; simp only [maxLen]; omega) <| fun v44 w45 hH46 => ?_
     simp only [z2] at hH46
     refine V (run_assign (by conv => lhs; whnf)) ?_
     refine RL.nil <| CW.region <| V (run_add e18_15 rfl (by omega)) <| mI rfl <| RL.nil <| ?_
     refine ⟨(k + 1, st ++ [(l.getD k.toNat ins0).c], v44), ?_, fr15.u4.u4.u4.u4.u1.u1, (Hp.conv (hH46.sub (sQ (sQ sR))) (by simp; done)), rfl, (congrArg I (by rfl)), ?_, ?_, ?_, ?_⟩
     ·((try dsimp only); omega)
     ·omega
     ·omega
     ·exact ev_2 h0 ‹k < _› hst ‹(List.getD l k.toNat ins0).op = 2›
     ·(rw [deep_next h0 ‹k < _›, hdp, st_push (.inr ‹(List.getD l k.toNat ins0).op = 2›)]; simp; done)
    ·refine SR <| vm e8_15 <| V (run_lenSl (hH22.sl (i := 1) rfl) rfl underlying29 rfl) <| V (fA underlying91 1 rfl sizeOf3 rfl) <| V (run_ld underlying3 rfl rfl (hH22.cell (i := 0) rfl (v := I _) rfl)) <| V (run_sub rfl rfl (by have hq := (deep_pop hr h0 ‹k < _› hdp ‹¬ (List.getD l k.toNat ins0).op = 1› ‹¬ (List.getD l k.toNat ins0).op = 2›); omega)) <| aI rfl <| RL.nil <| have hpo := (deep_pop hr h0 ‹k < _› hdp ‹¬ (List.getD l k.toNat ins0).op = 1› ‹¬ (List.getD l k.toNat ins0).op = 2›); CW.regionS (by kernel_rfl) hH22 (sP (sQ sR)) <| fun w47 hH48 => have zh48 := hH48.sub (sP (sQ sR)); AQ 0 rfl zh48 (run_move e8_15) <| AQ 1 rfl zh48 (mV (I _) rfl) <| AQ 2 rfl zh48 (mV (I _) rfl) <| AT 4 rfl zh48 (fun w hS => run_ldA (cs := [B _, _]) underlying65 rfl rfl e3_15 (rangeAt_cells (hS.blk (i := 2) rfl))) <| AQ 5 rfl zh48 (fA underlying91 0 rfl sizeOf3 rfl) <| AT 6 rfl zh48 (fun w hS => run_ld underlying3 rfl rfl (hS.cell (i := 0) rfl (v := I _) rfl)) <| AQ 7 rfl zh48 (run_move e8_15) <| AQ 8 rfl zh48 (mV (I _) rfl) <| AN.two 3 9 (by kernel_rfl) ?_ ?_
     ·refine AO.read rfl gnone rfl hH48 (sP (sQ sR)) (run_cut3 (hH48.sl (i := 1) rfl) underlying29 sizeOf39 rfl rfl rfl (by omega)) <| A1 9 <| AO.read rfl gnone rfl hH48 (sP (sQ sR)) (run_from (hH48.sl (i := 1) rfl) underlying29 sizeOf39 rfl rfl (by omega)) <| A1 10 <| AO.callP rfl gnone rfl hH48 (sP (sQ sR)) (c_code_fold s (l.getD k.toNat ins0).op _ (st.drop ((st.length : Int) - (l.getD k.toNat ins0).n).toNat) (by rw [List.length_drop]; omega) _ (Sl.frE elL_len (hH48.sl (i := 1) rfl) _ (by omega)) (hsh.mono hH48.kw) (hT.hp hH48)) (run_call3 call45 rfl rfl rfl) <| fun w53 hH54 => A1 11 <| AO.new rfl gnone rfl hH54 (sP (sQ sR)) (f := fun b => .slice (some ⟨b, 0, none⟩) 1 1) (run_mkEl1 underlying29 rfl rfl rfl rfl) <| fun b57 w55 hH56 => ?_
      (try simp only [clX] at hH56)
      refine A1 12 <| AO.appG rfl gnone rfl hH56 (j := 2) rfl (q := (((st.length : Int) - (l.getD k.toNat ins0).n)).toNat) (by omega) (fun _ => (sQ (sP (sQ sR)))) (Hp.slFlat elL_len hH56 (i := 0) (l := [_]) rfl (by simp [maxLen])) rfl rfl underlying29 rfl rfl (size := 8) (bytes := 64) rfl rfl rfl (by simp) (by show (((st.length : Int) - (l.getD k.toNat ins0).n).toNat + 1) * _ ≤ _; omega) (by show ((st.length : Int) - (l.getD k.toNat ins0).n).toNat + 1 ≤ _; simp only [maxLen]; omega) <| fun v60 w61 hH62 => ?_
      simp only [z2] at hH62
      refine AQ 13 rfl (hH62.sub (sQ (sP (sQ sR)))) (run_assign (by conv => lhs; whnf)) ?_
      refine AD <| CW.region <| V (run_add e18_15 rfl (by omega)) <| mI rfl <| RL.nil <| ?_
      refine ⟨(k + 1, st.take ((st.length : Int) - (l.getD k.toNat ins0).n).toNat ++ [foldE (opE s.sh (l.getD k.toNat ins0).op) (st.drop ((st.length : Int) - (l.getD k.toNat ins0).n).toNat)], v60), ?_, fr15.u4.u4.u4.u4.u4.u4.u4.u4, (Hp.conv (hH62.sub (sQ (sQ sR))) (by rw [flat_take elL_len, List.length_append, List.length_take, Nat.min_eq_left (by omega), List.flatMap_append]; done)), rfl, (congrArg I (by rfl)), ?_, ?_, ?_, ?_⟩
      ·((try dsimp only); omega)
      ·omega
      ·omega
      ·exact ev_3i h0 ‹k < _› hst ‹¬ (List.getD l k.toNat ins0).op = 1› ‹¬ (List.getD l k.toNat ins0).op = 2› rfl (by have := (deep_pop hr h0 ‹k < _› hdp ‹¬ (List.getD l k.toNat ins0).op = 1› ‹¬ (List.getD l k.toNat ins0).op = 2›); omega)
      ·(have hq := (deep_pop hr h0 ‹k < _› hdp ‹¬ (List.getD l k.toNat ins0).op = 1› ‹¬ (List.getD l k.toNat ins0).op = 2›); rw [hq.2.2, List.length_append, List.length_take, List.length_singleton]; congr 1 <;> omega)
     ·refine AO.read rfl gnone rfl hH48 (sP (sQ sR)) (run_from (hH48.sl (i := 1) rfl) underlying29 sizeOf39 rfl rfl (by omega)) <| AN.two 3 10 (by kernel_rfl) ?_ ?_
      ·refine AO.read rfl gnone rfl hH48 (sP (sQ sR)) (run_cut3 (hH48.sl (i := 1) rfl) underlying29 sizeOf39 rfl rfl rfl (by omega)) <| A1 10 <| AO.callP rfl gnone rfl hH48 (sP (sQ sR)) (c_code_fold s (l.getD k.toNat ins0).op _ (st.drop ((st.length : Int) - (l.getD k.toNat ins0).n).toNat) (by rw [List.length_drop]; omega) _ (Sl.frE elL_len (hH48.sl (i := 1) rfl) _ (by omega)) (hsh.mono hH48.kw) (hT.hp hH48)) (run_call3 call45 rfl rfl rfl) <| fun w67 hH68 => A1 11 <| AO.new rfl gnone rfl hH68 (sP (sQ sR)) (f := fun b => .slice (some ⟨b, 0, none⟩) 1 1) (run_mkEl1 underlying29 rfl rfl rfl rfl) <| fun b71 w69 hH70 => ?_
       (try simp only [clX] at hH70)
       refine A1 12 <| AO.appG rfl gnone rfl hH70 (j := 2) rfl (q := (((st.length : Int) - (l.getD k.toNat ins0).n)).toNat) (by omega) (fun _ => (sQ (sP (sQ sR)))) (Hp.slFlat elL_len hH70 (i := 0) (l := [_]) rfl (by simp [maxLen])) rfl rfl underlying29 rfl rfl (size := 8) (bytes := 64) rfl rfl rfl (by simp) (by show (((st.length : Int) - (l.getD k.toNat ins0).n).toNat + 1) * _ ≤ _; omega) (by show ((st.length : Int) - (l.getD k.toNat ins0).n).toNat + 1 ≤ _; simp only [maxLen]; omega) <| fun v74 w75 hH76 => ?_
       simp only [z2] at hH76
       refine AQ 13 rfl (hH76.sub (sQ (sP (sQ sR)))) (run_assign (by conv => lhs; whnf)) ?_
       refine AD <| CW.region <| V (run_add e18_15 rfl (by omega)) <| mI rfl <| RL.nil <| ?_
       refine ⟨(k + 1, st.take ((st.length : Int) - (l.getD k.toNat ins0).n).toNat ++ [foldE (opE s.sh (l.getD k.toNat ins0).op) (st.drop ((st.length : Int) - (l.getD k.toNat ins0).n).toNat)], v74), ?_, fr15.u4.u4.u4.u4.u4.u4.u4.u4, (Hp.conv (hH76.sub (sQ (sQ sR))) (by rw [flat_take elL_len, List.length_append, List.length_take, Nat.min_eq_left (by omega), List.flatMap_append]; done)), rfl, (congrArg I (by rfl)), ?_, ?_, ?_, ?_⟩
       ·((try dsimp only); omega)
       ·omega
       ·omega
       ·exact ev_3i h0 ‹k < _› hst ‹¬ (List.getD l k.toNat ins0).op = 1› ‹¬ (List.getD l k.toNat ins0).op = 2› rfl (by have := (deep_pop hr h0 ‹k < _› hdp ‹¬ (List.getD l k.toNat ins0).op = 1› ‹¬ (List.getD l k.toNat ins0).op = 2›); omega)
       ·(have hq := (deep_pop hr h0 ‹k < _› hdp ‹¬ (List.getD l k.toNat ins0).op = 1› ‹¬ (List.getD l k.toNat ins0).op = 2›); rw [hq.2.2, List.length_append, List.length_take, List.length_singleton]; congr 1 <;> omega)
      ·refine AO.callP rfl gnone rfl hH48 (sP (sQ sR)) (c_code_fold s (l.getD k.toNat ins0).op _ (st.drop ((st.length : Int) - (l.getD k.toNat ins0).n).toNat) (by rw [List.length_drop]; omega) _ (Sl.frE elL_len (hH48.sl (i := 1) rfl) _ (by omega)) (hsh.mono hH48.kw) (hT.hp hH48)) (run_call3 call45 rfl rfl rfl) <| fun w77 hH78 => AN.two 3 11 (by kernel_rfl) ?_ ?_
       ·refine AO.read rfl gnone rfl hH78 (sP (sQ sR)) (run_cut3 (hH78.sl (i := 1) rfl) underlying29 sizeOf39 rfl rfl rfl (by omega)) <| A1 11 <| AO.new rfl gnone rfl hH78 (sP (sQ sR)) (f := fun b => .slice (some ⟨b, 0, none⟩) 1 1) (run_mkEl1 underlying29 rfl rfl rfl rfl) <| fun b83 w81 hH82 => ?_
        (try simp only [clX] at hH82)
        refine A1 12 <| AO.appG rfl gnone rfl hH82 (j := 2) rfl (q := (((st.length : Int) - (l.getD k.toNat ins0).n)).toNat) (by omega) (fun _ => (sQ (sP (sQ sR)))) (Hp.slFlat elL_len hH82 (i := 0) (l := [_]) rfl (by simp [maxLen])) rfl rfl underlying29 rfl rfl (size := 8) (bytes := 64) rfl rfl rfl (by simp) (by show (((st.length : Int) - (l.getD k.toNat ins0).n).toNat + 1) * _ ≤ _; omega) (by show ((st.length : Int) - (l.getD k.toNat ins0).n).toNat + 1 ≤ _; simp only [maxLen]; omega) <| fun v86 w87 hH88 => ?_
        simp only [z2] at hH88
        refine AQ 13 rfl (hH88.sub (sQ (sP (sQ sR)))) (run_assign (by conv => lhs; whnf)) ?_
        refine AD <| CW.region <| V (run_add e18_15 rfl (by omega)) <| mI rfl <| RL.nil <| ?_
        refine ⟨(k + 1, st.take ((st.length : Int) - (l.getD k.toNat ins0).n).toNat ++ [foldE (opE s.sh (l.getD k.toNat ins0).op) (st.drop ((st.length : Int) - (l.getD k.toNat ins0).n).toNat)], v86), ?_, fr15.u4.u4.u4.u4.u4.u4.u4.u4, (Hp.conv (hH88.sub (sQ (sQ sR))) (by rw [flat_take elL_len, List.length_append, List.length_take, Nat.min_eq_left (by omega), List.flatMap_append]; done)), rfl, (congrArg I (by rfl)), ?_, ?_, ?_, ?_⟩
        ·((try dsimp only); omega)
        ·omega
        ·omega
        ·exact ev_3i h0 ‹k < _› hst ‹¬ (List.getD l k.toNat ins0).op = 1› ‹¬ (List.getD l k.toNat ins0).op = 2› rfl (by have := (deep_pop hr h0 ‹k < _› hdp ‹¬ (List.getD l k.toNat ins0).op = 1› ‹¬ (List.getD l k.toNat ins0).op = 2›); omega)
        ·(have hq := (deep_pop hr h0 ‹k < _› hdp ‹¬ (List.getD l k.toNat ins0).op = 1› ‹¬ (List.getD l k.toNat ins0).op = 2›); rw [hq.2.2, List.length_append, List.length_take, List.length_singleton]; congr 1 <;> omega)
       ·refine AO.new rfl gnone rfl hH78 (sP (sQ sR)) (f := fun b => .slice (some ⟨b, 0, none⟩) 1 1) (run_mkEl1 underlying29 rfl rfl rfl rfl) <| fun b91 w89 hH90 => ?_
        (try simp only [clX] at hH90)
        refine A1 3 <| AO.read rfl gnone rfl hH90 (sQ (sP (sQ sR))) (run_cut3 (hH90.sl (i := 2) rfl) underlying29 sizeOf39 rfl rfl rfl (by omega)) <| A1 12 <| AO.appG rfl gnone rfl hH90 (j := 2) rfl (q := (((st.length : Int) - (l.getD k.toNat ins0).n)).toNat) (by omega) (fun _ => (sQ (sP (sQ sR)))) (Hp.slFlat elL_len hH90 (i := 0) (l := [_]) rfl (by simp [maxLen])) rfl rfl underlying29 rfl rfl (size := 8) (bytes := 64) rfl rfl rfl (by simp) (by show (((st.length : Int) - (l.getD k.toNat ins0).n).toNat + 1) * _ ≤ _; omega) (by show ((st.length : Int) - (l.getD k.toNat ins0).n).toNat + 1 ≤ _; simp only [maxLen]; omega) <| fun v96 w97 hH98 => ?_
        simp only [z2] at hH98
        refine AQ 13 rfl (hH98.sub (sQ (sP (sQ sR)))) (run_assign (by conv => lhs; whnf)) ?_
        refine AD <| CW.region <| V (run_add e18_15 rfl (by omega)) <| mI rfl <| RL.nil <| ?_
        refine ⟨(k + 1, st.take ((st.length : Int) - (l.getD k.toNat ins0).n).toNat ++ [foldE (opE s.sh (l.getD k.toNat ins0).op) (st.drop ((st.length : Int) - (l.getD k.toNat ins0).n).toNat)], v96), ?_, fr15.u4.u4.u4.u4.u4.u4.u4.u4, (Hp.conv (hH98.sub (sQ (sQ sR))) (by rw [flat_take elL_len, List.length_append, List.length_take, Nat.min_eq_left (by omega), List.flatMap_append]; done)), rfl, (congrArg I (by rfl)), ?_, ?_, ?_, ?_⟩
        ·((try dsimp only); omega)
        ·omega
        ·omega
        ·exact ev_3i h0 ‹k < _› hst ‹¬ (List.getD l k.toNat ins0).op = 1› ‹¬ (List.getD l k.toNat ins0).op = 2› rfl (by have := (deep_pop hr h0 ‹k < _› hdp ‹¬ (List.getD l k.toNat ins0).op = 1› ‹¬ (List.getD l k.toNat ins0).op = 2›); omega)
        ·(have hq := (deep_pop hr h0 ‹k < _› hdp ‹¬ (List.getD l k.toNat ins0).op = 1› ‹¬ (List.getD l k.toNat ins0).op = 2›); rw [hq.2.2, List.length_append, List.length_take, List.length_singleton]; congr 1 <;> omega)
  ·refine CW.exit (id := 0) rfl <| SR <| vm e8_15 <| V (run_indexAddrS (hH15.sl (i := 0) rfl) underlying29 sizeOf39 rfl rfl (by have := deep_fin hr hk ‹¬ k < _› hdp; omega)) <| V (run_ldElS (hH15.sl (i := 0) rfl) underlying39 rfl rfl rfl (by have := deep_fin hr hk ‹¬ k < _› hdp; omega)) <| RL.set hH15 (i := 1) rfl (run_stEl rfl e6_15 rfl (hH15.blk (i := 1) rfl)) <| fun w99 hH100 => ?_
   simp only [z2] at hH100
   refine va (v := B true) rfl <| RL.nil <| CW.ret <| outCT Tryz.results22 e6_15 rfl hH100 (i := 1) rfl underlying39 rfl (by rw [elC_size]; rfl) ⟨?_, hH100.below⟩
   (rw [ev_end hr hk ‹¬ k < _› hst]; rfl)
theorem c_name_Sort_1 (b c d : Nat) (v : Value) (m : List Tx) (u : Value) (l : List Tx) (j i : Int) (hi : 0 ≤ i ∧ i < m.length) (hj : 0 ≤ j ∧ j < l.length) (w : World) (hs : Sl w v 1 m.length (txL m)) (ht : Sl w u 1 l.length (txL l)) (hb : w.heap[b]? = some (.cells #[v] 57 (0, 0))) (hc : w.heap[c]? = some (.cells #[u] 57 (0, 0))) (hd : w.heap[d]? = some (.cells #[I j] 3 (0, 0))) : Calls Tryz.prog 92 #[I i, .pointer (some ⟨b, 0, none⟩), .pointer (some ⟨c, 0, none⟩), .pointer (some ⟨d, 0, none⟩)] w (Pure (B (!lessT (m.getD i.toNat tx0) (l.getD j.toNat tx0))) w) := by
 have hm1 := hs.small
 have hm2 := ht.small
 unfold maxLen at hm1 hm2
 refine enter Tryz.func92 rfl Tryz.ntmps92 rfl <| have hH := Hp.start w; SR <| va (v := B false) rfl <| RL.nil <| CW.seq <| CW.regionD (by kernel_rfl) hH <| fun w1 hH2 => have zh2 := hH2.sub sR; AT 0 rfl zh2 (fun w hS => run_ld underlying57 rfl rfl (hS.extCell hb rfl)) <| AQ 1 rfl zh2 (mV (I _) rfl) <| AT 2 rfl zh2 (fun w hS => run_indexAddrS (hs.hp hS) underlying57 sizeOf9 rfl rfl (by omega)) <| AT 3 rfl zh2 (fun w hS => run_ld underlying9 rfl rfl ((hs.hp hS).cell _ _ (txL_at (by omega)))) <| AT 4 rfl zh2 (fun w hS => run_ld underlying57 rfl rfl (hS.extCell hc rfl)) <| AT 5 rfl zh2 (fun w hS => run_ld underlying3 rfl rfl (hS.extCell hd (v := I _) rfl)) <| AT 6 rfl zh2 (fun w hS => run_indexAddrS (ht.hp hS) underlying57 sizeOf9 rfl rfl (by omega)) <| AT 7 rfl zh2 (fun w hS => run_ld underlying9 rfl rfl ((ht.hp hS).cell _ _ (txL_at (by omega)))) <| AQ 8 rfl zh2 (run_geqS rfl rfl) <| AQ 9 rfl zh2 (aV (B _) rfl) <| AD <| CW.ret <| outP1 Tryz.results92 (congrArg B ?_) hH2.below
 rfl
theorem c_name_Sort (v : Value) (l : List Tx) (hl : l.length ≤ 3000) (w : World) (hs : Sl w v 1 l.length (txL l)) : Calls Tryz.prog 70 #[v] w (PureRow 9 1 (sortN l).length (txL (sortN l)) w) := by
 have hm := hs.small
 unfold maxLen at hm
 refine enter Tryz.func70 rfl Tryz.ntmps70 rfl <| have hH := Hp.start w; SR <| ?_
 refine RL.new rfl hH (f := fun b => (.pointer (some ⟨b, 0, none⟩))) (run_box (by conv => lhs; whnf)) ?_
 intro b3 w1 hH2
 rw [(one_sl hs).2] at hH2
 refine va (v := .slice none 0 0) rfl <| RL.nil <| SR <| RL.new rfl hH2 (f := fun b => (.pointer (some ⟨b, 0, none⟩))) (run_alloc Tryz.zeroValue57) <| fun b6 w4 hH5 => have hH7 := hH5.nilRow 9 1; RL.nil <| CW.seq <| SR <| V (run_ld underlying57 rfl rfl (hH7.cell (i := 2) rfl rfl)) <| V (run_lenSl (hs.hp hH7) rfl underlying57 rfl) <| vm (v := I 0) rfl <| RL.nil <| CW.block <| CW.loop (G := Int × Value × (List Tx)) (fun ⟨k, v0, m⟩ s' w' => (Fr (4 :: 5 :: (rg 8 44 [])) _ s') ∧ (Hp w w' (.row v0 9 1 (m.length) (txL m) :: .blk b6 (.cells (#[v0]) 57 (0, 0)) :: _)) ∧ (s' 8 = I k) ∧ (0 ≤ k) ∧ (k ≤ l.length) ∧ (m = sortN (l.take k.toNat)) ∧ ((m.length : Int) ≤ k)) (fun ⟨k, v0, m⟩ => (l.length - k).toNat) ((0, (.slice none 0 0 : Value), [])) ⟨Fr.refl _ _, hH7, rfl, (by omega), (by omega), rfl, (by simp)⟩ <| ?_
 rintro ⟨k, v0, m⟩ sg8 w8 ⟨fr8, hH8, e8_8, h0, hk, hm, hml⟩
 have e1_8 := fr8.pp 1 rfl rfl
 have e3_8 := fr8.pp 3 rfl rfl
 have e7_8 := fr8.ii 7 rfl rfl
 refine SR <| V (run_lss e8_8 e7_8) <| RL.nil <| CW.seq <| CW.condP rfl (fun h10 => ?_) (fun h10 => ?_)
 ·refine CW.skip <| CW.seq <| CW.block <| SR <| vm e8_8 <| RL.new rfl hH8 (f := fun b => (.pointer (some ⟨b, 0, none⟩))) (run_alloc Tryz.zeroValue3) <| fun b13 w11 hH12 => RL.set hH12 (i := 0) rfl (run_st rfl rfl (v := I _) rfl rfl rfl (hH12.blk (i := 0) rfl) (by decide)) <| fun w14 hH15 => ?_
  simp only [z2] at hH15
  refine RL.nil <| SR <| V (run_ld underlying57 rfl e3_8 (hH15.cell (i := 2) rfl rfl)) <| V (run_lenSl (hH15.sl (i := 1) rfl) rfl underlying57 rfl) <| ?_
  refine V (run_mkF3 e3_8 e1_8 (by conv => lhs; whnf)) ?_
  have hai : ¬ (findV (fun q => !lessT (m.getD q.toNat tx0) (l.getD k.toNat tx0)) m.length) < 0 → 0 ≤ (findV (fun q => !lessT (m.getD q.toNat tx0) (l.getD k.toNat tx0)) m.length) ∧ (findV (fun q => !lessT (m.getD q.toNat tx0) (l.getD k.toNat tx0)) m.length) < m.length := insAt_in
  refine RL.callP rfl hH15 (c_name_place m.length 92 [.pointer (some ⟨b6, 0, none⟩), .pointer (some ⟨b3, 0, none⟩), .pointer (some ⟨b13, 0, none⟩)] (fun q => !lessT (m.getD q.toNat tx0) (l.getD k.toNat tx0)) (by omega) _ call92 (fun i w h h0 h1 => c_name_Sort_1 b6 b3 b13 v0 m v l k i ⟨h0, h1⟩ ⟨by omega, by omega⟩ w ((hH15.sl (i := 1) rfl).below h) ((hs.hp hH15).below h) (keep h (hH15.blk (i := 2) rfl)) (keep h (hH15.blk (i := 3) rfl)) (keep h (hH15.blk (i := 0) rfl)))) (run_call3 call81 (show _ = I 0 from rfl) rfl rfl) <| fun w16 hH17 => aI rfl <| RL.nil <| CW.seq <| SR <| mI rfl <| V (run_lss rfl rfl) <| RL.nil <| CW.condP rfl (fun h19 => ?_) (fun h19 => ?_)
  ·refine CW.seq <| CW.regionS (by kernel_rfl) hH17 (sP (sQ (sQ sR))) <| fun w20 hH21 => have zh21 := hH21.sub (sP (sQ (sQ sR))); AT 1 rfl zh21 (fun w hS => run_ld underlying57 rfl e1_8 (hS.cell (i := 1) rfl rfl)) <| AT 2 rfl zh21 (fun w hS => run_ld underlying3 rfl rfl (hS.cell (i := 0) rfl (v := I _) rfl)) <| AT 3 rfl zh21 (fun w hS => run_indexAddrS (hs.hp hS) underlying57 sizeOf9 rfl rfl (by omega)) <| AT 4 rfl zh21 (fun w hS => run_ld underlying9 rfl rfl ((hs.hp hS).cell _ _ (txL_at (by omega)))) <| AN.two 0 5 (by kernel_rfl) ?_ ?_
   ·refine AO.read rfl gnone rfl hH21 (sP (sQ (sQ sR))) (run_ld underlying57 rfl e3_8 (hH21.cell (i := 2) rfl rfl)) <| A1 5 <| AO.new rfl gnone rfl hH21 (sP (sQ (sQ sR))) (f := fun b => .slice (some ⟨b, 0, none⟩) 1 1) (run_mkL underlying57 rfl rfl (sz := 1) (vs := [.string _]) rfl rfl (by decide) (by decide) rfl rfl) <| fun b26 w24 hH25 => ?_
    (try simp only [clX] at hH25)
    refine A1 6 <| AO.app rfl gnone rfl hH25 (j := 2) rfl (fun _ => (sQ (sP (sQ (sQ sR))))) (hH25.slBlk (i := 0) (n := 1) (sz := 1) rfl rfl (by decide)) rfl rfl underlying57 rfl rfl (size := 1) (bytes := 16) rfl rfl rfl (by decide) (by simp [Value.oneCell']) (by omega) (by simp only [maxLen]; omega) <| fun v29 w27 hH28 => ?_
    simp only [z2] at hH28
    refine A1 7 <| AO.set rfl gnone hH28 (j := 3) rfl (sQ (sP (sQ (sQ sR)))) (run_st rfl e3_8 (v := v29) rfl (row_cells (hH28.get (i := 2) rfl)).1 (row_cells (hH28.get (i := 2) rfl)).2 (hH28.blk (i := 3) rfl) (by simp)) <| fun w30 hH31 => ?_
    simp only [z2] at hH31
    refine AD <| CW.exit (id := 1) rfl <| CW.region <| V (run_add e8_8 rfl (by omega)) <| mI rfl <| RL.nil <| ?_
    refine ⟨(k + 1, v29, (m ++ [l.getD k.toNat tx0])), ?_, fr8.u4.u4.u4.u4.u1.u1.u1, (Hp.conv (hH31.sub (sQ (sQ sR))) (by simp [txL]; done)), (congrArg I (by rfl)), ?_, ?_, ?_, ?_⟩
    ·((try dsimp only); omega)
    ·omega
    ·omega
    ·rw [sort_next h0 ‹k < _›, ← hm]; exact (ins_1 ‹(findV (fun q => !lessT (m.getD q.toNat tx0) (l.getD k.toNat tx0)) m.length) < 0›).symm
    ·(simp only [List.length_append, List.length_singleton]; omega)
   ·refine AO.new rfl gnone rfl hH21 (sP (sQ (sQ sR))) (f := fun b => .slice (some ⟨b, 0, none⟩) 1 1) (run_mkL underlying57 rfl rfl (sz := 1) (vs := [.string _]) rfl rfl (by decide) (by decide) rfl rfl) <| fun b34 w32 hH33 => ?_
    (try simp only [clX] at hH33)
    refine A1 0 <| AO.read rfl gnone rfl hH33 (sQ (sP (sQ (sQ sR)))) (run_ld underlying57 rfl e3_8 (hH33.cell (i := 3) rfl rfl)) <| A1 6 <| AO.app rfl gnone rfl hH33 (j := 2) rfl (fun _ => (sQ (sP (sQ (sQ sR))))) (hH33.slBlk (i := 0) (n := 1) (sz := 1) rfl rfl (by decide)) rfl rfl underlying57 rfl rfl (size := 1) (bytes := 16) rfl rfl rfl (by decide) (by simp [Value.oneCell']) (by omega) (by simp only [maxLen]; omega) <| fun v39 w37 hH38 => ?_
    simp only [z2] at hH38
    refine A1 7 <| AO.set rfl gnone hH38 (j := 3) rfl (sQ (sP (sQ (sQ sR)))) (run_st rfl e3_8 (v := v39) rfl (row_cells (hH38.get (i := 2) rfl)).1 (row_cells (hH38.get (i := 2) rfl)).2 (hH38.blk (i := 3) rfl) (by simp)) <| fun w40 hH41 => ?_
    simp only [z2] at hH41
    refine AD <| CW.exit (id := 1) rfl <| CW.region <| V (run_add e8_8 rfl (by omega)) <| mI rfl <| RL.nil <| ?_
    refine ⟨(k + 1, v39, (m ++ [l.getD k.toNat tx0])), ?_, fr8.u4.u4.u4.u4.u1.u1.u1, (Hp.conv (hH41.sub (sQ (sQ sR))) (by simp [txL]; done)), (congrArg I (by rfl)), ?_, ?_, ?_, ?_⟩
    ·((try dsimp only); omega)
    ·omega
    ·omega
    ·rw [sort_next h0 ‹k < _›, ← hm]; exact (ins_1 ‹(findV (fun q => !lessT (m.getD q.toNat tx0) (l.getD k.toNat tx0)) m.length) < 0›).symm
    ·(simp only [List.length_append, List.length_singleton]; omega)
  ·refine CW.skip <| CW.seq <| CW.regionD (by kernel_rfl) hH17 <| fun w42 hH43 => have zh43 := hH43.sub sR; AT 0 rfl zh43 (fun w hS => run_ld underlying57 rfl e3_8 (hS.cell (i := 2) rfl rfl)) <| AQ 1 rfl zh43 (mV (I _) rfl) <| AT 2 rfl zh43 (fun w hS => run_indexAddrS (hS.sl (i := 1) rfl) underlying57 sizeOf9 rfl rfl (by omega)) <| AT 3 rfl zh43 (fun w hS => run_ld underlying9 rfl rfl ((hS.sl (i := 1) rfl).cell _ _ (txL_at (by omega)))) <| AT 4 rfl zh43 (fun w hS => run_ld underlying57 rfl e1_8 (hS.cell (i := 3) rfl rfl)) <| AT 5 rfl zh43 (fun w hS => run_ld underlying3 rfl rfl (hS.cell (i := 0) rfl (v := I _) rfl)) <| AT 6 rfl zh43 (fun w hS => run_indexAddrS (hs.hp hS) underlying57 sizeOf9 rfl rfl (by omega)) <| AT 7 rfl zh43 (fun w hS => run_ld underlying9 rfl rfl ((hs.hp hS).cell _ _ (txL_at (by omega)))) <| AQ 8 rfl zh43 (run_neqS rfl rfl) <| AD <| CW.condP rfl (fun h45 => ?_) (fun h45 => ?_)
   ·refine SR <| V (run_ld underlying57 rfl e3_8 (hH43.cell (i := 2) rfl rfl)) <| RL.new rfl hH43 (f := fun b => (.slice (some ⟨b, 0, none⟩) 1 1)) (run_mkL underlying57 rfl rfl (sz := 1) (vs := [.string ⟨#[]⟩]) rfl rfl (by decide) (by decide) rfl rfl) <| fun b48 w46 hH47 => ?_
    (try simp only [clX] at hH47)
    refine RL.app rfl hH47 (i := 2) rfl (hH47.slBlk (i := 0) (n := 1) (sz := 1) rfl rfl (by decide)) rfl rfl underlying57 rfl rfl (size := 1) (bytes := 16) rfl rfl rfl (by decide) (by simp [Value.oneCell']) (by omega) (by simp only [maxLen]; omega) <| fun v49 w50 hH51 => ?_
    simp only [z2] at hH51
    refine RL.set hH51 (i := 3) rfl (run_st rfl e3_8 (by conv => lhs; whnf) (row_cells (hH51.get (i := 2) rfl)).1 (row_cells (hH51.get (i := 2) rfl)).2 (hH51.blk (i := 3) rfl) (by simp)) ?_
    intro w52 hH53
    simp only [z2] at hH53
    refine RL.nil <| CW.seq <| CW.regionS (by kernel_rfl) hH53 (sP (sP (sQ sR))) <| fun w54 hH55 => have zh55 := hH55.sub (sP (sP (sQ sR))); AT 0 rfl zh55 (fun w hS => run_ld underlying57 rfl e3_8 (hS.cell (i := 2) rfl rfl)) <| AQ 1 rfl zh55 (mV (I _) rfl) <| AQ 2 rfl zh55 (run_add rfl rfl (by omega)) <| AT 4 rfl zh55 (fun w hS => run_ld underlying57 rfl e3_8 (hS.cell (i := 2) rfl rfl)) <| AQ 5 rfl zh55 (mV (I _) rfl) <| AN.two 3 6 (by kernel_rfl) ?_ ?_
    ·refine AO.read rfl gnone rfl hH55 (sP (sP (sQ sR))) (run_from (hH55.sl (i := 2) rfl) underlying57 sizeOf9 rfl rfl (by omega)) <| A1 6 <| AO.read rfl gnone rfl hH55 (sP (sP (sQ sR))) (run_from (hH55.sl (i := 2) rfl) underlying57 sizeOf9 rfl rfl (by omega)) <| A1 7 <| AO.rowcopy rfl gnone rfl (row_copyF (c := m.length - ((findV (fun q => !lessT (m.getD q.toNat tx0) (l.getD k.toNat tx0)) m.length)).toNat) (o := ((findV (fun q => !lessT (m.getD q.toNat tx0) (l.getD k.toNat tx0)) m.length) + 1).toNat) hH55 (i := 2) rfl (by omega) underlying57 rfl rfl rfl (Sl.fr (hH55.sl (i := 2) rfl) ((findV (fun q => !lessT (m.getD q.toNat tx0) (l.getD k.toNat tx0)) m.length)).toNat (by omega)) (by show min _ _ = _; omega) (by omega) (fun u hu => txs_one (List.mem_of_mem_drop hu))) (fun w' h => h.sub (sP (sP (sQ sR)))) <| fun w62 hH63 => ?_
     simp only [z2] at hH63
     refine AD <| CW.regionS (by kernel_rfl) hH63 (sP (sP (sQ sR))) <| fun w64 hH65 => have zh65 := hH65.sub (sP (sP (sQ sR))); AT 0 rfl zh65 (fun w hS => run_ld underlying57 rfl e3_8 (hS.cell (i := 2) rfl rfl)) <| AQ 1 rfl zh65 (mV (I _) rfl) <| AT 2 rfl zh65 (fun w hS => run_ld underlying57 rfl e1_8 (hS.cell (i := 3) rfl rfl)) <| AT 3 rfl zh65 (fun w hS => run_ld underlying3 rfl rfl (hS.cell (i := 1) rfl (v := I _) rfl)) <| AT 4 rfl zh65 (fun w hS => run_indexAddrS (hs.hp hS) underlying57 sizeOf9 rfl rfl (by omega)) <| AT 5 rfl zh65 (fun w hS => run_ld underlying9 rfl rfl ((hs.hp hS).cell _ _ (txL_at (by omega)))) <| A1 6 <| AO.read rfl gnone rfl hH65 (sP (sP (sQ sR))) (run_indexAddrS (hH65.sl (i := 2) rfl) underlying57 sizeOf9 rfl rfl (by omega)) <| A1 7 <| AO.rowst1 rfl gnone hH65 (i := 2) rfl (fun _ => (sP (sP (sQ sR)))) (by omega) rfl (u := S _) rfl rfl rfl rfl (by omega) <| fun w70 hH71 => ?_
     simp only [z2] at hH71
     refine AD <| CW.region <| V (run_add e8_8 rfl (by omega)) <| mI rfl <| RL.nil <| ?_
     refine ⟨(k + 1, v49, (m.take (findV (fun q => !lessT (m.getD q.toNat tx0) (l.getD k.toNat tx0)) m.length).toNat ++ l.getD k.toNat tx0 :: m.drop (findV (fun q => !lessT (m.getD q.toNat tx0) (l.getD k.toNat tx0)) m.length).toNat)), ?_, fr8.u4.u4.u4.u4.u4.u4.u4.u4.u4.u1.u1.u1, (Hp.conv (hH71.sub (sQ (sQ sR))) (by rw [sort_put (hai ‹_›).1 (hai ‹_›).2]; simp; omega)), (congrArg I (by rfl)), ?_, ?_, ?_, ?_⟩
     ·((try dsimp only); omega)
     ·omega
     ·omega
     ·rw [sort_next h0 ‹k < _›, ← hm]; exact (ins_3 ‹¬ (findV (fun q => !lessT (m.getD q.toNat tx0) (l.getD k.toNat tx0)) m.length) < 0› ‹¬ _ = _›).symm
     ·(simp; omega)
    ·refine AO.read rfl gnone rfl hH55 (sP (sP (sQ sR))) (run_from (hH55.sl (i := 2) rfl) underlying57 sizeOf9 rfl rfl (by omega)) <| A1 3 <| AO.read rfl gnone rfl hH55 (sP (sP (sQ sR))) (run_from (hH55.sl (i := 2) rfl) underlying57 sizeOf9 rfl rfl (by omega)) <| A1 7 <| AO.rowcopy rfl gnone rfl (row_copyF (c := m.length - ((findV (fun q => !lessT (m.getD q.toNat tx0) (l.getD k.toNat tx0)) m.length)).toNat) (o := ((findV (fun q => !lessT (m.getD q.toNat tx0) (l.getD k.toNat tx0)) m.length) + 1).toNat) hH55 (i := 2) rfl (by omega) underlying57 rfl rfl rfl (Sl.fr (hH55.sl (i := 2) rfl) ((findV (fun q => !lessT (m.getD q.toNat tx0) (l.getD k.toNat tx0)) m.length)).toNat (by omega)) (by show min _ _ = _; omega) (by omega) (fun u hu => txs_one (List.mem_of_mem_drop hu))) (fun w' h => h.sub (sP (sP (sQ sR)))) <| fun w78 hH79 => ?_
     simp only [z2] at hH79
     refine AD <| CW.regionS (by kernel_rfl) hH79 (sP (sP (sQ sR))) <| fun w80 hH81 => have zh81 := hH81.sub (sP (sP (sQ sR))); AT 0 rfl zh81 (fun w hS => run_ld underlying57 rfl e3_8 (hS.cell (i := 2) rfl rfl)) <| AQ 1 rfl zh81 (mV (I _) rfl) <| AT 2 rfl zh81 (fun w hS => run_ld underlying57 rfl e1_8 (hS.cell (i := 3) rfl rfl)) <| AT 3 rfl zh81 (fun w hS => run_ld underlying3 rfl rfl (hS.cell (i := 1) rfl (v := I _) rfl)) <| AT 4 rfl zh81 (fun w hS => run_indexAddrS (hs.hp hS) underlying57 sizeOf9 rfl rfl (by omega)) <| AT 5 rfl zh81 (fun w hS => run_ld underlying9 rfl rfl ((hs.hp hS).cell _ _ (txL_at (by omega)))) <| A1 6 <| AO.read rfl gnone rfl hH81 (sP (sP (sQ sR))) (run_indexAddrS (hH81.sl (i := 2) rfl) underlying57 sizeOf9 rfl rfl (by omega)) <| A1 7 <| AO.rowst1 rfl gnone hH81 (i := 2) rfl (fun _ => (sP (sP (sQ sR)))) (by omega) rfl (u := S _) rfl rfl rfl rfl (by omega) <| fun w86 hH87 => ?_
     simp only [z2] at hH87
     refine AD <| CW.region <| V (run_add e8_8 rfl (by omega)) <| mI rfl <| RL.nil <| ?_
     refine ⟨(k + 1, v49, (m.take (findV (fun q => !lessT (m.getD q.toNat tx0) (l.getD k.toNat tx0)) m.length).toNat ++ l.getD k.toNat tx0 :: m.drop (findV (fun q => !lessT (m.getD q.toNat tx0) (l.getD k.toNat tx0)) m.length).toNat)), ?_, fr8.u4.u4.u4.u4.u4.u4.u4.u4.u4.u1.u1.u1, (Hp.conv (hH87.sub (sQ (sQ sR))) (by rw [sort_put (hai ‹_›).1 (hai ‹_›).2]; simp; omega)), (congrArg I (by rfl)), ?_, ?_, ?_, ?_⟩
     ·((try dsimp only); omega)
     ·omega
     ·omega
     ·rw [sort_next h0 ‹k < _›, ← hm]; exact (ins_3 ‹¬ (findV (fun q => !lessT (m.getD q.toNat tx0) (l.getD k.toNat tx0)) m.length) < 0› ‹¬ _ = _›).symm
     ·(simp; omega)
   ·refine CW.skip <| CW.region <| V (run_add e8_8 rfl (by omega)) <| mI rfl <| RL.nil <| ?_
    refine ⟨(k + 1, v0, m), ?_, fr8.u4.u4.u4.u4.u4.u1, (Hp.conv (hH43.sub (sQ sR)) (by rfl)), (congrArg I (by rfl)), ?_, ?_, ?_, ?_⟩
    ·((try dsimp only); omega)
    ·omega
    ·omega
    ·rw [sort_next h0 ‹k < _›, ← hm]; exact (ins_2 ‹¬ (findV (fun q => !lessT (m.getD q.toNat tx0) (l.getD k.toNat tx0)) m.length) < 0› (Decidable.of_not_not ‹¬ ¬ _›)).symm
    ·omega
 ·refine CW.exit (id := 0) rfl <| SR <| V (run_ld underlying57 rfl e3_8 (hH8.cell (i := 1) rfl rfl)) <| ?_
  refine V (run_assign (by conv => lhs; whnf)) ?_
  refine RL.nil <| CW.ret <| outR Tryz.results70 rfl hH8 (i := 0) rfl ((by rw [hm, List.take_of_length_le (by omega)])) ((by rw [hm, List.take_of_length_le (by omega)]))
theorem c_holds_gathered_1 (W0 : World) (L : List Ent) (b c bm : Nat) (kv : List (Tx × El)) (es : Array MapEntry) (ck : Nat) (o : Bool) (f : Tx) (e : El) (is : Bool) (hm : MpIs es ck kv) (w : World) (hH : Hp W0 w (.blk bm (.map es ck) :: .blk c (.cells #[B o] 4 (0, 0)) :: .blk b (.cells #[.map (some bm)] 106 (0, 0)) :: L)) : Calls Tryz.prog 91 #[S f, .agg (elC e), B is, .pointer (some ⟨b, 0, none⟩), .pointer (some ⟨c, 0, none⟩)] w (Ret fun u w' => u = .tuple #[] ∧ ∃ es' ck', MpIs es' ck' (putK kv f e) ∧ Hp W0 w' (.blk bm (.map es' ck') :: .blk c (.cells #[B (o && is && !(lookK kv f).2)] 4 (0, 0)) :: .blk b (.cells #[.map (some bm)] 106 (0, 0)) :: L)) := by
 refine enter Tryz.func91 rfl Tryz.ntmps91 rfl <| SR <| RL.new rfl hH (f := fun b => (.pointer (some ⟨b, 0, none⟩))) (run_box (v := .agg _) rfl) <| fun b4 w2 hH3 => RL.nil <| SR <| V (run_ld underlying106 rfl rfl (hH3.cell (i := 3) rfl rfl)) <| vm (v := .string _) rfl <| V (run_lookup2 underlying106 underlying9 zero_el rfl rfl (hH3.blk (i := 1) rfl) hm) <| ?_
 refine V (run_move (by conv => lhs; whnf)) ?_
 refine V (run_extract rfl (v := .agg _) rfl) <| V (run_extract rfl (v := B _) rfl) <| RL.new rfl hH3 (f := fun b => (.pointer (some ⟨b, 0, none⟩))) (run_alloc zero_el) <| fun b8 w6 hH7 => RL.set hH7 (i := 0) rfl (run_stEl rfl rfl rfl (hH7.blk (i := 0) rfl)) <| fun w9 hH10 => ?_
 simp only [z2] at hH10
 refine aB rfl <| RL.nil <| SR <| V (run_ld underlying4 rfl rfl (hH10.cell (i := 3) rfl (v := B _) rfl)) <| mB rfl <| RL.split (dj := 17) rfl (fun h12 => ?_) (fun h12 => ?_)
 ·refine gT rfl (bR (c := true) h12) <| mB rfl <| V (run_pickT (bR (c := true) h12) (v := B _) rfl) <| mB rfl <| RL.split (dj := 20) rfl (fun h13 => ?_) (fun h13 => ?_)
  ·refine gT rfl (bR (c := true) h13) <| mB rfl <| gT rfl (bR (c := true) h13) <| V (run_not rfl) <| V (run_pickT (bR (c := true) h13) (v := B _) rfl) <| RL.set hH10 (i := 3) rfl (run_st rfl rfl (v := B _) rfl rfl rfl (hH10.blk (i := 3) rfl) (by simp)) <| fun w14 hH15 => ?_
   simp only [z2] at hH15
   refine RL.nil <| CW.region <| V (run_ld underlying106 rfl rfl (hH15.cell (i := 4) rfl rfl)) <| vm (v := .string _) rfl <| V (run_ldEl underlying39 rfl rfl rfl (hH15.blk (i := 1) rfl)) <| RL.mapUp hH15 (i := 2) rfl hm underlying106 underlying9 rfl rfl rfl <| fun w16 es18 ck19 hmp20 hH17 => ?_
   simp only [z2] at hH17
   refine RL.nil <| out0 Tryz.results91 ⟨rfl, es18, ck19, hmp20, Hp.conv (hH17.sub (sQ (sQ sR))) ?_⟩
   (rw [‹o = true›, ‹is = true›]; rfl)
  ·refine gF rfl (bR (c := false) h13) <| gF rfl (bR (c := false) h13) <| V (run_pickF (bR (c := false) h13) (v := B false) rfl) <| RL.set hH10 (i := 3) rfl (run_st rfl rfl (v := B _) rfl rfl rfl (hH10.blk (i := 3) rfl) (by simp)) <| fun w21 hH22 => ?_
   simp only [z2] at hH22
   refine RL.nil <| CW.region <| V (run_ld underlying106 rfl rfl (hH22.cell (i := 4) rfl rfl)) <| vm (v := .string _) rfl <| V (run_ldEl underlying39 rfl rfl rfl (hH22.blk (i := 1) rfl)) <| RL.mapUp hH22 (i := 2) rfl hm underlying106 underlying9 rfl rfl rfl <| fun w23 es25 ck26 hmp27 hH24 => ?_
   simp only [z2] at hH24
   refine RL.nil <| out0 Tryz.results91 ⟨rfl, es25, ck26, hmp27, Hp.conv (hH24.sub (sQ (sQ sR))) ?_⟩
   (rw [‹o = true›, ‹is = false›]; rfl)
 ·refine gF rfl (bR (c := false) h12) <| V (run_pickF (bR (c := false) h12) (v := B false) rfl) <| mB rfl <| gF rfl rfl <| gF rfl rfl <| V (run_pickF rfl (v := B false) rfl) <| RL.set hH10 (i := 3) rfl (run_st rfl rfl (v := B _) rfl rfl rfl (hH10.blk (i := 3) rfl) (by simp)) <| fun w28 hH29 => ?_
  simp only [z2] at hH29
  refine RL.nil <| CW.region <| V (run_ld underlying106 rfl rfl (hH29.cell (i := 4) rfl rfl)) <| vm (v := .string _) rfl <| V (run_ldEl underlying39 rfl rfl rfl (hH29.blk (i := 1) rfl)) <| RL.mapUp hH29 (i := 2) rfl hm underlying106 underlying9 rfl rfl rfl <| fun w30 es32 ck33 hmp34 hH31 => ?_
  simp only [z2] at hH31
  refine RL.nil <| out0 Tryz.results91 ⟨rfl, es32, ck33, hmp34, Hp.conv (hH31.sub (sQ (sQ sR))) ?_⟩
  (rw [‹o = false›]; rfl)
theorem c_holds_gathered (r : RowR) (a : Asg) (w : World) (hr : RowV (Kw w) r) (ha : AsgV (Kw w) a) : Calls Tryz.prog 69 #[.agg (rtmL r).toArray, .agg (asgL a).toArray] w (Ret fun u w' => ∃ (bm : Nat) (es : Array MapEntry) (ck : Nat) (kv : List (Tx × El)) (o : Bool), u = .tuple #[.map (some bm), B o] ∧ (o = (allOk a.as r && onceV (allV a.as r)) ∧ (o = true → kv = (allV a.as r).map pairV)) ∧ MpIs es ck kv ∧ Hp w w' [.blk bm (.map es ck)]) := by
 have hm1 := ha.labels.small
 have hm2 := ha.rows.small
 have hm3 := hr.fields.small
 unfold maxLen at hm1 hm2 hm3
 refine enter Tryz.func69 rfl Tryz.ntmps69 rfl <| have hH := Hp.start w; SR <| RL.new rfl hH (f := fun b => (.pointer (some ⟨b, 0, none⟩))) (run_box (v := .agg _) rfl) <| fun b3 w1 hH2 => RL.new rfl hH2 (f := fun b => (.pointer (some ⟨b, 0, none⟩))) (run_box (v := .agg _) rfl) <| fun b6 w4 hH5 => va (v := .map none) rfl <| va (v := B false) rfl <| RL.nil <| SR <| RL.new rfl hH5 (f := fun b => .map (some b)) run_makeMap <| fun b7 w8 hH9 => RL.new rfl hH9 (f := fun b => (.pointer (some ⟨b, 0, none⟩))) (run_alloc Tryz.zeroValue106) <| fun b12 w10 hH11 => ?_
 refine RL.set hH11 (i := 0) rfl (run_st rfl rfl (by conv => lhs; whnf) rfl rfl (hH11.blk (i := 0) rfl) (by decide)) ?_
 intro w13 hH14
 simp only [z2] at hH14
 refine RL.nil <| SR <| V (fA underlying44 1 rfl sizeOf3 rfl) <| V (run_ld underlying3 rfl rfl (hH14.cell (i := 3) rfl (v := I _) rfl)) <| V (fA underlying32 1 rfl sizeOf30 rfl) <| V (run_ldV (ha.rows.sl.hp hH14) underlying30 rfl rfl (hH14.cell (i := 2) rfl rfl)) <| V (run_lenSl (ha.rows.sl.hp hH14) rfl underlying30 rfl) <| V (run_lss rfl rfl) <| RL.new rfl hH14 (f := fun b => (.pointer (some ⟨b, 0, none⟩))) (run_alloc Tryz.zeroValue4) <| fun b18 w16 hH17 => RL.set hH17 (i := 0) rfl (run_st rfl rfl (v := B _) rfl rfl rfl (hH17.blk (i := 0) rfl) (by decide)) <| fun w19 hH20 => ?_
 simp only [z2] at hH20
 refine RL.nil <| SR <| ?_
 refine V (run_mkF2 (by conv => lhs; whnf) (by conv => lhs; whnf)) ?_
 refine va (v := .func _ _ _) rfl <| RL.nil <| CW.seq <| SR <| V (run_ld underlying4 rfl rfl (hH20.cell (i := 0) rfl (v := B _) rfl)) <| mB rfl <| RL.splitP (dj := 24) rfl (fun h23 => ?_) (fun h23 => ?_)
 ·refine gT rfl (bT h23) <| V (fA underlying44 1 rfl sizeOf3 rfl) <| gT rfl (bT h23) <| V (run_ld underlying3 rfl rfl (hH20.cell (i := 4) rfl (v := I _) rfl)) <| gT rfl (bT h23) <| V (run_geq rfl rfl) <| V (run_pickT (bT h23) (v := B _) rfl) <| RL.nil <| CW.condP rfl (fun h25 => ?_) (fun h25 => ?_)
  ·refine SR <| V (fA underlying32 1 rfl sizeOf30 rfl) <| V (run_ldV (ha.rows.sl.hp hH20) underlying30 rfl rfl (hH20.cell (i := 3) rfl rfl)) <| V (fA underlying44 1 rfl sizeOf3 rfl) <| V (run_ld underlying3 rfl rfl (hH20.cell (i := 4) rfl (v := I _) rfl)) <| V (run_indexAddrS (ha.rows.sl.hp hH20) underlying30 sizeOf54 rfl rfl (by omega)) <| V (run_ld underlying54 rfl rfl ((ha.rows.sl.hp hH20).cell _ _ (rowsC_at (by omega)))) <| V (run_lenSl ((ha.at (by omega) (by omega)).sl.hp hH20) rfl underlying54 rfl) <| vm (v := I 0) rfl <| RL.nil <| CW.block <| have hm4 := (ha.at (show 0 ≤ r.tail by omega) (by omega)).small; ?_
   unfold maxLen at hm4
   refine CW.loop (G := Int × (Array MapEntry) × Nat × (List (Tx × El)) × Bool) (fun ⟨k, es, ck, kv, o⟩ s' w' => (Fr (10 :: (rg 36 11 [])) _ s') ∧ (Hp w w' (.blk b18 (.cells (#[B o]) 4 (0, 0)) :: _ :: .blk b7 (.map es ck) :: _)) ∧ (s' 36 = I k) ∧ (0 ≤ k) ∧ (k ≤ (a.rows.getD r.tail.toNat vr0).l.length) ∧ (MpIs es ck kv) ∧ (GSt ((a.rows.getD r.tail.toNat vr0).l.take k.toNat) true o kv)) (fun ⟨k, es, ck, kv, o⟩ => ((a.rows.getD r.tail.toNat vr0).l.length - k).toNat) ((0, #[], 0, [], (decide (r.tail < (a.rows.length : Int))))) ⟨Fr.refl _ _, hH20, rfl, (by omega), (by omega), mp_nil, (by rw [decide_eq_true (show r.tail < (a.rows.length : Int) by omega)]; exact gst_0 true)⟩ ?_
   rintro ⟨k, es, ck, kv, o⟩ sg26 w26 ⟨fr26, hH26, e36_26, h0, hk, hmp, hg⟩
   have e2_26 := fr26.pp 2 rfl rfl
   have e3_26 := fr26.pp 3 rfl rfl
   have e4_26 := (fr26 4 rfl).trans (by conv => lhs; whnf)
   have e5_26 := fr26.bb 5 rfl rfl
   have e6_26 := fr26.pp 6 rfl rfl
   have e7_26 := fr26.pp 7 rfl rfl
   have e8_26 := fr26.vv 8 (a := .func _ _ _) rfl rfl
   have e34_26 := (fr26 34 rfl).trans (by conv => lhs; whnf)
   have e35_26 := fr26.ii 35 rfl rfl
   refine SR <| V (run_lss e36_26 e35_26) <| RL.nil <| CW.seq <| CW.condP rfl (fun h28 => ?_) (fun h28 => ?_)
   ·refine CW.skip <| CW.seq <| CW.block <| SR <| V (run_indexAddrS ((ha.at (by omega) (by omega)).sl.hp hH26) underlying54 sizeOf56 e34_26 e36_26 (by omega)) <| V (run_ldE (dv := val0) valL_len ((ha.at (by omega) (by omega)).sl.hp hH26) underlying56 rfl rfl rfl (by omega)) <| RL.new rfl hH26 (f := fun b => (.pointer (some ⟨b, 0, none⟩))) (run_alloc zero_val) <| fun b31 w29 hH30 => RL.set hH30 (i := 0) rfl (run_stW (c' := (valL _).toArray) rfl rfl rfl (valL_one _) (hH30.blk (i := 0) rfl) rfl) <| fun w32 hH33 => ?_
    simp only [z2] at hH33
    refine RL.nil <| CW.region <| vm e8_26 <| V (fA underlying56 0 rfl sizeOf9 rfl) <| V (run_ld underlying9 rfl rfl (hH33.cell (i := 0) rfl (v := .string _) rfl)) <| V (fA underlying56 1 rfl sizeOf39 rfl) <| V (run_ldVB underlying39 rfl rfl rfl (hH33.blk (i := 0) rfl)) <| RL.callT rfl (c_holds_gathered_1 _ _ b12 b18 b7 kv es ck o _ _ _ hmp _ (hH33.perm (((pC ((pC ((pC pR).trans pS)).trans pS)).trans pS).trans (pC (((pC pR).trans pS).trans (pC (((pC pR).trans pS).trans (pC pR)))))))) (run_callC3 call91 (cs := [.pointer (some ⟨b12, 0, none⟩), .pointer (some ⟨b18, 0, none⟩)]) rfl rfl rfl (show _ = B true from rfl)) <| ?_
    rintro _ w36 ⟨rfl, es38, ck39, hmp40, hH37⟩
    have hH41 := hH37.perm (((pC ((pC ((pC pR).trans pS)).trans pS)).trans pS).trans (pC (((pC pR).trans pS).trans (pC (((pC pR).trans pS).trans (pC pR))))))
    refine RL.nil <| CW.region <| V (run_add e36_26 rfl (by omega)) <| mI rfl <| RL.nil <| ?_
    refine ⟨(k + 1, es38, ck39, (putK kv ((a.rows.getD r.tail.toNat vr0).l.getD k.toNat val0).name ((a.rows.getD r.tail.toNat vr0).l.getD k.toNat val0).el), (o && true && !(lookK kv ((a.rows.getD r.tail.toNat vr0).l.getD k.toNat val0).name).2)), ?_, fr26.u4.u4.u4, (Hp.conv (hH41.sub (sQ sR)) (by rfl)), (congrArg I (by rfl)), ?_, ?_, ?_, ?_⟩
    ·((try dsimp only); omega)
    ·omega
    ·omega
    ·exact hmp40
    ·rw [take_snoc (d := val0) h0 ‹k < _›]; exact gst_next hg
   ·refine CW.exit (id := 0) rfl <| CW.seq <| SR <| V (fA underlying44 0 rfl sizeOf42 e2_26) <| V (run_ldV (hr.fields.sl.hp hH26) underlying42 rfl rfl (hH26.cell (i := 4) rfl rfl)) <| V (run_lenSl (hr.fields.sl.hp hH26) rfl underlying42 rfl) <| vm (v := I 0) rfl <| RL.nil <| CW.block <| CW.loop (G := Int × (Array MapEntry) × Nat × (List (Tx × El)) × Bool) (fun ⟨j, es, ck, kv, o⟩ s' w' => (Fr (rg 12 3 (rg 50 18 [])) _ s') ∧ (Hp w w' (.blk b18 (.cells (#[B o]) 4 (0, 0)) :: _ :: .blk b7 (.map es ck) :: _)) ∧ (s' 50 = I j) ∧ (0 ≤ j) ∧ (j ≤ r.fields.length) ∧ (MpIs es ck kv) ∧ (GSt (preV a.as r ++ (r.fields.take j.toNat).map (valF a.as)) (decide (r.tail < (a.as.rows.length : Int)) && (r.fields.take j.toNat).all fun f => (atomF a.as f.at_).2) o kv)) (fun ⟨j, es, ck, kv, o⟩ => (r.fields.length - j).toNat) ((0, es, ck, kv, o)) ⟨Fr.refl _ _, hH26, rfl, (by omega), (by omega), hmp, (by exact gst_i1 hg (pre_1a (by omega) (by omega) ‹¬ k < _›) (by omega))⟩ <| ?_
    rintro ⟨j, es, ck, kv, o⟩ sg42 w42 ⟨fr42, hH42, e50_42, j0, jk, hmp, hg⟩
    have e3_42 := (fr42 3 rfl).trans e3_26
    have e6_42 := (fr42 6 rfl).trans e6_26
    have e7_42 := (fr42 7 rfl).trans e7_26
    have e8_42 := (fr42 8 rfl).trans e8_26
    have e48_42 := (fr42 48 rfl).trans (by conv => lhs; whnf)
    have e49_42 := fr42.ii 49 rfl rfl
    refine SR <| V (run_lss e50_42 e49_42) <| RL.nil <| CW.seq <| CW.condP rfl (fun h44 => ?_) (fun h44 => ?_)
    ·refine CW.skip <| CW.seq <| CW.block <| SR <| V (run_indexAddrS (hr.fields.sl.hp hH42) underlying42 sizeOf71 e48_42 e50_42 (by omega)) <| V (run_ldE (dv := field0) fieldL_len (hr.fields.sl.hp hH42) underlying71 rfl rfl rfl (by omega)) <| RL.new rfl hH42 (f := fun b => (.pointer (some ⟨b, 0, none⟩))) (run_alloc zero_field) <| fun b47 w45 hH46 => RL.set hH46 (i := 0) rfl (run_stW (c' := (fieldL _).toArray) rfl rfl rfl (fieldL_one _) (hH46.blk (i := 0) rfl) rfl) <| fun w48 hH49 => ?_
     simp only [z2] at hH49
     refine RL.nil <| SR <| V (fA underlying71 1 rfl sizeOf41 rfl) <| V (run_ldSub (sub := atomL _) underlying41 rfl rfl rfl (hH49.blk (i := 0) rfl) (field_atB _)) <| V (run_ldA (cs := asgL _) underlying32 rfl rfl e3_42 (rangeAt_cells (hH49.blk (i := 4) rfl))) <| RL.callP rfl hH49 (c_holds_atom _ _  _ (ha.mono hH49.kw)) (run_call2 call23 rfl rfl) <| fun w50 hH51 => ?_
     refine V (run_move (by conv => lhs; whnf)) ?_
     refine V (run_extract rfl (v := .agg _) rfl) <| V (run_extract rfl (v := B _) rfl) <| RL.new rfl hH51 (f := fun b => (.pointer (some ⟨b, 0, none⟩))) (run_alloc zero_el) <| fun b55 w53 hH54 => RL.set hH54 (i := 0) rfl (run_stEl rfl rfl rfl (hH54.blk (i := 0) rfl)) <| fun w56 hH57 => ?_
     simp only [z2] at hH57
     refine aB rfl <| RL.nil <| CW.region <| vm e8_42 <| V (fA underlying71 0 rfl sizeOf9 rfl) <| V (run_ld underlying9 rfl rfl (hH57.cell (i := 1) rfl (v := .string _) rfl)) <| V (run_ldEl underlying39 rfl rfl rfl (hH57.blk (i := 0) rfl)) <| mB rfl <| RL.callT rfl (c_holds_gathered_1 _ _ b12 b18 b7 kv es ck o _ _ _ hmp _ (hH57.perm (((pC ((pC ((pC ((pC pR).trans pS)).trans pS)).trans pS)).trans pS).trans (pC (((pC ((pC pR).trans pS)).trans pS).trans (pC (((pC ((pC pR).trans pS)).trans pS).trans (pC pR)))))))) (run_callC3 call91 (cs := [.pointer (some ⟨b12, 0, none⟩), .pointer (some ⟨b18, 0, none⟩)]) rfl rfl rfl rfl) <| ?_
     rintro _ w60 ⟨rfl, es62, ck63, hmp64, hH61⟩
     have hH65 := hH61.perm (((pC ((pC ((pC pR).trans pS)).trans pS)).trans pS).trans (pC (((pC ((pC ((pC pR).trans pS)).trans pS)).trans pS).trans (pC (((pC pR).trans pS).trans (pC (((pC pR).trans pS).trans (pC pR))))))))
     refine RL.nil <| CW.region <| V (run_add e50_42 rfl (by omega)) <| mI rfl <| RL.nil <| ?_
     refine ⟨(j + 1, es62, ck63, (putK kv (r.fields.getD j.toNat field0).name (atomF a.as (r.fields.getD j.toNat field0).at_).1), (o && (atomF a.as (r.fields.getD j.toNat field0).at_).2 && !(lookK kv (r.fields.getD j.toNat field0).name).2)), ?_, fr42.u4.u4.u4.u4.u4.u1, (Hp.conv (hH65.sub (sQ (sQ sR))) (by rfl)), (congrArg I (by rfl)), ?_, ?_, ?_, ?_⟩
     ·((try dsimp only); omega)
     ·omega
     ·omega
     ·exact hmp64
     ·rw [take_snoc (d := field0) j0 ‹j < _›, List.map_append, ← List.append_assoc, all_snoc, ← Bool.and_assoc]; exact gst_next hg
    ·refine CW.exit (id := 2) rfl <| CW.seq <| CW.regionD (by kernel_rfl) hH42 <| fun w66 hH67 => have zh67 := hH67.sub sR; AT 0 rfl zh67 (fun w hS => run_ld underlying106 rfl e6_42 (hS.cell (i := 1) rfl rfl)) <| AT 1 rfl zh67 (fun w hS => run_ld underlying4 rfl e7_42 (hS.cell (i := 0) rfl (v := B _) rfl)) <| ?_
     refine AQ 2 rfl zh67 (run_assign (by conv => lhs; whnf)) ?_
     refine AQ 3 rfl zh67 (aV (B _) rfl) <| AD <| CW.ret <| out2 Tryz.results69 rfl rfl ⟨b7, es, ck, kv, o, rfl, gst_end (by show ¬ j < (r.fields.length : Int); omega) hg, hmp, (hH67.perm (((pC ((pC pR).trans pS)).trans pS).trans (pC pR))).sub (sP (sQ (sQ (sQ (sQ sR)))))⟩
  ·refine CW.skip <| CW.seq <| SR <| V (fA underlying44 0 rfl sizeOf42 rfl) <| V (run_ldV (hr.fields.sl.hp hH20) underlying42 rfl rfl (hH20.cell (i := 4) rfl rfl)) <| V (run_lenSl (hr.fields.sl.hp hH20) rfl underlying42 rfl) <| vm (v := I 0) rfl <| RL.nil <| CW.block <| CW.loop (G := Int × (Array MapEntry) × Nat × (List (Tx × El)) × Bool) (fun ⟨j, es, ck, kv, o⟩ s' w' => (Fr (rg 12 3 (rg 50 18 [])) _ s') ∧ (Hp w w' (.blk b18 (.cells (#[B o]) 4 (0, 0)) :: _ :: .blk b7 (.map es ck) :: _)) ∧ (s' 50 = I j) ∧ (0 ≤ j) ∧ (j ≤ r.fields.length) ∧ (MpIs es ck kv) ∧ (GSt (preV a.as r ++ (r.fields.take j.toNat).map (valF a.as)) (decide (r.tail < (a.as.rows.length : Int)) && (r.fields.take j.toNat).all fun f => (atomF a.as f.at_).2) o kv)) (fun ⟨j, es, ck, kv, o⟩ => (r.fields.length - j).toNat) ((0, #[], 0, [], (decide (r.tail < (a.rows.length : Int))))) ⟨Fr.refl _ _, hH20, rfl, (by omega), (by omega), mp_nil, (by exact gst_i2 (pre_3 (by omega)))⟩ <| ?_
   rintro ⟨j, es, ck, kv, o⟩ sg69 w69 ⟨fr69, hH69, e50_69, j0, jk, hmp, hg⟩
   have e3_69 := fr69.pp 3 rfl rfl
   have e6_69 := fr69.pp 6 rfl rfl
   have e7_69 := fr69.pp 7 rfl rfl
   have e8_69 := fr69.vv 8 (a := .func _ _ _) rfl rfl
   have e48_69 := (fr69 48 rfl).trans (by conv => lhs; whnf)
   have e49_69 := fr69.ii 49 rfl rfl
   refine SR <| V (run_lss e50_69 e49_69) <| RL.nil <| CW.seq <| CW.condP rfl (fun h71 => ?_) (fun h71 => ?_)
   ·refine CW.skip <| CW.seq <| CW.block <| SR <| V (run_indexAddrS (hr.fields.sl.hp hH69) underlying42 sizeOf71 e48_69 e50_69 (by omega)) <| V (run_ldE (dv := field0) fieldL_len (hr.fields.sl.hp hH69) underlying71 rfl rfl rfl (by omega)) <| RL.new rfl hH69 (f := fun b => (.pointer (some ⟨b, 0, none⟩))) (run_alloc zero_field) <| fun b74 w72 hH73 => RL.set hH73 (i := 0) rfl (run_stW (c' := (fieldL _).toArray) rfl rfl rfl (fieldL_one _) (hH73.blk (i := 0) rfl) rfl) <| fun w75 hH76 => ?_
    simp only [z2] at hH76
    refine RL.nil <| SR <| V (fA underlying71 1 rfl sizeOf41 rfl) <| V (run_ldSub (sub := atomL _) underlying41 rfl rfl rfl (hH76.blk (i := 0) rfl) (field_atB _)) <| V (run_ldA (cs := asgL _) underlying32 rfl rfl e3_69 (rangeAt_cells (hH76.blk (i := 4) rfl))) <| RL.callP rfl hH76 (c_holds_atom _ _  _ (ha.mono hH76.kw)) (run_call2 call23 rfl rfl) <| fun w77 hH78 => ?_
    refine V (run_move (by conv => lhs; whnf)) ?_
    refine V (run_extract rfl (v := .agg _) rfl) <| V (run_extract rfl (v := B _) rfl) <| RL.new rfl hH78 (f := fun b => (.pointer (some ⟨b, 0, none⟩))) (run_alloc zero_el) <| fun b82 w80 hH81 => RL.set hH81 (i := 0) rfl (run_stEl rfl rfl rfl (hH81.blk (i := 0) rfl)) <| fun w83 hH84 => ?_
    simp only [z2] at hH84
    refine aB rfl <| RL.nil <| CW.region <| vm e8_69 <| V (fA underlying71 0 rfl sizeOf9 rfl) <| V (run_ld underlying9 rfl rfl (hH84.cell (i := 1) rfl (v := .string _) rfl)) <| V (run_ldEl underlying39 rfl rfl rfl (hH84.blk (i := 0) rfl)) <| mB rfl <| RL.callT rfl (c_holds_gathered_1 _ _ b12 b18 b7 kv es ck o _ _ _ hmp _ (hH84.perm (((pC ((pC ((pC ((pC pR).trans pS)).trans pS)).trans pS)).trans pS).trans (pC (((pC ((pC pR).trans pS)).trans pS).trans (pC (((pC ((pC pR).trans pS)).trans pS).trans (pC pR)))))))) (run_callC3 call91 (cs := [.pointer (some ⟨b12, 0, none⟩), .pointer (some ⟨b18, 0, none⟩)]) rfl rfl rfl rfl) <| ?_
    rintro _ w87 ⟨rfl, es89, ck90, hmp91, hH88⟩
    have hH92 := hH88.perm (((pC ((pC ((pC pR).trans pS)).trans pS)).trans pS).trans (pC (((pC ((pC ((pC pR).trans pS)).trans pS)).trans pS).trans (pC (((pC pR).trans pS).trans (pC (((pC pR).trans pS).trans (pC pR))))))))
    refine RL.nil <| CW.region <| V (run_add e50_69 rfl (by omega)) <| mI rfl <| RL.nil <| ?_
    refine ⟨(j + 1, es89, ck90, (putK kv (r.fields.getD j.toNat field0).name (atomF a.as (r.fields.getD j.toNat field0).at_).1), (o && (atomF a.as (r.fields.getD j.toNat field0).at_).2 && !(lookK kv (r.fields.getD j.toNat field0).name).2)), ?_, fr69.u4.u4.u4.u4.u4.u1, (Hp.conv (hH92.sub (sQ (sQ sR))) (by rfl)), (congrArg I (by rfl)), ?_, ?_, ?_, ?_⟩
    ·((try dsimp only); omega)
    ·omega
    ·omega
    ·exact hmp91
    ·rw [take_snoc (d := field0) j0 ‹j < _›, List.map_append, ← List.append_assoc, all_snoc, ← Bool.and_assoc]; exact gst_next hg
   ·refine CW.exit (id := 2) rfl <| CW.seq <| CW.regionD (by kernel_rfl) hH69 <| fun w93 hH94 => have zh94 := hH94.sub sR; AT 0 rfl zh94 (fun w hS => run_ld underlying106 rfl e6_69 (hS.cell (i := 1) rfl rfl)) <| AT 1 rfl zh94 (fun w hS => run_ld underlying4 rfl e7_69 (hS.cell (i := 0) rfl (v := B _) rfl)) <| ?_
    refine AQ 2 rfl zh94 (run_assign (by conv => lhs; whnf)) ?_
    refine AQ 3 rfl zh94 (aV (B _) rfl) <| AD <| CW.ret <| out2 Tryz.results69 rfl rfl ⟨b7, es, ck, kv, o, rfl, gst_end (by show ¬ j < (r.fields.length : Int); omega) hg, hmp, (hH94.perm (((pC ((pC pR).trans pS)).trans pS).trans (pC pR))).sub (sP (sQ (sQ (sQ (sQ sR)))))⟩
 ·refine gF rfl (bF h23) <| gF rfl (bF h23) <| gF rfl (bF h23) <| V (run_pickF (bF h23) (v := B false) rfl) <| RL.nil <| CW.condF rfl <| CW.skip <| CW.seq <| SR <| V (fA underlying44 0 rfl sizeOf42 rfl) <| V (run_ldV (hr.fields.sl.hp hH20) underlying42 rfl rfl (hH20.cell (i := 4) rfl rfl)) <| V (run_lenSl (hr.fields.sl.hp hH20) rfl underlying42 rfl) <| vm (v := I 0) rfl <| RL.nil <| CW.block <| CW.loop (G := Int × (Array MapEntry) × Nat × (List (Tx × El)) × Bool) (fun ⟨j, es, ck, kv, o⟩ s' w' => (Fr (rg 12 3 (rg 50 18 [])) _ s') ∧ (Hp w w' (.blk b18 (.cells (#[B o]) 4 (0, 0)) :: _ :: .blk b7 (.map es ck) :: _)) ∧ (s' 50 = I j) ∧ (0 ≤ j) ∧ (j ≤ r.fields.length) ∧ (MpIs es ck kv) ∧ (GSt (preV a.as r ++ (r.fields.take j.toNat).map (valF a.as)) (decide (r.tail < (a.as.rows.length : Int)) && (r.fields.take j.toNat).all fun f => (atomF a.as f.at_).2) o kv)) (fun ⟨j, es, ck, kv, o⟩ => (r.fields.length - j).toNat) ((0, #[], 0, [], (decide (r.tail < (a.rows.length : Int))))) ⟨Fr.refl _ _, hH20, rfl, (by omega), (by omega), mp_nil, (by exact gst_i2 (pre_2a (by omega)))⟩ <| ?_
  rintro ⟨j, es, ck, kv, o⟩ sg96 w96 ⟨fr96, hH96, e50_96, j0, jk, hmp, hg⟩
  have e3_96 := fr96.pp 3 rfl rfl
  have e6_96 := fr96.pp 6 rfl rfl
  have e7_96 := fr96.pp 7 rfl rfl
  have e8_96 := fr96.vv 8 (a := .func _ _ _) rfl rfl
  have e48_96 := (fr96 48 rfl).trans (by conv => lhs; whnf)
  have e49_96 := fr96.ii 49 rfl rfl
  refine SR <| V (run_lss e50_96 e49_96) <| RL.nil <| CW.seq <| CW.condP rfl (fun h98 => ?_) (fun h98 => ?_)
  ·refine CW.skip <| CW.seq <| CW.block <| SR <| V (run_indexAddrS (hr.fields.sl.hp hH96) underlying42 sizeOf71 e48_96 e50_96 (by omega)) <| V (run_ldE (dv := field0) fieldL_len (hr.fields.sl.hp hH96) underlying71 rfl rfl rfl (by omega)) <| RL.new rfl hH96 (f := fun b => (.pointer (some ⟨b, 0, none⟩))) (run_alloc zero_field) <| fun b101 w99 hH100 => RL.set hH100 (i := 0) rfl (run_stW (c' := (fieldL _).toArray) rfl rfl rfl (fieldL_one _) (hH100.blk (i := 0) rfl) rfl) <| fun w102 hH103 => ?_
   simp only [z2] at hH103
   refine RL.nil <| SR <| V (fA underlying71 1 rfl sizeOf41 rfl) <| V (run_ldSub (sub := atomL _) underlying41 rfl rfl rfl (hH103.blk (i := 0) rfl) (field_atB _)) <| V (run_ldA (cs := asgL _) underlying32 rfl rfl e3_96 (rangeAt_cells (hH103.blk (i := 4) rfl))) <| RL.callP rfl hH103 (c_holds_atom _ _  _ (ha.mono hH103.kw)) (run_call2 call23 rfl rfl) <| fun w104 hH105 => ?_
   refine V (run_move (by conv => lhs; whnf)) ?_
   refine V (run_extract rfl (v := .agg _) rfl) <| V (run_extract rfl (v := B _) rfl) <| RL.new rfl hH105 (f := fun b => (.pointer (some ⟨b, 0, none⟩))) (run_alloc zero_el) <| fun b109 w107 hH108 => RL.set hH108 (i := 0) rfl (run_stEl rfl rfl rfl (hH108.blk (i := 0) rfl)) <| fun w110 hH111 => ?_
   simp only [z2] at hH111
   refine aB rfl <| RL.nil <| CW.region <| vm e8_96 <| V (fA underlying71 0 rfl sizeOf9 rfl) <| V (run_ld underlying9 rfl rfl (hH111.cell (i := 1) rfl (v := .string _) rfl)) <| V (run_ldEl underlying39 rfl rfl rfl (hH111.blk (i := 0) rfl)) <| mB rfl <| RL.callT rfl (c_holds_gathered_1 _ _ b12 b18 b7 kv es ck o _ _ _ hmp _ (hH111.perm (((pC ((pC ((pC ((pC pR).trans pS)).trans pS)).trans pS)).trans pS).trans (pC (((pC ((pC pR).trans pS)).trans pS).trans (pC (((pC ((pC pR).trans pS)).trans pS).trans (pC pR)))))))) (run_callC3 call91 (cs := [.pointer (some ⟨b12, 0, none⟩), .pointer (some ⟨b18, 0, none⟩)]) rfl rfl rfl rfl) <| ?_
   rintro _ w114 ⟨rfl, es116, ck117, hmp118, hH115⟩
   have hH119 := hH115.perm (((pC ((pC ((pC pR).trans pS)).trans pS)).trans pS).trans (pC (((pC ((pC ((pC pR).trans pS)).trans pS)).trans pS).trans (pC (((pC pR).trans pS).trans (pC (((pC pR).trans pS).trans (pC pR))))))))
   refine RL.nil <| CW.region <| V (run_add e50_96 rfl (by omega)) <| mI rfl <| RL.nil <| ?_
   refine ⟨(j + 1, es116, ck117, (putK kv (r.fields.getD j.toNat field0).name (atomF a.as (r.fields.getD j.toNat field0).at_).1), (o && (atomF a.as (r.fields.getD j.toNat field0).at_).2 && !(lookK kv (r.fields.getD j.toNat field0).name).2)), ?_, fr96.u4.u4.u4.u4.u4.u1, (Hp.conv (hH119.sub (sQ (sQ sR))) (by rfl)), (congrArg I (by rfl)), ?_, ?_, ?_, ?_⟩
   ·((try dsimp only); omega)
   ·omega
   ·omega
   ·exact hmp118
   ·rw [take_snoc (d := field0) j0 ‹j < _›, List.map_append, ← List.append_assoc, all_snoc, ← Bool.and_assoc]; exact gst_next hg
  ·refine CW.exit (id := 2) rfl <| CW.seq <| CW.regionD (by kernel_rfl) hH96 <| fun w120 hH121 => have zh121 := hH121.sub sR; AT 0 rfl zh121 (fun w hS => run_ld underlying106 rfl e6_96 (hS.cell (i := 1) rfl rfl)) <| AT 1 rfl zh121 (fun w hS => run_ld underlying4 rfl e7_96 (hS.cell (i := 0) rfl (v := B _) rfl)) <| ?_
   refine AQ 2 rfl zh121 (run_assign (by conv => lhs; whnf)) ?_
   refine AQ 3 rfl zh121 (aV (B _) rfl) <| AD <| CW.ret <| out2 Tryz.results69 rfl rfl ⟨b7, es, ck, kv, o, rfl, gst_end (by show ¬ j < (r.fields.length : Int); omega) hg, hmp, (hH121.perm (((pC ((pC pR).trans pS)).trans pS).trans (pC pR))).sub (sP (sQ (sQ (sQ (sQ sR)))))⟩
set_option maxHeartbeats 1000000 in
theorem c_holds_Row (K : Vu) (r : RowR) (a : Asg) (hrl : ∀ x ∈ a.rows, x.l.length ≤ 1000) (hfl : r.fields.length ≤ 1000) (w : World) (hK : Le K (Kw w)) (hr : RowV K r) (ha : AsgV K a) : Calls Tryz.prog 43 #[.agg (rtmL r).toArray, .agg (asgL a).toArray] w (PureF K (fun K' u => ∃ v' : Value, u = .tuple #[v', B (rowM a.as r).2] ∧ SlV K' v' 9 (rowM a.as r).1.length ((rowM a.as r).1.flatMap valL)) w) := by
 have hm1 := ha.labels.small
 have hm2 := ha.rows.small
 have hm3 := hr.fields.small
 unfold maxLen at hm1 hm2 hm3
 refine enter Tryz.func43 rfl Tryz.ntmps43 rfl <| have hH := Hp.start w; SR <| RL.new rfl hH (f := fun b => (.pointer (some ⟨b, 0, none⟩))) (run_box (v := .agg _) rfl) <| fun b3 w1 hH2 => RL.new rfl hH2 (f := fun b => (.pointer (some ⟨b, 0, none⟩))) (run_box (v := .agg _) rfl) <| fun b6 w4 hH5 => va (v := .slice none 0 0) rfl <| va (v := B false) rfl <| RL.nil <| SR <| V (run_ldA (cs := rtmL _) underlying44 rfl rfl rfl (rangeAt_cells (hH5.blk (i := 1) rfl))) <| V (run_ldA (cs := asgL _) underlying32 rfl rfl rfl (rangeAt_cells (hH5.blk (i := 0) rfl))) <| RL.callT rfl (c_holds_gathered _ _  _ ((hr.mono hK).mono hH5.kw) ((ha.mono hK).mono hH5.kw)) (run_call2 call69 rfl rfl) <| ?_
 rintro _ w9 ⟨bm11, es12, ck13, kv14, o15, rfl, hgk16, hmp17, hz18⟩
 have hH19 := Hp.callZ hH5 hz18
 simp only [List.cons_append, List.nil_append] at hH19
 refine V (run_move (by conv => lhs; whnf)) ?_
 refine V (run_extract rfl rfl) <| V (run_extract rfl (v := B _) rfl) <| ?_
 refine V (run_assign (by conv => lhs; whnf)) ?_
 refine aB rfl <| RL.nil <| CW.seq <| SR <| mB rfl <| V (run_not rfl) <| RL.nil <| CW.cond rfl (fun h22 => ?_) (fun h22 => ?_)
 ·refine SR <| va (v := .slice none 0 0) rfl <| va (v := B false) rfl <| RL.nil <| CW.ret <| have hrm := rw_no (a := a.as) (t := r) (by rw [← hgk16.1]; exact nt ‹(!o15) = true›); out2 Tryz.results43 (x := .slice none 0 0) (y := B false) rfl rfl ⟨[], (hH19.sub (sQ (sQ (sQ sR)))), .slice none 0 0, ?_, ?_⟩
  ·rw [hrm]
  ·rw [hrm]; exact SlV.nil _ _
 ·refine CW.skip <| SR <| va (v := .slice none 0 0) rfl <| have hH23 := hH19.nilRow 9 1; RL.nil <| CW.seq <| SR <| ?_
  refine V (run_move (by conv => lhs; whnf)) ?_
  refine RL.new rfl hH23 (f := fun b => .pointer (some ⟨b, 0, none⟩)) (run_range underlying106 rfl (hH23.blk (i := 1) rfl)) <| fun b24 w25 hH26 => RL.nil <| CW.block <| have hes : es12.size ≤ 2000 := (by rw [hmp17.size, hgk16.2 (nf ‹(!o15) = false›), List.length_map]; exact allV_len hrl hfl); CW.loop (G := (Array Nat) × Nat × (List Tx) × Value) (fun ⟨seen, c0, ns, v8⟩ s' w' => (Fr (8 :: 9 :: (rg 23 8 [])) _ s') ∧ (Hp w w' (.blk b24 (.mapIter (some bm11) ck13 seen c0) :: .row v8 9 1 (ns.length) (txL ns) :: _)) ∧ (s' 8 = v8) ∧ (ck13 ≤ c0) ∧ (Seen es12 kv14 seen ns)) (fun ⟨seen, c0, ns, v8⟩ => (leftOf es12 seen).size) ((#[], ck13, [], (.slice none 0 0 : Value))) ⟨Fr.refl _ _, hH26, rfl, Nat.le_refl _, seen_0⟩ <| ?_
  rintro ⟨seen, c0, ns, v8⟩ sg27 w27 ⟨fr27, hH27, e8_27, hc, hse⟩
  have e4_27 := (fr27 4 rfl).trans (by conv => lhs; whnf)
  have e5_27 := fr27.bb 5 rfl rfl
  have e6_27 := (fr27 6 rfl).trans (by conv => lhs; whnf)
  have e22_27 := (fr27 22 rfl).trans (by conv => lhs; whnf)
  have hsz := hse.2.2
  refine SR <| RL.nextM rfl hH27 (i := 0) rfl (hH27.blk (i := 2) rfl) hmp17 hc e22_27 (fun hz28 => ?_) (fun e29 q30 he31 hq32 hk33 hv34 w35 hH36 => ?_)
  ·refine V (run_extract rfl (v := B _) rfl) <| RL.nil <| CW.seq <| CW.condF rfl <| CW.exit (id := 0) rfl <| SR <| va (v := .slice none 0 0) rfl <| have hH38 := hH27.nilRow 56 9; RL.nil <| CW.seq <| SR <| vm e8_27 <| RL.callR rfl hH38 (c_name_Sort _ ns (by omega) _ (hH38.sl (i := 2) rfl)) (run_call1 call70 rfl) <| fun v41 w39 hH40 => V (run_lenSl (hH40.sl (i := 0) rfl) rfl underlying57 rfl) <| vm (v := I 0) rfl <| RL.nil <| CW.block <| have hsl := sort_len ns; CW.loop (G := Int × (List ValR) × Value) (fun ⟨k, m2, v10⟩ s' w' => (Fr (10 :: (12 :: (rg 34 13 []))) _ s') ∧ (Hp w w' (_ :: .row v10 56 9 (m2.length) (m2.flatMap valL) :: _)) ∧ (s' 10 = v10) ∧ (s' 34 = I k) ∧ (0 ≤ k) ∧ (k ≤ (sortN ns).length) ∧ (m2 = laidTo (sortN ns) kv14 k) ∧ ((m2.length : Int) = k)) (fun ⟨k, m2, v10⟩ => ((sortN ns).length - k).toNat) ((0, [], (.slice none 0 0 : Value))) ⟨Fr.refl _ _, hH40, rfl, rfl, (by omega), (by omega), rfl, rfl⟩ <| ?_
   rintro ⟨k, m2, v10⟩ sg42 w42 ⟨fr42, hH42, e10_42, e34_42, h0, hk, hm2, hml⟩
   have e6_42 := (fr42 6 rfl).trans e6_27
   have e32_42 := (fr42 32 rfl).trans (by conv => lhs; whnf)
   have e33_42 := fr42.ii 33 rfl rfl
   refine SR <| V (run_lss e34_42 e33_42) <| RL.nil <| CW.seq <| CW.condP rfl (fun h44 => ?_) (fun h44 => ?_)
   ·refine CW.skip <| CW.seq <| CW.block <| SR <| V (run_indexAddrS (hH42.sl (i := 0) rfl) underlying57 sizeOf9 e32_42 e34_42 (by omega)) <| V (run_ld underlying9 rfl rfl ((hH42.sl (i := 0) rfl).cell _ _ (txL_at (by omega)))) <| va (v := .string _) rfl <| RL.nil <| CW.region <| vm e10_42 <| vm (v := .string _) rfl <| vm e6_42 <| vm (v := .string _) rfl <| V (run_lookup1 underlying106 underlying9 zero_el rfl rfl (hH42.blk (i := 4) rfl) hmp17) <| V (run_bld (vs := [(0, S _), (1, .agg (elC _))]) rfl (built_val _ _)) <| RL.new rfl hH42 (f := fun b => (.slice (some ⟨b, 0, none⟩) 1 1)) (run_mkRecs valL_len underlying54 rfl rfl rfl (l := [_]) rfl (by decide) (by decide) rfl) <| fun b47 w45 hH46 => RL.app rfl hH46 (i := 2) rfl (Hp.slFlat valL_len hH46 (i := 0) (l := [_]) rfl (by simp [maxLen])) rfl rfl underlying54 rfl rfl (size := 9) (bytes := 80) rfl rfl rfl (by decide) (vals_one _) (by simp only [List.length_cons, List.length_nil]; omega) (by simp only [maxLen, List.length_cons, List.length_nil]; omega) <| fun v48 w49 hH50 => ?_
    simp only [z2] at hH50
    refine V (run_assign (by conv => lhs; whnf)) ?_
    refine RL.nil <| CW.region <| V (run_add e34_42 rfl (by omega)) <| mI rfl <| RL.nil <| ?_
    refine ⟨(k + 1, m2 ++ [⟨(sortN ns).getD k.toNat tx0, (lookK kv14 ((sortN ns).getD k.toNat tx0)).1⟩], v48), ?_, fr42.u4.u4.u4.u1.u1.u1, (Hp.conv (hH50.sub (sQ sR)) (by simp)), rfl, (congrArg I (by rfl)), ?_, ?_, ?_, ?_⟩
    ·((try dsimp only); omega)
    ·omega
    ·omega
    ·(rw [laid_next h0 ‹k < _›, ← hm2])
    ·simp only [List.length_append, List.length_singleton]; omega
   ·refine CW.exit (id := 2) rfl <| SR <| vm e10_42 <| ?_
    refine V (run_assign (by conv => lhs; whnf)) ?_
    refine va (v := B true) rfl <| RL.nil <| CW.ret <| ?_
    obtain ⟨Z51, hz52, hv53, -⟩ := (hH42.perm (((pC pR).trans pS).trans (pC pR))).frz (K)
    have hH54 : Hp _ w42 (_ :: _ :: _ :: _ :: _ :: _ :: Z51) := hz52.zin0 (L := [_, _, _, _, _, _])
    have hrm := rm_yes hgk16.1 (nf ‹(!o15) = false›) hgk16.2 (seen_all hmp17 hse hz28)
    refine out2 Tryz.results43 (x := v10) rfl rfl ⟨Z51, (hH54.sub (sQ (sQ (sQ (sQ (sQ (sQ sR))))))), v10, ?_, ?_⟩
    ·(rw [hrm]; rfl)
    ·rw [hrm, ← laid_all ‹¬ k < _›, ← hm2]; exact hv53
  ·simp only [z2] at hH36
   refine V (run_extract rfl (v := B _) rfl) <| RL.nil <| CW.seq <| CW.condT rfl <| CW.skip <| CW.block <| SR <| V (run_entry (hH36.blk (i := 0) rfl) (hH36.blk (i := 2) rfl) hmp17 he31 hk33 hv34 e22_27) <| V (run_extract rfl (v := .string _) rfl) <| va (v := .string _) rfl <| RL.nil <| CW.region <| vm e8_27 <| vm (v := .string _) rfl <| RL.new rfl hH36 (f := fun b => (.slice (some ⟨b, 0, none⟩) 1 1)) (run_mkL underlying57 rfl rfl (sz := 1) (vs := [.string _]) rfl rfl (by decide) (by decide) rfl rfl) <| fun b58 w56 hH57 => ?_
   (try simp only [clX] at hH57)
   refine RL.app rfl hH57 (i := 2) rfl (hH57.slBlk (i := 0) (n := 1) (sz := 1) rfl rfl (by decide)) rfl rfl underlying57 rfl rfl (size := 1) (bytes := 16) rfl rfl rfl (by decide) (by simp [Value.oneCell']) (by have := left_pos ‹_›; show (ns.length + 1) * _ ≤ _; omega) (by have := left_pos ‹_›; show ns.length + 1 ≤ _; simp only [maxLen]; omega) <| fun v59 w60 hH61 => ?_
   simp only [z2] at hH61
   refine V (run_assign (by conv => lhs; whnf)) ?_
   refine RL.nil ?_
   refine ⟨((seen.push e29.born), ck13, ns ++ [q30.1], v59), ?_, fr27.u4.u4.u1.u1, (Hp.conv (hH61.sub (sQ sR)) (by simp)), rfl, ?_, ?_⟩
   ·exact (seen_next hmp17.born hse he31 hq32 hk33).2
   ·exact Nat.le_refl _
   ·exact (seen_next hmp17.born hse he31 hq32 hk33).1
theorem c_holds_equal (x : AssR) (a : Asg) (hx2 : AssSm x) (ha2 : AsgSm a) (w : World) (hx : AssV (Kw w) x) (ha : AsgV (Kw w) a) : Calls Tryz.prog 21 #[.agg (assL x).toArray, .agg (asgL a).toArray] w (Pure (B ((rowM a.as x.a).2 && (rowM a.as x.b).2 && sameL (rowM a.as x.a).1 (rowM a.as x.b).1)) w) := by
 have hm1 := ha.labels.small
 have hm2 := ha.rows.small
 have hm3 := hx.code.small
 unfold maxLen at hm1 hm2 hm3
 refine enter Tryz.func21 rfl Tryz.ntmps21 rfl <| have hH := Hp.start w; SR <| RL.new rfl hH (f := fun b => (.pointer (some ⟨b, 0, none⟩))) (run_box (v := .agg _) rfl) <| fun b3 w1 hH2 => RL.new rfl hH2 (f := fun b => (.pointer (some ⟨b, 0, none⟩))) (run_box (v := .agg _) rfl) <| fun b6 w4 hH5 => va (v := B false) rfl <| RL.nil <| SR <| V (fA underlying46 12 rfl sizeOf44 rfl) <| V (run_ldSub (sub := rtmL _) underlying44 rfl rfl rfl (hH5.blk (i := 1) rfl) (ass_aB _)) <| V (run_ldA (cs := asgL _) underlying32 rfl rfl rfl (rangeAt_cells (hH5.blk (i := 0) rfl))) <| RL.callF rfl hH5 (c_holds_Row (Kw w) x.a a ha2.rl hx2.fa _ hH5.kw hx.a ha) (run_call2 call43 rfl rfl) <| fun v9 w10 Z12 hH11 hp13 => have hH14 : Hp _ w10 (_ :: _ :: Z12) := hH11.zin0 (L := [_, _]); ?_
 obtain ⟨v15, rfl, hv16⟩ := hp13
 refine V (run_move (by conv => lhs; whnf)) ?_
 refine V (run_extract rfl rfl) <| V (run_extract rfl (v := B _) rfl) <| ?_
 refine V (run_assign (by conv => lhs; whnf)) ?_
 refine aB rfl <| RL.nil <| SR <| V (fA underlying46 14 rfl sizeOf44 rfl) <| V (run_ldSub (sub := rtmL _) underlying44 rfl rfl rfl (hH14.blk (i := 1) rfl) (ass_bB _)) <| V (run_ldA (cs := asgL _) underlying32 rfl rfl rfl (rangeAt_cells (hH14.blk (i := 0) rfl))) <| RL.callF rfl hH14 (c_holds_Row (Kw w) x.b a ha2.rl hx2.fb _ hH14.kw hx.b ha) (run_call2 call43 rfl rfl) <| fun v20 w21 Z23 hH22 hp24 => have hH25 : Hp _ w21 (_ :: _ :: (Z23 ++ Z12)) := hH22.zin (L := [_, _]) (L' := Z12); ?_
 obtain ⟨v26, rfl, hv27⟩ := hp24
 refine V (run_move (by conv => lhs; whnf)) ?_
 refine V (run_extract rfl rfl) <| V (run_extract rfl (v := B _) rfl) <| ?_
 refine V (run_assign (by conv => lhs; whnf)) ?_
 refine aB rfl <| RL.nil <| CW.seq <| SR <| mB rfl <| V (run_not rfl) <| mB rfl <| RL.split (dj := 26) rfl (fun h30 => ?_) (fun h30 => ?_)
 ·refine gF rfl (bR (c := true) h30) <| gF rfl (bR (c := true) h30) <| V (run_pickT (bR (c := true) h30) (v := B true) rfl) <| mB rfl <| gF rfl rfl <| gF rfl rfl <| gF rfl rfl <| gF rfl rfl <| gF rfl rfl <| V (run_pickT rfl (v := B true) rfl) <| RL.nil <| CW.condT rfl <| SR <| va (v := B false) rfl <| RL.nil <| CW.ret <| outP1 Tryz.results21 (congrArg B ?_) hH25.below
  (rw [nt ‹(!(rowM a.as x.a).2) = true›]; rfl)
 ·refine gT rfl (bR (c := false) h30) <| mB rfl <| gT rfl (bR (c := false) h30) <| V (run_not rfl) <| V (run_pickF (bR (c := false) h30) (v := B _) rfl) <| mB rfl <| RL.split (dj := 30) rfl (fun h32 => ?_) (fun h32 => ?_)
  ·refine gF rfl (bR (c := true) h32) <| gF rfl (bR (c := true) h32) <| gF rfl (bR (c := true) h32) <| gF rfl (bR (c := true) h32) <| gF rfl (bR (c := true) h32) <| V (run_pickT (bR (c := true) h32) (v := B true) rfl) <| RL.nil <| CW.condT rfl <| SR <| va (v := B false) rfl <| RL.nil <| CW.ret <| outP1 Tryz.results21 (congrArg B ?_) hH25.below
   (rw [nt ‹(!(rowM a.as x.b).2) = true›]; simp; done)
  ·refine gT rfl (bR (c := false) h32) ?_
   refine V (run_move (by conv => lhs; whnf)) ?_
   refine gT rfl (bR (c := false) h32) <| V (run_lenSl (hv16.mono (hH25.kz (Le.refl _) (fun x hx => (mT (mT (List.mem_append_right _ hx)))))).sl rfl underlying54 rfl) <| gT rfl (bR (c := false) h32) <| ?_
   refine V (run_move (by conv => lhs; whnf)) ?_
   refine gT rfl (bR (c := false) h32) <| V (run_lenSl (hv27.mono (hH25.kz (Le.refl _) (fun x hx => (mT (mT (List.mem_append_left _ hx)))))).sl rfl underlying54 rfl) <| gT rfl (bR (c := false) h32) <| V (run_neq rfl rfl) <| V (run_pickF (bR (c := false) h32) (v := B _) rfl) <| RL.nil <| CW.condP rfl (fun h34 => ?_) (fun h34 => ?_)
   ·refine SR <| va (v := B false) rfl <| RL.nil <| CW.ret <| outP1 Tryz.results21 (congrArg B ?_) hH25.below
    (rw [sameL_no1 ‹_›]; simp; done)
   ·refine CW.skip <| CW.seq <| SR <| ?_
    refine V (run_move (by conv => lhs; whnf)) ?_
    refine V (run_lenSl (hv16.mono (hH25.kz (Le.refl _) (fun x hx => (mT (mT (List.mem_append_right _ hx)))))).sl rfl underlying54 rfl) <| vm (v := I 0) rfl <| RL.nil <| CW.block <| have hlm : ((rowM a.as x.a).1.length : Int) = (rowM a.as x.b).1.length := (by omega); have hls : ((rowM a.as x.a).1.length : Int) ≤ 2000 := (by have := rowM_len ha2.rl hx2.fa; omega); CW.loop (G := Int) (fun k s' w' => (Fr (4 :: (9 :: (rg 39 13 []))) _ s') ∧ (Hp w w' _) ∧ (s' 39 = I k) ∧ (0 ≤ k) ∧ (k ≤ (rowM a.as x.a).1.length) ∧ (∀ i : Int, 0 ≤ i → i < k → sameV ((rowM a.as x.a).1.getD i.toNat val0) ((rowM a.as x.b).1.getD i.toNat val0) = true)) (fun k => ((rowM a.as x.a).1.length - k).toNat) (0) ⟨Fr.refl _ _, hH25, rfl, (by omega), (by omega), fun j a b => absurd b (by omega)⟩ <| ?_
    rintro k sg35 w35 ⟨fr35, hH35, e39_35, h0, hk, hq⟩
    have e5_35 := (fr35 5 rfl).trans (by conv => lhs; whnf)
    have e7_35 := (fr35 7 rfl).trans (by conv => lhs; whnf)
    have e38_35 := fr35.ii 38 rfl rfl
    refine SR <| V (run_lss e39_35 e38_35) <| RL.nil <| CW.seq <| CW.condP rfl (fun h37 => ?_) (fun h37 => ?_)
    ·refine CW.skip <| CW.seq <| CW.block <| SR <| vm e39_35 <| aI rfl <| RL.nil <| CW.seq <| CW.regionD (by kernel_rfl) hH35 <| fun w38 hH39 => have zh39 := hH39.sub sR; AQ 0 rfl zh39 (run_move e5_35) <| AQ 1 rfl zh39 (mV (I _) rfl) <| AT 2 rfl zh39 (fun w hS => run_indexAddrS (hv16.mono (hS.kz (Le.refl _) (fun x hx => (mT (mT (List.mem_append_right _ hx)))))).sl underlying54 sizeOf56 rfl rfl (by omega)) <| AT 3 rfl zh39 (fun w hS => run_ldE (dv := val0) valL_len (hv16.mono (hS.kz (Le.refl _) (fun x hx => (mT (mT (List.mem_append_right _ hx)))))).sl underlying56 rfl rfl rfl (by omega)) <| AQ 4 rfl zh39 (run_move e7_35) <| AQ 5 rfl zh39 (mV (I _) rfl) <| AT 6 rfl zh39 (fun w hS => run_indexAddrS (hv27.mono (hS.kz (Le.refl _) (fun x hx => (mT (mT (List.mem_append_left _ hx)))))).sl underlying54 sizeOf56 rfl rfl (by omega)) <| AT 7 rfl zh39 (fun w hS => run_ldE (dv := val0) valL_len (hv27.mono (hS.kz (Le.refl _) (fun x hx => (mT (mT (List.mem_append_left _ hx)))))).sl underlying56 rfl rfl rfl (by omega)) <| AQ 8 rfl zh39 (run_neqT (eq_val _ _) rfl rfl) <| AD <| CW.cond rfl (fun h41 => ?_) (fun h41 => ?_)
     ·refine SR <| va (v := B false) rfl <| RL.nil <| CW.ret <| outP1 Tryz.results21 (congrArg B ?_) hH39.below
      (rw [sameL_no2 h0 ‹k < _› (nt ‹(!sameV _ _) = true›)]; simp; done)
     ·refine CW.skip <| CW.region <| V (run_add e39_35 rfl (by omega)) <| mI rfl <| RL.nil <| ?_
      refine ⟨k + 1, ?_, fr35.u4.u4.u4.u1.u1, hH39, (congrArg I (by rfl)), ?_, ?_, ?_⟩
      ·((try dsimp only); omega)
      ·omega
      ·omega
      ·exact fun i u v => if e : i = k then e ▸ nf ‹(!sameV _ _) = false› else hq i u (by omega)
    ·refine CW.exit (id := 0) rfl <| SR <| va (v := B true) rfl <| RL.nil <| CW.ret <| outP1 Tryz.results21 (congrArg B ?_) hH35.below
     (rw [nf ‹(!(rowM a.as x.a).2) = false›, nf ‹(!(rowM a.as x.b).2) = false›, sameL_yes hlm ‹¬ k < _› hq]; rfl)
set_option maxHeartbeats 1000000 in
theorem c_holds_One (s : Scp) (x : AssR) (a : Asg) (hx2 : AssSm x) (ha2 : AsgSm a) (w : World) (hs : ScpV (Kw w) s) (hx : AssV (Kw w) x) (ha : AsgV (Kw w) a) (hT : Tab w) : Calls Tryz.prog 8 #[.agg (scpC s), .agg (assL x).toArray, .agg (asgL a).toArray] w (Pure (B (oneF s a.as x)) w) := by
 have hm1 := hs.lats.sl.small
 have hm2 := hs.vars.sl.small
 unfold maxLen at hm1 hm2
 have hm3 := ha.labels.small
 have hm4 := ha.rows.small
 have hm5 := hx.code.small
 unfold maxLen at hm3 hm4 hm5
 have hcl := hx2.c
 refine enter Tryz.func8 rfl Tryz.ntmps8 rfl <| have hH := Hp.start w; SR <| RL.new rfl hH (f := fun b => (.pointer (some ⟨b, 0, none⟩))) (run_box (v := .agg _) rfl) <| fun b3 w1 hH2 => RL.new rfl hH2 (f := fun b => (.pointer (some ⟨b, 0, none⟩))) (run_box (v := .agg _) rfl) <| fun b6 w4 hH5 => RL.new rfl hH5 (f := fun b => (.pointer (some ⟨b, 0, none⟩))) (run_box (v := .agg _) rfl) <| fun b9 w7 hH8 => va (v := B false) rfl <| RL.nil <| CW.seq <| SR <| V (fA underlying46 0 rfl sizeOf3 rfl) <| V (run_ld underlying3 rfl rfl (hH8.cell (i := 1) rfl (v := I _) rfl)) <| RL.nil <| CW.block <| SR <| V (run_eql rfl rfl) <| aB rfl <| RL.nil <| CW.condP rfl (fun h11 => ?_) (fun h11 => ?_)
 ·refine CW.seq <| SR <| V (fA underlying46 16 rfl sizeOf3 rfl) <| V (run_ld underlying3 rfl rfl (hH8.cell (i := 1) rfl (v := I _) rfl)) <| V (run_lss rfl rfl) <| mB rfl <| RL.splitP (dj := 20) rfl (fun h13 => ?_) (fun h13 => ?_)
  ·refine gF rfl (bT h13) <| gF rfl (bT h13) <| gF rfl (bT h13) <| gF rfl (bT h13) <| gF rfl (bT h13) <| gF rfl (bT h13) <| V (run_pickT (bT h13) (v := B true) rfl) <| RL.nil <| CW.condT rfl <| SR <| va (v := B false) rfl <| RL.nil <| CW.ret <| outP1 Tryz.results8 (congrArg B ?_) hH8.below
   (rw [one_10a ‹x.op = 10› (show ¬ (0 ≤ x.var ∧ x.var < a.as.rows.length) by rw [as_rows_len]; omega)]; done)
  ·refine gT rfl (bF h13) <| V (fA underlying46 16 rfl sizeOf3 rfl) <| gT rfl (bF h13) <| V (run_ld underlying3 rfl rfl (hH8.cell (i := 1) rfl (v := I _) rfl)) <| gT rfl (bF h13) <| V (fA underlying32 1 rfl sizeOf30 rfl) <| gT rfl (bF h13) <| V (run_ldV (ha.rows.sl.hp hH8) underlying30 rfl rfl (hH8.cell (i := 0) rfl rfl)) <| gT rfl (bF h13) <| V (run_lenSl (ha.rows.sl.hp hH8) rfl underlying30 rfl) <| gT rfl (bF h13) <| V (run_geq rfl rfl) <| V (run_pickF (bF h13) (v := B _) rfl) <| RL.nil <| CW.condP rfl (fun h15 => ?_) (fun h15 => ?_)
   ·refine SR <| va (v := B false) rfl <| RL.nil <| CW.ret <| outP1 Tryz.results8 (congrArg B ?_) hH8.below
    (rw [one_10a ‹x.op = 10› (show ¬ (0 ≤ x.var ∧ x.var < a.as.rows.length) by rw [as_rows_len]; omega)]; done)
   ·refine CW.skip <| CW.seq <| CW.regionD (by kernel_rfl) hH8 <| fun w16 hH17 => have zh17 := hH17.sub sR; AQ 0 rfl zh17 (fA underlying32 1 rfl sizeOf30 rfl) <| AT 1 rfl zh17 (fun w hS => run_ldV (ha.rows.sl.hp hS) underlying30 rfl rfl (hS.cell (i := 0) rfl rfl)) <| AQ 2 rfl zh17 (fA underlying46 16 rfl sizeOf3 rfl) <| AT 3 rfl zh17 (fun w hS => run_ld underlying3 rfl rfl (hS.cell (i := 1) rfl (v := I _) rfl)) <| AT 4 rfl zh17 (fun w hS => run_indexAddrS (ha.rows.sl.hp hS) underlying30 sizeOf54 rfl rfl (by omega)) <| AT 5 rfl zh17 (fun w hS => run_ld underlying54 rfl rfl ((ha.rows.sl.hp hS).cell _ _ (rowsC_at (by omega)))) <| AQ 6 rfl zh17 (fA underlying46 17 rfl sizeOf9 rfl) <| AT 7 rfl zh17 (fun w hS => run_ld underlying9 rfl rfl (hS.cell (i := 1) rfl (v := .string _) rfl)) <| AN.two 8 12 (by kernel_rfl) ?_ ?_
    ·refine AO.callP rfl gnone rfl hH17 sR (c_assign_Get _ _ _  _ ((ha.at (by omega) (by omega)).sl.hp hH17)) (run_call2 call20 rfl rfl) <| fun w18 hH19 => have zh19 := hH19.sub sR; ?_
     refine AQ 9 rfl zh19 (run_move (by conv => lhs; whnf)) ?_
     refine AQ 10 rfl zh19 (run_extract rfl (v := .agg _) rfl) <| AQ 11 rfl zh19 (run_extract rfl (v := B _) rfl) <| A1 12 <| AO.new rfl gnone rfl hH19 sR (f := fun b => .pointer (some ⟨b, 0, none⟩)) (run_alloc zero_el) <| fun b23 w21 hH22 => A1 13 <| AO.set rfl gnone hH22 (j := 0) rfl (sQ sR) (run_stEl rfl rfl rfl (hH22.blk (i := 0) rfl)) <| fun w26 hH27 => ?_
     simp only [z2] at hH27
     refine AQ 14 rfl (hH27.sub (sQ sR)) (aV (B _) rfl) <| AD <| SR <| mB rfl <| V (run_not rfl) <| aB rfl <| RL.nil <| CW.ret <| outP1 Tryz.results8 (congrArg B ?_) hH27.below
     (rw [one_10 ‹x.op = 10› (show 0 ≤ x.var ∧ x.var < a.as.rows.length by rw [as_rows_len]; omega), as_row]; done)
    ·refine AO.new rfl gnone rfl hH17 sR (f := fun b => .pointer (some ⟨b, 0, none⟩)) (run_alloc zero_el) <| fun b30 w28 hH29 => A1 8 <| AO.callP rfl gnone rfl hH29 (sQ sR) (c_assign_Get _ _ _  _ ((ha.at (by omega) (by omega)).sl.hp hH29)) (run_call2 call20 rfl rfl) <| fun w31 hH32 => have zh32 := hH32.sub (sQ sR); ?_
     refine AQ 9 rfl zh32 (run_move (by conv => lhs; whnf)) ?_
     refine AQ 10 rfl zh32 (run_extract rfl (v := .agg _) rfl) <| AQ 11 rfl zh32 (run_extract rfl (v := B _) rfl) <| A1 13 <| AO.set rfl gnone hH32 (j := 0) rfl (sQ sR) (run_stEl rfl rfl rfl (hH32.blk (i := 0) rfl)) <| fun w36 hH37 => ?_
     simp only [z2] at hH37
     refine AQ 14 rfl (hH37.sub (sQ sR)) (aV (B _) rfl) <| AD <| SR <| mB rfl <| V (run_not rfl) <| aB rfl <| RL.nil <| CW.ret <| outP1 Tryz.results8 (congrArg B ?_) hH37.below
     (rw [one_10 ‹x.op = 10› (show 0 ≤ x.var ∧ x.var < a.as.rows.length by rw [as_rows_len]; omega), as_row]; done)
 ·refine SR <| V (run_eql rfl rfl) <| aB rfl <| RL.nil <| CW.condP rfl (fun h39 => ?_) (fun h39 => ?_)
  ·refine SR <| V (run_ldA (cs := assL _) underlying46 rfl rfl rfl (rangeAt_cells (hH8.blk (i := 1) rfl))) <| V (run_ldA (cs := asgL _) underlying32 rfl rfl rfl (rangeAt_cells (hH8.blk (i := 0) rfl))) <| RL.callP rfl hH8 (c_holds_equal _ _ (hx2) (ha2) _ (hx.mono hH8.kw) (ha.mono hH8.kw)) (run_call2 call21 rfl rfl) <| fun w40 hH41 => aB rfl <| RL.nil <| CW.ret <| outP1 Tryz.results8 (congrArg B ?_) hH41.below
   (rw [one_9 ‹x.op = 9›]; done)
  ·refine SR <| V (run_eql rfl rfl) <| aB rfl <| RL.nil <| CW.condP rfl (fun h44 => ?_) (fun h44 => ?_)
   ·refine CW.seq <| SR <| V (fA underlying46 1 rfl sizeOf3 rfl) <| V (run_ld underlying3 rfl rfl (hH8.cell (i := 1) rfl (v := I _) rfl)) <| V (run_lss rfl rfl) <| mB rfl <| RL.splitP (dj := 52) rfl (fun h46 => ?_) (fun h46 => ?_)
    ·refine gF rfl (bT h46) <| gF rfl (bT h46) <| gF rfl (bT h46) <| gF rfl (bT h46) <| gF rfl (bT h46) <| gF rfl (bT h46) <| V (run_pickT (bT h46) (v := B true) rfl) <| RL.nil <| CW.condT rfl <| SR <| va (v := B false) rfl <| RL.nil <| CW.ret <| outP1 Tryz.results8 (congrArg B ?_) hH8.below
     (rw [one_x (by omega) (by omega) (by omega)]; done)
    ·refine gT rfl (bF h46) <| V (fA underlying46 1 rfl sizeOf3 rfl) <| gT rfl (bF h46) <| V (run_ld underlying3 rfl rfl (hH8.cell (i := 1) rfl (v := I _) rfl)) <| gT rfl (bF h46) <| V (fA underlying25 0 rfl sizeOf22 rfl) <| gT rfl (bF h46) <| V (run_ldV (hs.lats.sl.hp hH8) underlying22 rfl rfl (hH8.cell (i := 2) rfl rfl)) <| gT rfl (bF h46) <| V (run_lenSl (hs.lats.sl.hp hH8) rfl underlying22 rfl) <| gT rfl (bF h46) <| V (run_geq rfl rfl) <| V (run_pickF (bF h46) (v := B _) rfl) <| RL.nil <| CW.condP rfl (fun h48 => ?_) (fun h48 => ?_)
     ·refine SR <| va (v := B false) rfl <| RL.nil <| CW.ret <| outP1 Tryz.results8 (congrArg B ?_) hH8.below
      (rw [one_x (by omega) (by omega) (by omega)]; done)
     ·refine CW.skip <| CW.seq <| CW.regionD (by kernel_rfl) hH8 <| fun w49 hH50 => have zh50 := hH50.sub sR; AQ 0 rfl zh50 (fA underlying25 0 rfl sizeOf22 rfl) <| AT 1 rfl zh50 (fun w hS => run_ldV (hs.lats.sl.hp hS) underlying22 rfl rfl (hS.cell (i := 2) rfl rfl)) <| AQ 2 rfl zh50 (fA underlying46 1 rfl sizeOf3 rfl) <| AT 3 rfl zh50 (fun w hS => run_ld underlying3 rfl rfl (hS.cell (i := 1) rfl (v := I _) rfl)) <| AT 4 rfl zh50 (fun w hS => run_indexAddrS (hs.lats.sl.hp hS) underlying22 sizeOf67 rfl rfl (by omega)) <| AQ 5 rfl zh50 (fA underlying67 1 rfl sizeOf65 rfl) <| AT 6 rfl zh50 (fun w hS => run_ldEA (dv := lat0) (off := 1) (cs := shpL _) latL_len (hs.lats.sl.hp hS) underlying65 rfl rfl rfl (by omega) (lat_shp _)) <| AQ 7 rfl zh50 (fA underlying46 2 rfl sizeOf36 rfl) <| AT 8 rfl zh50 (fun w hS => run_ldV (hx.code.sl.hp hS) underlying36 rfl rfl (hS.cell (i := 1) rfl rfl)) <| AQ 9 rfl zh50 (fA underlying32 0 rfl sizeOf29 rfl) <| AT 10 rfl zh50 (fun w hS => run_ldV (ha.labels.sl.hp hS) underlying29 rfl rfl (hS.cell (i := 0) rfl rfl)) <| AN.two 11 15 (by kernel_rfl) ?_ ?_
      ·refine AO.callP rfl gnone rfl hH50 sR (c_code_Eval _ _ _ _ _ (by omega) _ (hx.code.sl.hp hH50) (ha.labels.sl.hp hH50) ((hs.at (by omega) (by omega)).mono hH50.kw) (hT.hp hH50)) (run_call3 call22 rfl rfl rfl) <| fun w51 hH52 => have zh52 := hH52.sub sR; ?_
       refine AQ 12 rfl zh52 (run_move (by conv => lhs; whnf)) ?_
       refine AQ 13 rfl zh52 (run_extract rfl (v := .agg _) rfl) <| AQ 14 rfl zh52 (run_extract rfl (v := B _) rfl) <| A1 15 <| AO.new rfl gnone rfl hH52 sR (f := fun b => .pointer (some ⟨b, 0, none⟩)) (run_alloc zero_el) <| fun b56 w54 hH55 => A1 16 <| AO.set rfl gnone hH55 (j := 0) rfl (sQ sR) (run_stEl rfl rfl rfl (hH55.blk (i := 0) rfl)) <| fun w59 hH60 => ?_
       simp only [z2] at hH60
       refine AQ 17 rfl (hH60.sub (sQ sR)) (aV (B _) rfl) <| AD <| SR <| V (fA underlying46 3 rfl sizeOf41 rfl) <| V (run_ldSub (sub := atomL _) underlying41 rfl rfl rfl (hH60.blk (i := 2) rfl) (ass_toB _)) <| V (run_ldA (cs := asgL _) underlying32 rfl rfl rfl (rangeAt_cells (hH60.blk (i := 1) rfl))) <| RL.callP rfl hH60 (c_holds_atom _ _  _ (ha.mono hH60.kw)) (run_call2 call23 rfl rfl) <| fun w61 hH62 => ?_
       refine V (run_move (by conv => lhs; whnf)) ?_
       refine V (run_extract rfl (v := .agg _) rfl) <| V (run_extract rfl (v := B _) rfl) <| RL.new rfl hH62 (f := fun b => (.pointer (some ⟨b, 0, none⟩))) (run_alloc zero_el) <| fun b66 w64 hH65 => RL.set hH65 (i := 0) rfl (run_stEl rfl rfl rfl (hH65.blk (i := 0) rfl)) <| fun w67 hH68 => ?_
       simp only [z2] at hH68
       refine aB rfl <| RL.nil <| SR <| mB rfl <| mB rfl <| RL.split (dj := 83) rfl (fun h69 => ?_) (fun h69 => ?_)
       ·refine gT rfl (bR (c := true) h69) <| mB rfl <| V (run_pickT (bR (c := true) h69) (v := B _) rfl) <| mB rfl <| RL.split (dj := 86) rfl (fun h70 => ?_) (fun h70 => ?_)
        ·refine gT rfl (bR (c := true) h70) <| V (run_ldEl underlying39 rfl rfl rfl (hH68.blk (i := 1) rfl)) <| gT rfl (bR (c := true) h70) <| V (run_ldEl underlying39 rfl rfl rfl (hH68.blk (i := 0) rfl)) <| gT rfl (bR (c := true) h70) <| RL.callP rfl hH68 (c_shape_Leq _ _  _) (run_call2 call24 rfl rfl) <| fun w71 hH72 => V (run_pickT (bR (c := true) h70) (v := B _) rfl) <| aB rfl <| RL.nil <| CW.ret <| outP1 Tryz.results8 (congrArg B ?_) hH72.below
         (rw [one_8 (show x.op = 8 by omega) (show 0 ≤ x.lat ∧ x.lat < s.lats.length by omega), show (evalF (shAt s x.lat) x.code a.as.labels).2 = true from ‹_›, show (atomF a.as x.to).2 = true from ‹_›, Bool.true_and]; rfl)
        ·refine gF rfl (bR (c := false) h70) <| gF rfl (bR (c := false) h70) <| gF rfl (bR (c := false) h70) <| V (run_pickF (bR (c := false) h70) (v := B false) rfl) <| aB rfl <| RL.nil <| CW.ret <| outP1 Tryz.results8 (congrArg B ?_) hH68.below
         (rw [one_8 (show x.op = 8 by omega) (show 0 ≤ x.lat ∧ x.lat < s.lats.length by omega), show (atomF a.as x.to).2 = false from ‹_›, Bool.and_false, Bool.false_and]; done)
       ·refine gF rfl (bR (c := false) h69) <| V (run_pickF (bR (c := false) h69) (v := B false) rfl) <| mB rfl <| gF rfl rfl <| gF rfl rfl <| gF rfl rfl <| V (run_pickF rfl (v := B false) rfl) <| aB rfl <| RL.nil <| CW.ret <| outP1 Tryz.results8 (congrArg B ?_) hH68.below
        (rw [one_8 (show x.op = 8 by omega) (show 0 ≤ x.lat ∧ x.lat < s.lats.length by omega), show (evalF (shAt s x.lat) x.code a.as.labels).2 = false from ‹_›, Bool.false_and, Bool.false_and]; done)
      ·refine AO.new rfl gnone rfl hH50 sR (f := fun b => .pointer (some ⟨b, 0, none⟩)) (run_alloc zero_el) <| fun b76 w74 hH75 => A1 11 <| AO.callP rfl gnone rfl hH75 (sQ sR) (c_code_Eval _ _ _ _ _ (by omega) _ (hx.code.sl.hp hH75) (ha.labels.sl.hp hH75) ((hs.at (by omega) (by omega)).mono hH75.kw) (hT.hp hH75)) (run_call3 call22 rfl rfl rfl) <| fun w77 hH78 => have zh78 := hH78.sub (sQ sR); ?_
       refine AQ 12 rfl zh78 (run_move (by conv => lhs; whnf)) ?_
       refine AQ 13 rfl zh78 (run_extract rfl (v := .agg _) rfl) <| AQ 14 rfl zh78 (run_extract rfl (v := B _) rfl) <| A1 16 <| AO.set rfl gnone hH78 (j := 0) rfl (sQ sR) (run_stEl rfl rfl rfl (hH78.blk (i := 0) rfl)) <| fun w82 hH83 => ?_
       simp only [z2] at hH83
       refine AQ 17 rfl (hH83.sub (sQ sR)) (aV (B _) rfl) <| AD <| SR <| V (fA underlying46 3 rfl sizeOf41 rfl) <| V (run_ldSub (sub := atomL _) underlying41 rfl rfl rfl (hH83.blk (i := 2) rfl) (ass_toB _)) <| V (run_ldA (cs := asgL _) underlying32 rfl rfl rfl (rangeAt_cells (hH83.blk (i := 1) rfl))) <| RL.callP rfl hH83 (c_holds_atom _ _  _ (ha.mono hH83.kw)) (run_call2 call23 rfl rfl) <| fun w84 hH85 => ?_
       refine V (run_move (by conv => lhs; whnf)) ?_
       refine V (run_extract rfl (v := .agg _) rfl) <| V (run_extract rfl (v := B _) rfl) <| RL.new rfl hH85 (f := fun b => (.pointer (some ⟨b, 0, none⟩))) (run_alloc zero_el) <| fun b89 w87 hH88 => RL.set hH88 (i := 0) rfl (run_stEl rfl rfl rfl (hH88.blk (i := 0) rfl)) <| fun w90 hH91 => ?_
       simp only [z2] at hH91
       refine aB rfl <| RL.nil <| SR <| mB rfl <| mB rfl <| RL.split (dj := 83) rfl (fun h92 => ?_) (fun h92 => ?_)
       ·refine gT rfl (bR (c := true) h92) <| mB rfl <| V (run_pickT (bR (c := true) h92) (v := B _) rfl) <| mB rfl <| RL.split (dj := 86) rfl (fun h93 => ?_) (fun h93 => ?_)
        ·refine gT rfl (bR (c := true) h93) <| V (run_ldEl underlying39 rfl rfl rfl (hH91.blk (i := 1) rfl)) <| gT rfl (bR (c := true) h93) <| V (run_ldEl underlying39 rfl rfl rfl (hH91.blk (i := 0) rfl)) <| gT rfl (bR (c := true) h93) <| RL.callP rfl hH91 (c_shape_Leq _ _  _) (run_call2 call24 rfl rfl) <| fun w94 hH95 => V (run_pickT (bR (c := true) h93) (v := B _) rfl) <| aB rfl <| RL.nil <| CW.ret <| outP1 Tryz.results8 (congrArg B ?_) hH95.below
         (rw [one_8 (show x.op = 8 by omega) (show 0 ≤ x.lat ∧ x.lat < s.lats.length by omega), show (evalF (shAt s x.lat) x.code a.as.labels).2 = true from ‹_›, show (atomF a.as x.to).2 = true from ‹_›, Bool.true_and]; rfl)
        ·refine gF rfl (bR (c := false) h93) <| gF rfl (bR (c := false) h93) <| gF rfl (bR (c := false) h93) <| V (run_pickF (bR (c := false) h93) (v := B false) rfl) <| aB rfl <| RL.nil <| CW.ret <| outP1 Tryz.results8 (congrArg B ?_) hH91.below
         (rw [one_8 (show x.op = 8 by omega) (show 0 ≤ x.lat ∧ x.lat < s.lats.length by omega), show (atomF a.as x.to).2 = false from ‹_›, Bool.and_false, Bool.false_and]; done)
       ·refine gF rfl (bR (c := false) h92) <| V (run_pickF (bR (c := false) h92) (v := B false) rfl) <| mB rfl <| gF rfl rfl <| gF rfl rfl <| gF rfl rfl <| V (run_pickF rfl (v := B false) rfl) <| aB rfl <| RL.nil <| CW.ret <| outP1 Tryz.results8 (congrArg B ?_) hH91.below
        (rw [one_8 (show x.op = 8 by omega) (show 0 ≤ x.lat ∧ x.lat < s.lats.length by omega), show (evalF (shAt s x.lat) x.code a.as.labels).2 = false from ‹_›, Bool.false_and, Bool.false_and]; done)
   ·refine CW.skip <| SR <| va (v := B false) rfl <| RL.nil <| CW.ret <| outP1 Tryz.results8 (congrArg B ?_) hH8.below
    (rw [one_x (by omega) (by omega) (by omega)]; done)
theorem c_holds_First (p : ProbR) (a : Asg) (hp2 : ∀ x ∈ p.asserts, AssSm x) (ha2 : AsgSm a) (w : World) (hp : ProbV (Kw w) p) (ha : AsgV (Kw w) a) (hT : Tab w) : Calls Tryz.prog 10 #[.agg (probL p).toArray, .agg (asgL a).toArray] w (Pure (I (firstF p.s a.as p.asserts)) w) := by
 have hm1 := hp.asserts.small
 unfold maxLen at hm1
 refine enter Tryz.func10 rfl Tryz.ntmps10 rfl <| have hH := Hp.start w; SR <| RL.new rfl hH (f := fun b => (.pointer (some ⟨b, 0, none⟩))) (run_box (v := .agg _) rfl) <| fun b3 w1 hH2 => RL.new rfl hH2 (f := fun b => (.pointer (some ⟨b, 0, none⟩))) (run_box (v := .agg _) rfl) <| fun b6 w4 hH5 => va (v := I 0) rfl <| RL.nil <| CW.seq <| SR <| V (fA underlying28 2 rfl sizeOf26 rfl) <| V (run_ldV (hp.asserts.sl.hp hH5) underlying26 rfl rfl (hH5.cell (i := 1) rfl rfl)) <| V (run_lenSl (hp.asserts.sl.hp hH5) rfl underlying26 rfl) <| vm (v := I 0) rfl <| RL.nil <| CW.block <| CW.loop (G := Int) (fun k s' w' => (Fr (rg 4 3 (rg 10 13 [])) _ s') ∧ (Hp w w' _) ∧ (s' 10 = I k) ∧ (0 ≤ k) ∧ (k ≤ p.asserts.length) ∧ (∀ j : Int, 0 ≤ j → j < k → oneF p.s a.as (p.asserts.getD j.toNat ass0) = true)) (fun k => (p.asserts.length - k).toNat) (0) ⟨Fr.refl _ _, hH5, rfl, (by omega), (by omega), fun j a b => absurd b (by omega)⟩ <| ?_
 rintro k sg7 w7 ⟨fr7, hH7, e10_7, h0, hk, hg⟩
 have e2_7 := fr7.pp 2 rfl rfl
 have e3_7 := fr7.pp 3 rfl rfl
 have e8_7 := (fr7 8 rfl).trans (by conv => lhs; whnf)
 have e9_7 := fr7.ii 9 rfl rfl
 refine SR <| V (run_lss e10_7 e9_7) <| RL.nil <| CW.seq <| CW.condP rfl (fun h9 => ?_) (fun h9 => ?_)
 ·refine CW.skip <| CW.seq <| CW.block <| SR <| vm e10_7 <| V (run_indexAddrS (hp.asserts.sl.hp hH7) underlying26 sizeOf46 e8_7 e10_7 (by omega)) <| V (run_ldE (dv := ass0) assL_len (hp.asserts.sl.hp hH7) underlying46 rfl rfl rfl (by omega)) <| RL.new rfl hH7 (f := fun b => (.pointer (some ⟨b, 0, none⟩))) (run_alloc zero_ass) <| fun b12 w10 hH11 => aI rfl <| RL.set hH11 (i := 0) rfl (run_stW (c' := (assL _).toArray) rfl rfl rfl (assL_one (hp.at (by omega) (by omega))) (hH11.blk (i := 0) rfl) rfl) <| fun w13 hH14 => ?_
  simp only [z2] at hH14
  refine RL.nil <| SR <| V (fA underlying28 0 rfl sizeOf25 e2_7) <| V (run_ldSub (sub := scpL _) underlying25 rfl rfl rfl (hH14.blk (i := 2) rfl) (prob_sB _)) <| V (run_ldA (cs := assL _) underlying46 rfl rfl rfl (rangeAt_cells (hH14.blk (i := 0) rfl))) <| V (run_ldA (cs := asgL _) underlying32 rfl rfl e3_7 (rangeAt_cells (hH14.blk (i := 1) rfl))) <| RL.callP rfl hH14 (c_holds_One _ _ _ ((hp2 _ (List.mem_of_getElem? (getD_at (d := ass0) (l := p.asserts) h0 ‹k < _›)))) (ha2) _ (hp.s.mono hH14.kw) ((hp.at (by omega) (by omega)).mono hH14.kw) (ha.mono hH14.kw) (hT.hp hH14)) (run_call3 call8 rfl rfl rfl) <| fun w15 hH16 => V (run_not rfl) <| RL.nil <| CW.cond rfl (fun h19 => ?_) (fun h19 => ?_)
  ·refine SR <| mI rfl <| aI rfl <| RL.nil <| CW.ret <| outP1 Tryz.results10 (congrArg I ?_) hH16.below
   (rw [first_yes h0 ‹k < _› (nt ‹(!oneF _ _ _) = true›) hg]; done)
  ·refine CW.skip <| CW.region <| V (run_add e10_7 rfl (by omega)) <| mI rfl <| RL.nil <| ?_
   refine ⟨k + 1, ?_, fr7.u4.u4.u4.u1.u1, (hH16.sub (sQ sR)), (congrArg I (by rfl)), ?_, ?_, ?_⟩
   ·((try dsimp only); omega)
   ·omega
   ·omega
   ·exact fun j u v => if e : j = k then e ▸ nf ‹(!oneF _ _ _) = false› else hg j u (by omega)
 ·refine CW.exit (id := 0) rfl <| SR <| va (v := I (-1)) rfl <| RL.nil <| CW.ret <| outP1 Tryz.results10 (congrArg I ?_) hH7.below
  (rw [first_no ‹¬ k < _› hg]; done)
theorem c_holds_All (p : ProbR) (a : Asg) (hp2 : ∀ x ∈ p.asserts, AssSm x) (ha2 : AsgSm a) (w : World) (hp : ProbV (Kw w) p) (ha : AsgV (Kw w) a) (hT : Tab w) : Calls Tryz.prog 12 #[.agg (probL p).toArray, .agg (asgL a).toArray] w (Pure (B (allF p.s a.as p.asserts)) w) := by
 have hm1 := hp.asserts.small
 unfold maxLen at hm1
 refine enter Tryz.func12 rfl Tryz.ntmps12 rfl <| have hH := Hp.start w; SR <| RL.new rfl hH (f := fun b => (.pointer (some ⟨b, 0, none⟩))) (run_box (v := .agg _) rfl) <| fun b3 w1 hH2 => RL.new rfl hH2 (f := fun b => (.pointer (some ⟨b, 0, none⟩))) (run_box (v := .agg _) rfl) <| fun b6 w4 hH5 => va (v := B false) rfl <| RL.nil <| SR <| V (fA underlying28 0 rfl sizeOf25 rfl) <| V (run_ldSub (sub := scpL _) underlying25 rfl rfl rfl (hH5.blk (i := 1) rfl) (prob_sB _)) <| V (run_ldA (cs := asgL _) underlying32 rfl rfl rfl (rangeAt_cells (hH5.blk (i := 0) rfl))) <| RL.callP rfl hH5 (c_assign_Right _ _  _ (hp.s.mono hH5.kw) (ha.mono hH5.kw) (hT.hp hH5)) (run_call2 call17 rfl rfl) <| fun w7 hH8 => mB rfl <| RL.split (dj := 9) rfl (fun h10 => ?_) (fun h10 => ?_)
 ·refine gT rfl (bR (c := true) h10) <| V (run_ldA (cs := probL _) underlying28 rfl rfl rfl (rangeAt_cells (hH8.blk (i := 1) rfl))) <| gT rfl (bR (c := true) h10) <| V (run_ldA (cs := asgL _) underlying32 rfl rfl rfl (rangeAt_cells (hH8.blk (i := 0) rfl))) <| gT rfl (bR (c := true) h10) <| RL.callP rfl hH8 (c_holds_First _ _ (hp2) (ha2) _ (hp.mono hH8.kw) (ha.mono hH8.kw) (hT.hp hH8)) (run_call2 call10 rfl rfl) <| fun w11 hH12 => gT rfl (bR (c := true) h10) <| V (run_lss rfl rfl) <| V (run_pickT (bR (c := true) h10) (v := B _) rfl) <| aB rfl <| RL.nil <| CW.ret <| outP1 Tryz.results12 (congrArg B ?_) hH12.below
  (rw [allF, show rightA p.s.sc a.as = true from ‹_›]; rfl)
 ·refine gF rfl (bR (c := false) h10) <| gF rfl (bR (c := false) h10) <| gF rfl (bR (c := false) h10) <| gF rfl (bR (c := false) h10) <| V (run_pickF (bR (c := false) h10) (v := B false) rfl) <| aB rfl <| RL.nil <| CW.ret <| outP1 Tryz.results12 (congrArg B ?_) hH8.below
  (rw [allF, show rightA p.s.sc a.as = false from ‹_›]; rfl)
theorem c_holds_Right (p : ProbR) (w : World) (hp : ProbV (Kw w) p) (hT : Tab w) : Calls Tryz.prog 14 #[.agg (probL p).toArray] w (Pure (B (probOk p)) w) := by
 have hm1 := hp.asserts.small
 unfold maxLen at hm1
 refine enter Tryz.func14 rfl Tryz.ntmps14 rfl <| have hH := Hp.start w; SR <| RL.new rfl hH (f := fun b => (.pointer (some ⟨b, 0, none⟩))) (run_box (v := .agg _) rfl) <| fun b3 w1 hH2 => va (v := B false) rfl <| RL.nil <| CW.seq <| SR <| V (fA underlying28 2 rfl sizeOf26 rfl) <| V (run_ldV (hp.asserts.sl.hp hH2) underlying26 rfl rfl (hH2.cell (i := 0) rfl rfl)) <| V (run_lenSl (hp.asserts.sl.hp hH2) rfl underlying26 rfl) <| V (run_gtr rfl rfl) <| mB rfl <| RL.splitP (dj := 9) rfl (fun h5 => ?_) (fun h5 => ?_)
 ·refine gF rfl (bT h5) <| gF rfl (bT h5) <| gF rfl (bT h5) <| gF rfl (bT h5) <| V (run_pickT (bT h5) (v := B true) rfl) <| RL.nil <| CW.condT rfl <| SR <| va (v := B false) rfl <| RL.nil <| CW.ret <| outP1 Tryz.results14 (congrArg B ?_) hH2.below
  (rw [prob_no2 (by omega)]; done)
 ·refine gT rfl (bF h5) <| V (fA underlying28 0 rfl sizeOf25 rfl) <| gT rfl (bF h5) <| V (run_ldSub (sub := scpL _) underlying25 rfl rfl rfl (hH2.blk (i := 0) rfl) (prob_sB _)) <| gT rfl (bF h5) <| RL.callP rfl hH2 (c_scope_Right _  _ (hp.s.mono hH2.kw) (hT.hp hH2)) (run_call1 call32 rfl) <| fun w6 hH7 => gT rfl (bF h5) <| V (run_not rfl) <| V (run_pickF (bF h5) (v := B _) rfl) <| RL.nil <| CW.cond rfl (fun h10 => ?_) (fun h10 => ?_)
  ·refine SR <| va (v := B false) rfl <| RL.nil <| CW.ret <| outP1 Tryz.results14 (congrArg B ?_) hH7.below
   (rw [prob_no1 (nt ‹(!rightS p.s) = true›)]; done)
  ·refine CW.skip <| CW.seq <| SR <| V (fA underlying28 2 rfl sizeOf26 rfl) <| V (run_ldV (hp.asserts.sl.hp hH7) underlying26 rfl rfl (hH7.cell (i := 0) rfl rfl)) <| V (run_lenSl (hp.asserts.sl.hp hH7) rfl underlying26 rfl) <| vm (v := I 0) rfl <| RL.nil <| CW.block <| have hsz : ¬ 64 < p.asserts.length := (by omega); CW.loop (G := Int) (fun k s' w' => (Fr (2 :: (4 :: (rg 18 10 []))) _ s') ∧ (Hp w w' _) ∧ (s' 18 = I k) ∧ (0 ≤ k) ∧ (k ≤ p.asserts.length) ∧ (∀ j : Int, 0 ≤ j → j < k → assOk p.s (p.asserts.getD j.toNat ass0) = true)) (fun k => (p.asserts.length - k).toNat) (0) ⟨Fr.refl _ _, hH7, rfl, (by omega), (by omega), fun j a b => absurd b (by omega)⟩ <| ?_
   rintro k sg11 w11 ⟨fr11, hH11, e18_11, h0, hk, hg⟩
   have e1_11 := fr11.pp 1 rfl rfl
   have e16_11 := (fr11 16 rfl).trans (by conv => lhs; whnf)
   have e17_11 := fr11.ii 17 rfl rfl
   refine SR <| V (run_lss e18_11 e17_11) <| RL.nil <| CW.seq <| CW.condP rfl (fun h13 => ?_) (fun h13 => ?_)
   ·refine CW.skip <| CW.seq <| CW.block <| SR <| V (run_indexAddrS (hp.asserts.sl.hp hH11) underlying26 sizeOf46 e16_11 e18_11 (by omega)) <| V (run_ldE (dv := ass0) assL_len (hp.asserts.sl.hp hH11) underlying46 rfl rfl rfl (by omega)) <| RL.new rfl hH11 (f := fun b => (.pointer (some ⟨b, 0, none⟩))) (run_alloc zero_ass) <| fun b16 w14 hH15 => RL.set hH15 (i := 0) rfl (run_stW (c' := (assL _).toArray) rfl rfl rfl (assL_one (hp.at (by omega) (by omega))) (hH15.blk (i := 0) rfl) rfl) <| fun w17 hH18 => ?_
    simp only [z2] at hH18
    refine RL.nil <| SR <| V (fA underlying28 0 rfl sizeOf25 e1_11) <| V (run_ldSub (sub := scpL _) underlying25 rfl rfl rfl (hH18.blk (i := 1) rfl) (prob_sB _)) <| V (run_ldA (cs := assL _) underlying46 rfl rfl rfl (rangeAt_cells (hH18.blk (i := 0) rfl))) <| RL.callP rfl hH18 (c_fit_Right _ _  _ (hp.s.mono hH18.kw) ((hp.at (by omega) (by omega)).mono hH18.kw) (hT.hp hH18)) (run_call2 call33 rfl rfl) <| fun w19 hH20 => V (run_not rfl) <| RL.nil <| CW.cond rfl (fun h23 => ?_) (fun h23 => ?_)
    ·refine SR <| va (v := B false) rfl <| RL.nil <| CW.ret <| outP1 Tryz.results14 (congrArg B ?_) hH20.below
     (rw [prob_no3 h0 ‹k < _› (nt ‹(!assOk p.s _) = true›)]; done)
    ·refine CW.skip <| CW.region <| V (run_add e18_11 rfl (by omega)) <| mI rfl <| RL.nil <| ?_
     refine ⟨k + 1, ?_, fr11.u4.u4.u1.u1.u1, (hH20.sub (sQ sR)), (congrArg I (by rfl)), ?_, ?_, ?_⟩
     ·((try dsimp only); omega)
     ·omega
     ·omega
     ·exact fun j u v => if e : j = k then e ▸ nf ‹(!assOk _ _) = false› else hg j u (by omega)
   ·refine CW.exit (id := 0) rfl <| SR <| va (v := B true) rfl <| RL.nil <| CW.ret <| outP1 Tryz.results14 (congrArg B ?_) hH11.below
    (rw [prob_yes (nf ‹(!rightS p.s) = false›) (by omega) ‹¬ k < _› hg]; done)
theorem c_clearancelaw15_Many (x : AssR) (w : World) (hx : AssV (Kw w) x) : Calls Tryz.prog 19 #[.agg (assL x).toArray] w (Pure (B (manyF x)) w) := by
 have hm1 := hx.code.small
 have hm2 := hx.a.fields.small
 have hm3 := hx.b.fields.small
 unfold maxLen at hm1 hm2 hm3
 refine enter Tryz.func19 rfl Tryz.ntmps19 rfl <| have hH := Hp.start w; SR <| RL.new rfl hH (f := fun b => (.pointer (some ⟨b, 0, none⟩))) (run_box (v := .agg _) rfl) <| fun b3 w1 hH2 => va (v := B false) rfl <| RL.nil <| CW.seq <| SR <| V (fA underlying46 2 rfl sizeOf36 rfl) <| V (run_ldV (hx.code.sl.hp hH2) underlying36 rfl rfl (hH2.cell (i := 0) rfl rfl)) <| V (run_lenSl (hx.code.sl.hp hH2) rfl underlying36 rfl) <| V (run_gtr rfl rfl) <| mB rfl <| RL.splitP (dj := 9) rfl (fun h5 => ?_) (fun h5 => ?_)
 ·refine gF rfl (bT h5) <| gF rfl (bT h5) <| gF rfl (bT h5) <| gF rfl (bT h5) <| gF rfl (bT h5) <| V (run_pickT (bT h5) (v := B true) rfl) <| mB rfl <| gF rfl rfl <| gF rfl rfl <| gF rfl rfl <| gF rfl rfl <| gF rfl rfl <| V (run_pickT rfl (v := B true) rfl) <| mB rfl <| gF rfl rfl <| gF rfl rfl <| gF rfl rfl <| gF rfl rfl <| V (run_pickT rfl (v := B true) rfl) <| RL.nil <| CW.condT rfl <| SR <| va (v := B true) rfl <| RL.nil <| CW.ret <| outP1 Tryz.results19 (congrArg B ?_) hH2.below
  exact (many_yes1 (by omega)).symm
 ·refine gT rfl (bF h5) <| V (fA underlying46 12 rfl sizeOf44 rfl) <| gT rfl (bF h5) <| V (fA underlying44 0 rfl sizeOf42 rfl) <| gT rfl (bF h5) <| V (run_ldV (hx.a.fields.sl.hp hH2) underlying42 rfl rfl (hH2.cell (i := 0) rfl rfl)) <| gT rfl (bF h5) <| V (run_lenSl (hx.a.fields.sl.hp hH2) rfl underlying42 rfl) <| gT rfl (bF h5) <| V (run_gtr rfl rfl) <| V (run_pickF (bF h5) (v := B _) rfl) <| mB rfl <| RL.splitP (dj := 16) rfl (fun h7 => ?_) (fun h7 => ?_)
  ·refine gF rfl (bT h7) <| gF rfl (bT h7) <| gF rfl (bT h7) <| gF rfl (bT h7) <| gF rfl (bT h7) <| V (run_pickT (bT h7) (v := B true) rfl) <| mB rfl <| gF rfl rfl <| gF rfl rfl <| gF rfl rfl <| gF rfl rfl <| V (run_pickT rfl (v := B true) rfl) <| RL.nil <| CW.condT rfl <| SR <| va (v := B true) rfl <| RL.nil <| CW.ret <| outP1 Tryz.results19 (congrArg B ?_) hH2.below
   exact (many_yes1 (by omega)).symm
  ·refine gT rfl (bF h7) <| V (fA underlying46 14 rfl sizeOf44 rfl) <| gT rfl (bF h7) <| V (fA underlying44 0 rfl sizeOf42 rfl) <| gT rfl (bF h7) <| V (run_ldV (hx.b.fields.sl.hp hH2) underlying42 rfl rfl (hH2.cell (i := 0) rfl rfl)) <| gT rfl (bF h7) <| V (run_lenSl (hx.b.fields.sl.hp hH2) rfl underlying42 rfl) <| gT rfl (bF h7) <| V (run_gtr rfl rfl) <| V (run_pickF (bF h7) (v := B _) rfl) <| mB rfl <| RL.splitP (dj := 23) rfl (fun h9 => ?_) (fun h9 => ?_)
   ·refine gF rfl (bT h9) <| gF rfl (bT h9) <| gF rfl (bT h9) <| gF rfl (bT h9) <| V (run_pickT (bT h9) (v := B true) rfl) <| RL.nil <| CW.condT rfl <| SR <| va (v := B true) rfl <| RL.nil <| CW.ret <| outP1 Tryz.results19 (congrArg B ?_) hH2.below
    exact (many_yes1 (by omega)).symm
   ·refine gT rfl (bF h9) <| V (fA underlying46 17 rfl sizeOf9 rfl) <| gT rfl (bF h9) <| V (run_ld underlying9 rfl rfl (hH2.cell (i := 0) rfl (v := .string _) rfl)) <| gT rfl (bF h9) <| V (run_lenStr rfl underlying9 rfl) <| gT rfl (bF h9) <| V (run_gtr rfl rfl) <| V (run_pickF (bF h9) (v := B _) rfl) <| RL.nil <| CW.condP rfl (fun h11 => ?_) (fun h11 => ?_)
    ·refine SR <| va (v := B true) rfl <| RL.nil <| CW.ret <| outP1 Tryz.results19 (congrArg B ?_) hH2.below
     exact (many_yes1 (by omega)).symm
    ·refine CW.skip <| CW.seq <| CW.seq <| CW.regionD (by kernel_rfl) hH2 <| fun w12 hH13 => have zh13 := hH13.sub sR; AQ 1 rfl zh13 (fA underlying46 12 rfl sizeOf44 rfl) <| AQ 2 rfl zh13 (fA underlying44 0 rfl sizeOf42 rfl) <| AT 3 rfl zh13 (fun w hS => run_ldV (hx.a.fields.sl.hp hS) underlying42 rfl rfl (hS.cell (i := 0) rfl rfl)) <| AQ 5 rfl zh13 (fA underlying46 14 rfl sizeOf44 rfl) <| AQ 6 rfl zh13 (fA underlying44 0 rfl sizeOf42 rfl) <| AT 7 rfl zh13 (fun w hS => run_ldV (hx.b.fields.sl.hp hS) underlying42 rfl rfl (hS.cell (i := 0) rfl rfl)) <| AQ 10 rfl zh13 (mV (I 0) rfl) <| A1 0 <| AO.new rfl gnone rfl hH13 sR (f := fun b => .slice (some ⟨b, 0, none⟩) 0 0) (run_mkE underlying42 sizeOf71) <| fun b16 w14 hH15 => ?_
     (try simp only [clX] at hH15)
     have hH17 := hH15.blkRow 0 10 rfl (by decide)
     refine A1 4 <| AO.app rfl gnone rfl hH17 (j := 0) rfl (fun _ => (sQ sR)) (hx.a.fields.sl.hp hH17) rfl rfl underlying42 rfl rfl (size := 10) (bytes := 88) rfl rfl rfl (by decide) (fields_one _) (by show (0 + _) * _ ≤ _; omega) (by show 0 + _ ≤ _; simp only [maxLen]; omega) <| fun v20 w18 hH19 => ?_
     simp only [z2] at hH19
     refine A1 8 <| AO.app rfl gnone rfl hH19 (j := 0) rfl (fun _ => (sQ sR)) (hx.b.fields.sl.hp hH19) rfl rfl underlying42 rfl rfl (size := 10) (bytes := 88) rfl rfl rfl (by decide) (fields_one _) (by show (_ + _) * _ ≤ _; omega) (by show _ + _ ≤ _; simp only [maxLen]; omega) <| fun v23 w21 hH22 => ?_
     simp only [z2] at hH22
     refine A1 9 <| AO.read rfl gnone rfl hH22 (sQ sR) (run_lenSl (hH22.sl (i := 0) rfl) rfl underlying42 rfl) <| AD <| CW.block <| have hap : (x.a.fields ++ x.b.fields).length = x.a.fields.length + x.b.fields.length := List.length_append; ?_
     simp only [Nat.zero_add, List.nil_append, ← List.flatMap_append, ← List.length_append] at hH22
     refine CW.loop (G := Int) (fun k s' w' => (Fr (2 :: (4 :: (rg 39 9 []))) _ s') ∧ (Hp w w' _) ∧ (s' 39 = I k) ∧ (0 ≤ k) ∧ (k ≤ (x.a.fields ++ x.b.fields).length) ∧ (∀ j : Int, 0 ≤ j → j < k → decide (40 < ((x.a.fields ++ x.b.fields).getD j.toNat field0).name.size) = false)) (fun k => ((x.a.fields ++ x.b.fields).length - k).toNat) (0) ⟨Fr.refl _ _, hH22, rfl, (by omega), (by omega), fun j a b => absurd b (by omega)⟩ ?_
     rintro k sg26 w26 ⟨fr26, hH26, e39_26, h0, hk, hg⟩
     have e37_26 := (fr26 37 rfl).trans (by conv => lhs; whnf)
     have e38_26 := fr26.ii 38 rfl rfl
     refine SR <| V (run_lss e39_26 e38_26) <| RL.nil <| CW.seq <| CW.condP rfl (fun h28 => ?_) (fun h28 => ?_)
     ·refine CW.skip <| CW.seq <| CW.block <| SR <| V (run_indexAddrS (hH26.sl (i := 0) rfl) underlying42 sizeOf71 e37_26 e39_26 (by omega)) <| V (run_ldE (dv := field0) fieldL_len (hH26.sl (i := 0) rfl) underlying71 rfl rfl rfl (by omega)) <| RL.new rfl hH26 (f := fun b => (.pointer (some ⟨b, 0, none⟩))) (run_alloc zero_field) <| fun b31 w29 hH30 => RL.set hH30 (i := 0) rfl (run_stW (c' := (fieldL _).toArray) rfl rfl rfl (fieldL_one _) (hH30.blk (i := 0) rfl) rfl) <| fun w32 hH33 => ?_
      simp only [z2] at hH33
      refine RL.nil <| SR <| V (fA underlying71 0 rfl sizeOf9 rfl) <| V (run_ld underlying9 rfl rfl (hH33.cell (i := 0) rfl (v := .string _) rfl)) <| V (run_lenStr rfl underlying9 rfl) <| V (run_gtr rfl rfl) <| RL.nil <| CW.condP rfl (fun h35 => ?_) (fun h35 => ?_)
      ·refine SR <| va (v := B true) rfl <| RL.nil <| CW.ret <| outP1 Tryz.results19 (congrArg B ?_) hH33.below
       exact (many_yes2 rfl h0 (by omega) (by omega)).symm
      ·refine CW.skip <| CW.region <| V (run_add e39_26 rfl (by omega)) <| mI rfl <| RL.nil <| ?_
       refine ⟨k + 1, ?_, fr26.u4.u4.u1.u1, (hH33.sub (sQ sR)), (congrArg I (by rfl)), ?_, ?_, ?_⟩
       ·((try dsimp only); omega)
       ·omega
       ·omega
       ·exact fun j u v => if e : j = k then e ▸ decide_eq_false (by omega) else hg j u (by omega)
     ·refine CW.exit (id := 0) rfl <| SR <| va (v := B false) rfl <| RL.nil <| CW.ret <| outP1 Tryz.results19 (congrArg B ?_) hH26.below
      exact (many_no rfl (by omega) (by omega) hg).symm
theorem c_clearancelaw19_Big (p : ProbR) (w : World) (hp : ProbV (Kw w) p) : Calls Tryz.prog 5 #[.agg (probL p).toArray] w (Pure (B (bigP p)) w) := by
 have hm1 := hp.asserts.small
 unfold maxLen at hm1
 refine enter Tryz.func5 rfl Tryz.ntmps5 rfl <| have hH := Hp.start w; SR <| RL.new rfl hH (f := fun b => (.pointer (some ⟨b, 0, none⟩))) (run_box (v := .agg _) rfl) <| fun b3 w1 hH2 => va (v := B false) rfl <| RL.nil <| CW.seq <| SR <| V (fA underlying28 0 rfl sizeOf25 rfl) <| V (run_ldSub (sub := scpL _) underlying25 rfl rfl rfl (hH2.blk (i := 0) rfl) (prob_sB _)) <| RL.callP rfl hH2 (c_clearancelaw13_Big _  _ (hp.s.mono hH2.kw)) (run_call1 call18 rfl) <| fun w4 hH5 => mB rfl <| RL.split (dj := 8) rfl (fun h7 => ?_) (fun h7 => ?_)
 ·refine gF rfl (bR (c := true) h7) <| gF rfl (bR (c := true) h7) <| gF rfl (bR (c := true) h7) <| gF rfl (bR (c := true) h7) <| V (run_pickT (bR (c := true) h7) (v := B true) rfl) <| RL.nil <| CW.condT rfl <| SR <| va (v := B true) rfl <| RL.nil <| CW.ret <| outP1 Tryz.results5 (congrArg B ?_) hH5.below
  exact (bigP_yes1 (.inl ‹_›)).symm
 ·refine gT rfl (bR (c := false) h7) <| V (fA underlying28 2 rfl sizeOf26 rfl) <| gT rfl (bR (c := false) h7) <| V (run_ldV (hp.asserts.sl.hp hH5) underlying26 rfl rfl (hH5.cell (i := 0) rfl rfl)) <| gT rfl (bR (c := false) h7) <| V (run_lenSl (hp.asserts.sl.hp hH5) rfl underlying26 rfl) <| gT rfl (bR (c := false) h7) <| V (run_gtr rfl rfl) <| V (run_pickF (bR (c := false) h7) (v := B _) rfl) <| RL.nil <| CW.condP rfl (fun h9 => ?_) (fun h9 => ?_)
  ·refine SR <| va (v := B true) rfl <| RL.nil <| CW.ret <| outP1 Tryz.results5 (congrArg B ?_) hH5.below
   exact (bigP_yes1 (.inr (by omega))).symm
  ·refine CW.skip <| CW.seq <| SR <| V (fA underlying28 2 rfl sizeOf26 rfl) <| V (run_ldV (hp.asserts.sl.hp hH5) underlying26 rfl rfl (hH5.cell (i := 0) rfl rfl)) <| V (run_lenSl (hp.asserts.sl.hp hH5) rfl underlying26 rfl) <| vm (v := I 0) rfl <| RL.nil <| CW.block <| CW.loop (G := Int) (fun k s' w' => (Fr (2 :: (4 :: (rg 17 7 []))) _ s') ∧ (Hp w w' _) ∧ (s' 17 = I k) ∧ (0 ≤ k) ∧ (k ≤ p.asserts.length) ∧ (∀ j : Int, 0 ≤ j → j < k → manyF (p.asserts.getD j.toNat ass0) = false)) (fun k => (p.asserts.length - k).toNat) (0) ⟨Fr.refl _ _, hH5, rfl, (by omega), (by omega), fun j a b => absurd b (by omega)⟩ <| ?_
   rintro k sg10 w10 ⟨fr10, hH10, e17_10, h0, hk, hg⟩
   have e15_10 := (fr10 15 rfl).trans (by conv => lhs; whnf)
   have e16_10 := fr10.ii 16 rfl rfl
   refine SR <| V (run_lss e17_10 e16_10) <| RL.nil <| CW.seq <| CW.condP rfl (fun h12 => ?_) (fun h12 => ?_)
   ·refine CW.skip <| CW.seq <| CW.block <| SR <| V (run_indexAddrS (hp.asserts.sl.hp hH10) underlying26 sizeOf46 e15_10 e17_10 (by omega)) <| V (run_ldE (dv := ass0) assL_len (hp.asserts.sl.hp hH10) underlying46 rfl rfl rfl (by omega)) <| RL.new rfl hH10 (f := fun b => (.pointer (some ⟨b, 0, none⟩))) (run_alloc zero_ass) <| fun b15 w13 hH14 => RL.set hH14 (i := 0) rfl (run_stW (c' := (assL _).toArray) rfl rfl rfl (assL_one (hp.at (by omega) (by omega))) (hH14.blk (i := 0) rfl) rfl) <| fun w16 hH17 => ?_
    simp only [z2] at hH17
    refine RL.nil <| SR <| V (run_ldA (cs := assL _) underlying46 rfl rfl rfl (rangeAt_cells (hH17.blk (i := 0) rfl))) <| RL.callP rfl hH17 (c_clearancelaw15_Many _  _ ((hp.at (by omega) (by omega)).mono hH17.kw)) (run_call1 call19 rfl) <| fun w18 hH19 => RL.nil <| CW.cond rfl (fun h21 => ?_) (fun h21 => ?_)
    ·refine SR <| va (v := B true) rfl <| RL.nil <| CW.ret <| outP1 Tryz.results5 (congrArg B ?_) hH19.below
     exact (bigP_yes2 h0 ‹k < _› ‹_›).symm
    ·refine CW.skip <| CW.region <| V (run_add e17_10 rfl (by omega)) <| mI rfl <| RL.nil <| ?_
     refine ⟨k + 1, ?_, fr10.u4.u4, (hH19.sub (sQ sR)), (congrArg I (by rfl)), ?_, ?_, ?_⟩
     ·((try dsimp only); omega)
     ·omega
     ·omega
     ·exact fun j u v => if e : j = k then e ▸ ‹manyF _ = false› else hg j u (by omega)
   ·refine CW.exit (id := 0) rfl <| SR <| va (v := B false) rfl <| RL.nil <| CW.ret <| outP1 Tryz.results5 (congrArg B ?_) hH10.below
    exact (bigP_not ‹_› (by omega) ‹¬ k < _› hg).symm
set_option maxHeartbeats 4000000 in
theorem c_clearancelaw19_alive  (w : World) (hT : Tab w) : Calls Tryz.prog 7 #[] w (Pure (B true) w) := by
 refine enter Tryz.func7 rfl Tryz.ntmps7 rfl <| have hH := Hp.start w; SR <| va (v := B false) rfl <| RL.nil <| SR <| RL.new rfl hH (f := fun b => (.slice (some ⟨b, 0, none⟩) 2 2)) (run_mkL underlying57 rfl rfl (sz := 1) (vs := [.string ⟨#[108, 111]⟩, .string ⟨#[104, 105]⟩]) rfl rfl (by decide) (by decide) rfl rfl) <| fun b3 w1 hH2 => ?_
 (try simp only [clX] at hH2)
 have hH4 : Hp _ w1 ([Ent.blk b3 (.cells (txL exLH).toArray 9 (0, 0))]) := Hp.zin0 (Z := [Ent.blk b3 (.cells (txL exLH).toArray 9 (0, 0))]) (L := []) hH2
 have hv5 : SlV (Kz (Kw w) [Ent.blk b3 (.cells (txL exLH).toArray 9 (0, 0))]) (.slice (some ⟨b3, 0, none⟩) 2 2) 1 2 (txL exLH) := slv_blk (List.mem_cons_self ..) rfl (by simp [maxLen])
 refine V (run_bld (vs := [(0, I 1), (1, .slice (some ⟨b3, 0, none⟩) 2 2)]) rfl (built_fac 1 b3 2 exLH)) <| RL.new rfl hH4 (f := fun b => (.slice (some ⟨b, 0, none⟩) 1 1)) (run_mkFacs underlying63 rfl rfl rfl (l := [_]) rfl (by decide) (by decide) rfl) <| fun b8 w6 hH7 => have hH9 : Hp _ w6 (([Ent.blk b8 (.cells ([(⟨1, .slice (some ⟨b3, 0, none⟩) 2 2, exLH, Rl.none⟩ : Fac)].flatMap facL).toArray 62 (0, 0))] ++ [Ent.blk b3 (.cells (txL exLH).toArray 9 (0, 0))])) := Hp.zin (Z := [Ent.blk b8 (.cells ([(⟨1, .slice (some ⟨b3, 0, none⟩) 2 2, exLH, Rl.none⟩ : Fac)].flatMap facL).toArray 62 (0, 0))]) (L := []) (L' := [Ent.blk b3 (.cells (txL exLH).toArray 9 (0, 0))]) hH7; have hv10 : SlV (Kz (Kw w) [Ent.blk b8 (.cells ([(⟨1, .slice (some ⟨b3, 0, none⟩) 2 2, exLH, Rl.none⟩ : Fac)].flatMap facL).toArray 62 (0, 0))]) (.slice (some ⟨b8, 0, none⟩) 1 1) 67 1 ([(⟨1, .slice (some ⟨b3, 0, none⟩) 2 2, exLH, Rl.none⟩ : Fac)].flatMap facL) := slv_blk (List.mem_cons_self ..) (flat_length facL_len _) (by simp [maxLen]); V (run_bld (vs := [(1, .slice (some ⟨b8, 0, none⟩) 1 1)]) rfl (built_shp1 rfl)) <| V (run_bld (vs := [(0, S ⟨#[107]⟩), (1, .agg (shpC (⟨false, .slice (some ⟨b8, 0, none⟩) 1 1, [(⟨1, .slice (some ⟨b3, 0, none⟩) 2 2, exLH, Rl.none⟩ : Fac)]⟩ : Shp)))]) rfl (built_lat _ _)) <| RL.new rfl hH9 (f := fun b => (.slice (some ⟨b, 0, none⟩) 1 1)) (run_mkRecs latL_len underlying22 rfl rfl rfl (l := [_]) rfl (by decide) (by decide) rfl) <| fun b13 w11 hH12 => have hH14 : Hp _ w11 (([Ent.blk b13 (.cells ([(⟨⟨#[107]⟩, (⟨false, .slice (some ⟨b8, 0, none⟩) 1 1, [(⟨1, .slice (some ⟨b3, 0, none⟩) 2 2, exLH, Rl.none⟩ : Fac)]⟩ : Shp)⟩ : LatR)].flatMap latL).toArray 67 (0, 0))] ++ ([Ent.blk b8 (.cells ([(⟨1, .slice (some ⟨b3, 0, none⟩) 2 2, exLH, Rl.none⟩ : Fac)].flatMap facL).toArray 62 (0, 0))] ++ [Ent.blk b3 (.cells (txL exLH).toArray 9 (0, 0))]))) := Hp.zin (Z := [Ent.blk b13 (.cells ([(⟨⟨#[107]⟩, (⟨false, .slice (some ⟨b8, 0, none⟩) 1 1, [(⟨1, .slice (some ⟨b3, 0, none⟩) 2 2, exLH, Rl.none⟩ : Fac)]⟩ : Shp)⟩ : LatR)].flatMap latL).toArray 67 (0, 0))]) (L := []) (L' := ([Ent.blk b8 (.cells ([(⟨1, .slice (some ⟨b3, 0, none⟩) 2 2, exLH, Rl.none⟩ : Fac)].flatMap facL).toArray 62 (0, 0))] ++ [Ent.blk b3 (.cells (txL exLH).toArray 9 (0, 0))])) hH12; have hv15 : SlV (Kz (Kw w) [Ent.blk b13 (.cells ([(⟨⟨#[107]⟩, (⟨false, .slice (some ⟨b8, 0, none⟩) 1 1, [(⟨1, .slice (some ⟨b3, 0, none⟩) 2 2, exLH, Rl.none⟩ : Fac)]⟩ : Shp)⟩ : LatR)].flatMap latL).toArray 67 (0, 0))]) (.slice (some ⟨b13, 0, none⟩) 1 1) 3 1 ([(⟨⟨#[107]⟩, (⟨false, .slice (some ⟨b8, 0, none⟩) 1 1, [(⟨1, .slice (some ⟨b3, 0, none⟩) 2 2, exLH, Rl.none⟩ : Fac)]⟩ : Shp)⟩ : LatR)].flatMap latL) := slv_blk (List.mem_cons_self ..) (flat_length latL_len _) (by simp [maxLen]); V (run_bld (vs := [(0, .string ⟨#[114]⟩), (1, I 2)]) rfl (built_varL_0_1 _ _)) <| RL.new rfl hH14 (f := fun b => (.slice (some ⟨b, 0, none⟩) 1 1)) (run_mkRecs varL_len underlying23 rfl rfl rfl (l := [_]) rfl (by decide) (by decide) rfl) <| fun b18 w16 hH17 => have hH19 : Hp _ w16 (([Ent.blk b18 (.cells (([⟨⟨#[114]⟩, 2, 0⟩] : List VarR).flatMap varL).toArray 69 (0, 0))] ++ ([Ent.blk b13 (.cells ([(⟨⟨#[107]⟩, (⟨false, .slice (some ⟨b8, 0, none⟩) 1 1, [(⟨1, .slice (some ⟨b3, 0, none⟩) 2 2, exLH, Rl.none⟩ : Fac)]⟩ : Shp)⟩ : LatR)].flatMap latL).toArray 67 (0, 0))] ++ ([Ent.blk b8 (.cells ([(⟨1, .slice (some ⟨b3, 0, none⟩) 2 2, exLH, Rl.none⟩ : Fac)].flatMap facL).toArray 62 (0, 0))] ++ [Ent.blk b3 (.cells (txL exLH).toArray 9 (0, 0))])))) := Hp.zin (Z := [Ent.blk b18 (.cells (([⟨⟨#[114]⟩, 2, 0⟩] : List VarR).flatMap varL).toArray 69 (0, 0))]) (L := []) (L' := ([Ent.blk b13 (.cells ([(⟨⟨#[107]⟩, (⟨false, .slice (some ⟨b8, 0, none⟩) 1 1, [(⟨1, .slice (some ⟨b3, 0, none⟩) 2 2, exLH, Rl.none⟩ : Fac)]⟩ : Shp)⟩ : LatR)].flatMap latL).toArray 67 (0, 0))] ++ ([Ent.blk b8 (.cells ([(⟨1, .slice (some ⟨b3, 0, none⟩) 2 2, exLH, Rl.none⟩ : Fac)].flatMap facL).toArray 62 (0, 0))] ++ [Ent.blk b3 (.cells (txL exLH).toArray 9 (0, 0))]))) hH17; have hv20 : SlV (Kz (Kw w) [Ent.blk b18 (.cells (([⟨⟨#[114]⟩, 2, 0⟩] : List VarR).flatMap varL).toArray 69 (0, 0))]) (.slice (some ⟨b18, 0, none⟩) 1 1) 3 1 (([⟨⟨#[114]⟩, 2, 0⟩] : List VarR).flatMap varL) := slv_blk (List.mem_cons_self ..) (flat_length varL_len _) (by simp [maxLen]); V (run_bld (vs := [(0, .slice (some ⟨b13, 0, none⟩) 1 1), (1, .slice (some ⟨b18, 0, none⟩) 1 1)]) rfl (built_scpV rfl rfl)) <| have hs21 : ScpV (Kz (Kw w) ([Ent.blk b18 (.cells (([⟨⟨#[114]⟩, 2, 0⟩] : List VarR).flatMap varL).toArray 69 (0, 0))] ++ ([Ent.blk b13 (.cells ([(⟨⟨#[107]⟩, (⟨false, .slice (some ⟨b8, 0, none⟩) 1 1, [(⟨1, .slice (some ⟨b3, 0, none⟩) 2 2, exLH, Rl.none⟩ : Fac)]⟩ : Shp)⟩ : LatR)].flatMap latL).toArray 67 (0, 0))] ++ ([Ent.blk b8 (.cells ([(⟨1, .slice (some ⟨b3, 0, none⟩) 2 2, exLH, Rl.none⟩ : Fac)].flatMap facL).toArray 62 (0, 0))] ++ [Ent.blk b3 (.cells (txL exLH).toArray 9 (0, 0))])))) (exS9 (.slice (some ⟨b13, 0, none⟩) 1 1) (.slice (some ⟨b8, 0, none⟩) 1 1) (.slice (some ⟨b3, 0, none⟩) 2 2) (.slice (some ⟨b18, 0, none⟩) 1 1)) := ⟨(hv15.mono (Le.zz (fun x hx => (List.mem_append_right _ (List.mem_append_left _ hx))))), (hv20.mono (Le.zz (fun x hx => (List.mem_append_left _ hx)))), fun x hx => by rw [List.mem_singleton.1 hx]; exact ⟨(hv10.mono (Le.zz (fun x hx => (List.mem_append_right _ (List.mem_append_right _ (List.mem_append_left _ hx)))))), fun y hy => by rw [List.mem_singleton.1 hy]; exact ⟨(hv5.mono (Le.zz (fun x hx => (List.mem_append_right _ (List.mem_append_right _ (List.mem_append_right _ hx))))))⟩⟩⟩; RL.new rfl hH19 (f := fun b => (.pointer (some ⟨b, 0, none⟩))) (run_alloc Tryz.zeroValue25) <| fun b24 w22 hH23 => RL.set hH23 (i := 0) rfl (run_stW (c' := (scpL (exS9 (.slice (some ⟨b13, 0, none⟩) 1 1) (.slice (some ⟨b8, 0, none⟩) 1 1) (.slice (some ⟨b3, 0, none⟩) 2 2) (.slice (some ⟨b18, 0, none⟩) 1 1))).toArray) rfl rfl rfl (scpL_one hs21) (hH23.blk (i := 0) rfl) rfl) <| fun w25 hH26 => ?_
 simp only [z2] at hH26
 refine RL.nil <| SR <| V (run_bld (vs := []) rfl (built_el0)) <| RL.new rfl hH26 (f := fun b => (.slice (some ⟨b, 0, none⟩) 1 1)) (run_mkEl1 underlying29 rfl rfl rfl rfl) <| fun b29 w27 hH28 => have hH30 : Hp _ w27 (_ :: ([Ent.blk b29 (.cells (([el0] : List El).flatMap elL).toArray 39 (0, 0))] ++ ([Ent.blk b18 (.cells (([⟨⟨#[114]⟩, 2, 0⟩] : List VarR).flatMap varL).toArray 69 (0, 0))] ++ ([Ent.blk b13 (.cells ([(⟨⟨#[107]⟩, (⟨false, .slice (some ⟨b8, 0, none⟩) 1 1, [(⟨1, .slice (some ⟨b3, 0, none⟩) 2 2, exLH, Rl.none⟩ : Fac)]⟩ : Shp)⟩ : LatR)].flatMap latL).toArray 67 (0, 0))] ++ ([Ent.blk b8 (.cells ([(⟨1, .slice (some ⟨b3, 0, none⟩) 2 2, exLH, Rl.none⟩ : Fac)].flatMap facL).toArray 62 (0, 0))] ++ [Ent.blk b3 (.cells (txL exLH).toArray 9 (0, 0))]))))) := Hp.zin (Z := [Ent.blk b29 (.cells (([el0] : List El).flatMap elL).toArray 39 (0, 0))]) (L := [_]) (L' := ([Ent.blk b18 (.cells (([⟨⟨#[114]⟩, 2, 0⟩] : List VarR).flatMap varL).toArray 69 (0, 0))] ++ ([Ent.blk b13 (.cells ([(⟨⟨#[107]⟩, (⟨false, .slice (some ⟨b8, 0, none⟩) 1 1, [(⟨1, .slice (some ⟨b3, 0, none⟩) 2 2, exLH, Rl.none⟩ : Fac)]⟩ : Shp)⟩ : LatR)].flatMap latL).toArray 67 (0, 0))] ++ ([Ent.blk b8 (.cells ([(⟨1, .slice (some ⟨b3, 0, none⟩) 2 2, exLH, Rl.none⟩ : Fac)].flatMap facL).toArray 62 (0, 0))] ++ [Ent.blk b3 (.cells (txL exLH).toArray 9 (0, 0))])))) hH28; have hv31 : SlV (Kz (Kw w) [Ent.blk b29 (.cells (([el0] : List El).flatMap elL).toArray 39 (0, 0))]) (.slice (some ⟨b29, 0, none⟩) 1 1) 8 1 (([el0] : List El).flatMap elL) := slv_blk (List.mem_cons_self ..) (flat_length elL_len _) (by simp [maxLen]); V (run_bld (vs := [(0, U 1#64)]) rfl (built_el1 _)) <| V (run_bld (vs := [(0, S _), (1, .agg (elC _))]) rfl (built_val _ _)) <| RL.new rfl hH30 (f := fun b => (.slice (some ⟨b, 0, none⟩) 1 1)) (run_mkRecs valL_len underlying54 rfl rfl rfl (l := [_]) rfl (by decide) (by decide) rfl) <| fun b34 w32 hH33 => have hH35 : Hp _ w32 (_ :: ([Ent.blk b34 (.cells (([⟨exF9, exE9⟩] : List ValR).flatMap valL).toArray 56 (0, 0))] ++ ([Ent.blk b29 (.cells (([el0] : List El).flatMap elL).toArray 39 (0, 0))] ++ ([Ent.blk b18 (.cells (([⟨⟨#[114]⟩, 2, 0⟩] : List VarR).flatMap varL).toArray 69 (0, 0))] ++ ([Ent.blk b13 (.cells ([(⟨⟨#[107]⟩, (⟨false, .slice (some ⟨b8, 0, none⟩) 1 1, [(⟨1, .slice (some ⟨b3, 0, none⟩) 2 2, exLH, Rl.none⟩ : Fac)]⟩ : Shp)⟩ : LatR)].flatMap latL).toArray 67 (0, 0))] ++ ([Ent.blk b8 (.cells ([(⟨1, .slice (some ⟨b3, 0, none⟩) 2 2, exLH, Rl.none⟩ : Fac)].flatMap facL).toArray 62 (0, 0))] ++ [Ent.blk b3 (.cells (txL exLH).toArray 9 (0, 0))])))))) := Hp.zin (Z := [Ent.blk b34 (.cells (([⟨exF9, exE9⟩] : List ValR).flatMap valL).toArray 56 (0, 0))]) (L := [_]) (L' := ([Ent.blk b29 (.cells (([el0] : List El).flatMap elL).toArray 39 (0, 0))] ++ ([Ent.blk b18 (.cells (([⟨⟨#[114]⟩, 2, 0⟩] : List VarR).flatMap varL).toArray 69 (0, 0))] ++ ([Ent.blk b13 (.cells ([(⟨⟨#[107]⟩, (⟨false, .slice (some ⟨b8, 0, none⟩) 1 1, [(⟨1, .slice (some ⟨b3, 0, none⟩) 2 2, exLH, Rl.none⟩ : Fac)]⟩ : Shp)⟩ : LatR)].flatMap latL).toArray 67 (0, 0))] ++ ([Ent.blk b8 (.cells ([(⟨1, .slice (some ⟨b3, 0, none⟩) 2 2, exLH, Rl.none⟩ : Fac)].flatMap facL).toArray 62 (0, 0))] ++ [Ent.blk b3 (.cells (txL exLH).toArray 9 (0, 0))]))))) hH33; have hv36 : SlV (Kz (Kw w) [Ent.blk b34 (.cells (([⟨exF9, exE9⟩] : List ValR).flatMap valL).toArray 56 (0, 0))]) (.slice (some ⟨b34, 0, none⟩) 1 1) 9 1 (([⟨exF9, exE9⟩] : List ValR).flatMap valL) := slv_blk (List.mem_cons_self ..) (flat_length valL_len _) (by simp [maxLen]); RL.new rfl hH35 (f := fun b => (.slice (some ⟨b, 0, none⟩) 1 1)) (run_mkSl1 (v := .slice (some ⟨b34, 0, none⟩) 1 1) rfl underlying30 rfl rfl rfl rfl) <| fun b39 w37 hH38 => have hH40 : Hp _ w37 (_ :: ([Ent.blk b39 (.cells (([.slice (some ⟨b34, 0, none⟩) 1 1] : List Value)).toArray 54 (0, 0))] ++ ([Ent.blk b34 (.cells (([⟨exF9, exE9⟩] : List ValR).flatMap valL).toArray 56 (0, 0))] ++ ([Ent.blk b29 (.cells (([el0] : List El).flatMap elL).toArray 39 (0, 0))] ++ ([Ent.blk b18 (.cells (([⟨⟨#[114]⟩, 2, 0⟩] : List VarR).flatMap varL).toArray 69 (0, 0))] ++ ([Ent.blk b13 (.cells ([(⟨⟨#[107]⟩, (⟨false, .slice (some ⟨b8, 0, none⟩) 1 1, [(⟨1, .slice (some ⟨b3, 0, none⟩) 2 2, exLH, Rl.none⟩ : Fac)]⟩ : Shp)⟩ : LatR)].flatMap latL).toArray 67 (0, 0))] ++ ([Ent.blk b8 (.cells ([(⟨1, .slice (some ⟨b3, 0, none⟩) 2 2, exLH, Rl.none⟩ : Fac)].flatMap facL).toArray 62 (0, 0))] ++ [Ent.blk b3 (.cells (txL exLH).toArray 9 (0, 0))]))))))) := Hp.zin (Z := [Ent.blk b39 (.cells (([.slice (some ⟨b34, 0, none⟩) 1 1] : List Value)).toArray 54 (0, 0))]) (L := [_]) (L' := ([Ent.blk b34 (.cells (([⟨exF9, exE9⟩] : List ValR).flatMap valL).toArray 56 (0, 0))] ++ ([Ent.blk b29 (.cells (([el0] : List El).flatMap elL).toArray 39 (0, 0))] ++ ([Ent.blk b18 (.cells (([⟨⟨#[114]⟩, 2, 0⟩] : List VarR).flatMap varL).toArray 69 (0, 0))] ++ ([Ent.blk b13 (.cells ([(⟨⟨#[107]⟩, (⟨false, .slice (some ⟨b8, 0, none⟩) 1 1, [(⟨1, .slice (some ⟨b3, 0, none⟩) 2 2, exLH, Rl.none⟩ : Fac)]⟩ : Shp)⟩ : LatR)].flatMap latL).toArray 67 (0, 0))] ++ ([Ent.blk b8 (.cells ([(⟨1, .slice (some ⟨b3, 0, none⟩) 2 2, exLH, Rl.none⟩ : Fac)].flatMap facL).toArray 62 (0, 0))] ++ [Ent.blk b3 (.cells (txL exLH).toArray 9 (0, 0))])))))) hH38; have hv41 : SlV (Kz (Kw w) [Ent.blk b39 (.cells (([.slice (some ⟨b34, 0, none⟩) 1 1] : List Value)).toArray 54 (0, 0))]) (.slice (some ⟨b39, 0, none⟩) 1 1) 1 1 (([.slice (some ⟨b34, 0, none⟩) 1 1] : List Value)) := slv_blk (List.mem_cons_self ..) rfl (by simp [maxLen]); V (run_bld (vs := [(0, .slice (some ⟨b29, 0, none⟩) 1 1), (1, .slice (some ⟨b39, 0, none⟩) 1 1)]) rfl (built_asgV rfl rfl)) <| have ha42 : AsgV (Kz (Kw w) ([Ent.blk b39 (.cells (([.slice (some ⟨b34, 0, none⟩) 1 1] : List Value)).toArray 54 (0, 0))] ++ ([Ent.blk b34 (.cells (([⟨exF9, exE9⟩] : List ValR).flatMap valL).toArray 56 (0, 0))] ++ ([Ent.blk b29 (.cells (([el0] : List El).flatMap elL).toArray 39 (0, 0))] ++ ([Ent.blk b18 (.cells (([⟨⟨#[114]⟩, 2, 0⟩] : List VarR).flatMap varL).toArray 69 (0, 0))] ++ ([Ent.blk b13 (.cells ([(⟨⟨#[107]⟩, (⟨false, .slice (some ⟨b8, 0, none⟩) 1 1, [(⟨1, .slice (some ⟨b3, 0, none⟩) 2 2, exLH, Rl.none⟩ : Fac)]⟩ : Shp)⟩ : LatR)].flatMap latL).toArray 67 (0, 0))] ++ ([Ent.blk b8 (.cells ([(⟨1, .slice (some ⟨b3, 0, none⟩) 2 2, exLH, Rl.none⟩ : Fac)].flatMap facL).toArray 62 (0, 0))] ++ [Ent.blk b3 (.cells (txL exLH).toArray 9 (0, 0))]))))))) (exA9 (.slice (some ⟨b29, 0, none⟩) 1 1) (.slice (some ⟨b39, 0, none⟩) 1 1) (.slice (some ⟨b34, 0, none⟩) 1 1)) := ⟨(hv31.mono (Le.zz (fun x hx => (List.mem_append_right _ (List.mem_append_right _ (List.mem_append_left _ hx)))))), (hv41.mono (Le.zz (fun x hx => (List.mem_append_left _ hx)))), (RowsV.nil _).snoc (r := ⟨.slice (some ⟨b34, 0, none⟩) 1 1, [⟨exF9, exE9⟩]⟩) (hv36.mono (Le.zz (fun x hx => (List.mem_append_right _ (List.mem_append_left _ hx)))))⟩; RL.new rfl hH40 (f := fun b => (.pointer (some ⟨b, 0, none⟩))) (run_alloc zero_asg) <| fun b45 w43 hH44 => RL.set hH44 (i := 0) rfl (run_stW (c' := (asgL (exA9 (.slice (some ⟨b29, 0, none⟩) 1 1) (.slice (some ⟨b39, 0, none⟩) 1 1) (.slice (some ⟨b34, 0, none⟩) 1 1))).toArray) rfl rfl rfl (asgL_one ha42) (hH44.blk (i := 0) rfl) rfl) <| fun w46 hH47 => ?_
 simp only [z2] at hH47
 refine RL.nil <| SR <| V (run_bld (vs := [(1, I 0)]) rfl (built_row1 0)) <| V (run_bld (vs := [(0, U 1#64)]) rfl (built_el1 _)) <| V (run_bld (vs := [(0, I (-1)), (1, .agg (elC _))]) rfl (built_atom _ _)) <| V (run_bld (vs := [(0, S exF9), (1, .agg (atomL _).toArray)]) rfl (built_field _ _)) <| RL.new rfl hH47 (f := fun b => (.slice (some ⟨b, 0, none⟩) 1 1)) (run_mkRecs fieldL_len underlying42 rfl rfl rfl (l := [_]) rfl (by decide) (by decide) rfl) <| fun b50 w48 hH49 => have hH51 : Hp _ w48 (_ :: _ :: ([Ent.blk b50 (.cells (([⟨exF9, ⟨-1, exE9⟩⟩] : List FieldR).flatMap fieldL).toArray 71 (0, 0))] ++ ([Ent.blk b39 (.cells (([.slice (some ⟨b34, 0, none⟩) 1 1] : List Value)).toArray 54 (0, 0))] ++ ([Ent.blk b34 (.cells (([⟨exF9, exE9⟩] : List ValR).flatMap valL).toArray 56 (0, 0))] ++ ([Ent.blk b29 (.cells (([el0] : List El).flatMap elL).toArray 39 (0, 0))] ++ ([Ent.blk b18 (.cells (([⟨⟨#[114]⟩, 2, 0⟩] : List VarR).flatMap varL).toArray 69 (0, 0))] ++ ([Ent.blk b13 (.cells ([(⟨⟨#[107]⟩, (⟨false, .slice (some ⟨b8, 0, none⟩) 1 1, [(⟨1, .slice (some ⟨b3, 0, none⟩) 2 2, exLH, Rl.none⟩ : Fac)]⟩ : Shp)⟩ : LatR)].flatMap latL).toArray 67 (0, 0))] ++ ([Ent.blk b8 (.cells ([(⟨1, .slice (some ⟨b3, 0, none⟩) 2 2, exLH, Rl.none⟩ : Fac)].flatMap facL).toArray 62 (0, 0))] ++ [Ent.blk b3 (.cells (txL exLH).toArray 9 (0, 0))])))))))) := Hp.zin (Z := [Ent.blk b50 (.cells (([⟨exF9, ⟨-1, exE9⟩⟩] : List FieldR).flatMap fieldL).toArray 71 (0, 0))]) (L := [_, _]) (L' := ([Ent.blk b39 (.cells (([.slice (some ⟨b34, 0, none⟩) 1 1] : List Value)).toArray 54 (0, 0))] ++ ([Ent.blk b34 (.cells (([⟨exF9, exE9⟩] : List ValR).flatMap valL).toArray 56 (0, 0))] ++ ([Ent.blk b29 (.cells (([el0] : List El).flatMap elL).toArray 39 (0, 0))] ++ ([Ent.blk b18 (.cells (([⟨⟨#[114]⟩, 2, 0⟩] : List VarR).flatMap varL).toArray 69 (0, 0))] ++ ([Ent.blk b13 (.cells ([(⟨⟨#[107]⟩, (⟨false, .slice (some ⟨b8, 0, none⟩) 1 1, [(⟨1, .slice (some ⟨b3, 0, none⟩) 2 2, exLH, Rl.none⟩ : Fac)]⟩ : Shp)⟩ : LatR)].flatMap latL).toArray 67 (0, 0))] ++ ([Ent.blk b8 (.cells ([(⟨1, .slice (some ⟨b3, 0, none⟩) 2 2, exLH, Rl.none⟩ : Fac)].flatMap facL).toArray 62 (0, 0))] ++ [Ent.blk b3 (.cells (txL exLH).toArray 9 (0, 0))]))))))) hH49; have hv52 : SlV (Kz (Kw w) [Ent.blk b50 (.cells (([⟨exF9, ⟨-1, exE9⟩⟩] : List FieldR).flatMap fieldL).toArray 71 (0, 0))]) (.slice (some ⟨b50, 0, none⟩) 1 1) 10 1 (([⟨exF9, ⟨-1, exE9⟩⟩] : List FieldR).flatMap fieldL) := slv_blk (List.mem_cons_self ..) (flat_length fieldL_len _) (by simp [maxLen]); V (run_bld (vs := [(1, I (-1)), (0, .slice (some ⟨b50, 0, none⟩) 1 1)]) rfl (built_row10 [⟨exF9, ⟨-1, exE9⟩⟩] (-1) rfl)) <| V (run_bld (vs := [(0, I 9), (4, .agg (rtmL (_ : RowR)).toArray), (5, .agg (rtmL (_ : RowR)).toArray)]) rfl (built_ass1 9 _ _)) <| have hx53 : AssV (Kz (Kw w) ([Ent.blk b50 (.cells (([⟨exF9, ⟨-1, exE9⟩⟩] : List FieldR).flatMap fieldL).toArray 71 (0, 0))] ++ ([Ent.blk b39 (.cells (([.slice (some ⟨b34, 0, none⟩) 1 1] : List Value)).toArray 54 (0, 0))] ++ ([Ent.blk b34 (.cells (([⟨exF9, exE9⟩] : List ValR).flatMap valL).toArray 56 (0, 0))] ++ ([Ent.blk b29 (.cells (([el0] : List El).flatMap elL).toArray 39 (0, 0))] ++ ([Ent.blk b18 (.cells (([⟨⟨#[114]⟩, 2, 0⟩] : List VarR).flatMap varL).toArray 69 (0, 0))] ++ ([Ent.blk b13 (.cells ([(⟨⟨#[107]⟩, (⟨false, .slice (some ⟨b8, 0, none⟩) 1 1, [(⟨1, .slice (some ⟨b3, 0, none⟩) 2 2, exLH, Rl.none⟩ : Fac)]⟩ : Shp)⟩ : LatR)].flatMap latL).toArray 67 (0, 0))] ++ ([Ent.blk b8 (.cells ([(⟨1, .slice (some ⟨b3, 0, none⟩) 2 2, exLH, Rl.none⟩ : Fac)].flatMap facL).toArray 62 (0, 0))] ++ [Ent.blk b3 (.cells (txL exLH).toArray 9 (0, 0))])))))))) (exX9 (.slice (some ⟨b50, 0, none⟩) 1 1)) := ⟨SlV.nil _ _, ⟨SlV.nil _ _⟩, ⟨(hv52.mono (Le.zz (fun x hx => (List.mem_append_left _ hx))))⟩⟩; RL.new rfl hH51 (f := fun b => (.pointer (some ⟨b, 0, none⟩))) (run_alloc zero_ass) <| fun b56 w54 hH55 => RL.set hH55 (i := 0) rfl (run_stW (c' := (assL (exX9 (.slice (some ⟨b50, 0, none⟩) 1 1))).toArray) rfl rfl rfl (assL_one hx53) (hH55.blk (i := 0) rfl) rfl) <| fun w57 hH58 => ?_
 simp only [z2] at hH58
 refine RL.nil <| SR <| V (run_ldA (cs := scpL _) underlying25 rfl rfl rfl (rangeAt_cells (hH58.blk (i := 2) rfl))) <| V (run_ldA (cs := assL _) underlying46 rfl rfl rfl (rangeAt_cells (hH58.blk (i := 0) rfl))) <| V (run_bld (vs := [(0, I 10), (7, S exF9)]) rfl (built_ass2 10 _)) <| RL.new rfl hH58 (f := fun b => (.slice (some ⟨b, 0, none⟩) 2 2)) (run_mkRecs assL_len underlying26 rfl rfl rfl (l := [_, _]) rfl (by decide) (by decide) rfl) <| fun b61 w59 hH60 => have hH62 : Hp _ w59 (_ :: _ :: _ :: ([Ent.blk b61 (.cells ([(exX9 (.slice (some ⟨b50, 0, none⟩) 1 1)), exY9].flatMap assL).toArray 46 (0, 0))] ++ ([Ent.blk b50 (.cells (([⟨exF9, ⟨-1, exE9⟩⟩] : List FieldR).flatMap fieldL).toArray 71 (0, 0))] ++ ([Ent.blk b39 (.cells (([.slice (some ⟨b34, 0, none⟩) 1 1] : List Value)).toArray 54 (0, 0))] ++ ([Ent.blk b34 (.cells (([⟨exF9, exE9⟩] : List ValR).flatMap valL).toArray 56 (0, 0))] ++ ([Ent.blk b29 (.cells (([el0] : List El).flatMap elL).toArray 39 (0, 0))] ++ ([Ent.blk b18 (.cells (([⟨⟨#[114]⟩, 2, 0⟩] : List VarR).flatMap varL).toArray 69 (0, 0))] ++ ([Ent.blk b13 (.cells ([(⟨⟨#[107]⟩, (⟨false, .slice (some ⟨b8, 0, none⟩) 1 1, [(⟨1, .slice (some ⟨b3, 0, none⟩) 2 2, exLH, Rl.none⟩ : Fac)]⟩ : Shp)⟩ : LatR)].flatMap latL).toArray 67 (0, 0))] ++ ([Ent.blk b8 (.cells ([(⟨1, .slice (some ⟨b3, 0, none⟩) 2 2, exLH, Rl.none⟩ : Fac)].flatMap facL).toArray 62 (0, 0))] ++ [Ent.blk b3 (.cells (txL exLH).toArray 9 (0, 0))]))))))))) := Hp.zin (Z := [Ent.blk b61 (.cells ([(exX9 (.slice (some ⟨b50, 0, none⟩) 1 1)), exY9].flatMap assL).toArray 46 (0, 0))]) (L := [_, _, _]) (L' := ([Ent.blk b50 (.cells (([⟨exF9, ⟨-1, exE9⟩⟩] : List FieldR).flatMap fieldL).toArray 71 (0, 0))] ++ ([Ent.blk b39 (.cells (([.slice (some ⟨b34, 0, none⟩) 1 1] : List Value)).toArray 54 (0, 0))] ++ ([Ent.blk b34 (.cells (([⟨exF9, exE9⟩] : List ValR).flatMap valL).toArray 56 (0, 0))] ++ ([Ent.blk b29 (.cells (([el0] : List El).flatMap elL).toArray 39 (0, 0))] ++ ([Ent.blk b18 (.cells (([⟨⟨#[114]⟩, 2, 0⟩] : List VarR).flatMap varL).toArray 69 (0, 0))] ++ ([Ent.blk b13 (.cells ([(⟨⟨#[107]⟩, (⟨false, .slice (some ⟨b8, 0, none⟩) 1 1, [(⟨1, .slice (some ⟨b3, 0, none⟩) 2 2, exLH, Rl.none⟩ : Fac)]⟩ : Shp)⟩ : LatR)].flatMap latL).toArray 67 (0, 0))] ++ ([Ent.blk b8 (.cells ([(⟨1, .slice (some ⟨b3, 0, none⟩) 2 2, exLH, Rl.none⟩ : Fac)].flatMap facL).toArray 62 (0, 0))] ++ [Ent.blk b3 (.cells (txL exLH).toArray 9 (0, 0))])))))))) hH60; have hv63 : SlV (Kz (Kw w) [Ent.blk b61 (.cells ([(exX9 (.slice (some ⟨b50, 0, none⟩) 1 1)), exY9].flatMap assL).toArray 46 (0, 0))]) (.slice (some ⟨b61, 0, none⟩) 2 2) 18 2 ([(exX9 (.slice (some ⟨b50, 0, none⟩) 1 1)), exY9].flatMap assL) := slv_blk (List.mem_cons_self ..) (flat_length assL_len _) (by simp [maxLen]); V (run_bld (vs := [(0, .agg (scpC (exS9 (.slice (some ⟨b13, 0, none⟩) 1 1) (.slice (some ⟨b8, 0, none⟩) 1 1) (.slice (some ⟨b3, 0, none⟩) 2 2) (.slice (some ⟨b18, 0, none⟩) 1 1)))), (1, .slice (some ⟨b61, 0, none⟩) 2 2)]) rfl (built_prob _ [(exX9 (.slice (some ⟨b50, 0, none⟩) 1 1)), exY9] rfl)) <| have hp64 : ProbV (Kz (Kw w) ([Ent.blk b61 (.cells ([(exX9 (.slice (some ⟨b50, 0, none⟩) 1 1)), exY9].flatMap assL).toArray 46 (0, 0))] ++ ([Ent.blk b50 (.cells (([⟨exF9, ⟨-1, exE9⟩⟩] : List FieldR).flatMap fieldL).toArray 71 (0, 0))] ++ ([Ent.blk b39 (.cells (([.slice (some ⟨b34, 0, none⟩) 1 1] : List Value)).toArray 54 (0, 0))] ++ ([Ent.blk b34 (.cells (([⟨exF9, exE9⟩] : List ValR).flatMap valL).toArray 56 (0, 0))] ++ ([Ent.blk b29 (.cells (([el0] : List El).flatMap elL).toArray 39 (0, 0))] ++ ([Ent.blk b18 (.cells (([⟨⟨#[114]⟩, 2, 0⟩] : List VarR).flatMap varL).toArray 69 (0, 0))] ++ ([Ent.blk b13 (.cells ([(⟨⟨#[107]⟩, (⟨false, .slice (some ⟨b8, 0, none⟩) 1 1, [(⟨1, .slice (some ⟨b3, 0, none⟩) 2 2, exLH, Rl.none⟩ : Fac)]⟩ : Shp)⟩ : LatR)].flatMap latL).toArray 67 (0, 0))] ++ ([Ent.blk b8 (.cells ([(⟨1, .slice (some ⟨b3, 0, none⟩) 2 2, exLH, Rl.none⟩ : Fac)].flatMap facL).toArray 62 (0, 0))] ++ [Ent.blk b3 (.cells (txL exLH).toArray 9 (0, 0))]))))))))) (⟨(exS9 (.slice (some ⟨b13, 0, none⟩) 1 1) (.slice (some ⟨b8, 0, none⟩) 1 1) (.slice (some ⟨b3, 0, none⟩) 2 2) (.slice (some ⟨b18, 0, none⟩) 1 1)), .slice (some ⟨b61, 0, none⟩) 2 2, [(exX9 (.slice (some ⟨b50, 0, none⟩) 1 1)), exY9]⟩ : ProbR) := ⟨(hs21.mono (Le.zz (fun x hx => (List.mem_append_right _ (List.mem_append_right _ (List.mem_append_right _ (List.mem_append_right _ (List.mem_append_right _ hx)))))))), (hv63.mono (Le.zz (fun x hx => (List.mem_append_left _ hx)))), fun x hx => by rcases List.mem_cons.1 hx with rfl | hx; (exact (hx53.mono (Le.zz (fun x hx => (List.mem_append_right _ hx))))); (rw [List.mem_singleton.1 hx]; exact ⟨SlV.nil _ _, ⟨SlV.nil _ _⟩, ⟨SlV.nil _ _⟩⟩)⟩; RL.new rfl hH62 (f := fun b => (.pointer (some ⟨b, 0, none⟩))) (run_alloc Tryz.zeroValue28) <| fun b67 w65 hH66 => RL.set hH66 (i := 0) rfl (run_stW (c' := (probL (⟨(exS9 (.slice (some ⟨b13, 0, none⟩) 1 1) (.slice (some ⟨b8, 0, none⟩) 1 1) (.slice (some ⟨b3, 0, none⟩) 2 2) (.slice (some ⟨b18, 0, none⟩) 1 1)), .slice (some ⟨b61, 0, none⟩) 2 2, [(exX9 (.slice (some ⟨b50, 0, none⟩) 1 1)), exY9]⟩ : ProbR)).toArray) rfl rfl rfl (probL_one hp64) (hH66.blk (i := 0) rfl) rfl) <| fun w68 hH69 => ?_
 simp only [z2] at hH69
 refine RL.nil <| SR <| V (run_ldA (cs := scpL _) underlying25 rfl rfl rfl (rangeAt_cells (hH69.blk (i := 3) rfl))) <| V (run_ldA (cs := assL _) underlying46 rfl rfl rfl (rangeAt_cells (hH69.blk (i := 1) rfl))) <| V (run_ldA (cs := asgL _) underlying32 rfl rfl rfl (rangeAt_cells (hH69.blk (i := 2) rfl))) <| RL.callP rfl hH69 (c_holds_One _ _ _ (ex9_sm _ _ (List.mem_cons_self ..)) (ex9_asm _ _ _) _ (hs21.mono (hH69.kz (Le.refl _) (fun x hx => (mT (mT (mT (mT (List.mem_append_right _ (List.mem_append_right _ (List.mem_append_right _ (List.mem_append_right _ (List.mem_append_right _ hx)))))))))))) (hx53.mono (hH69.kz (Le.refl _) (fun x hx => (mT (mT (mT (mT (List.mem_append_right _ hx)))))))) (ha42.mono (hH69.kz (Le.refl _) (fun x hx => (mT (mT (mT (mT (List.mem_append_right _ (List.mem_append_right _ hx))))))))) (hT.hp hH69)) (run_call3 call8 rfl rfl rfl) <| fun w70 hH71 => mB rfl <| gT rfl (bR (c := true) ((ex9_one _ _ _ _ _))) <| V (run_ldA (cs := probL _) underlying28 rfl rfl rfl (rangeAt_cells (hH71.blk (i := 0) rfl))) <| gT rfl (bR (c := true) ((ex9_one _ _ _ _ _))) <| V (run_ldA (cs := asgL _) underlying32 rfl rfl rfl (rangeAt_cells (hH71.blk (i := 2) rfl))) <| gT rfl (bR (c := true) ((ex9_one _ _ _ _ _))) <| RL.callP rfl hH71 (c_holds_First _ _ (ex9_sm _) (ex9_asm _ _ _) _ (hp64.mono (hH71.kz (Le.refl _) (fun x hx => (mT (mT (mT (mT hx))))))) (ha42.mono (hH71.kz (Le.refl _) (fun x hx => (mT (mT (mT (mT (List.mem_append_right _ (List.mem_append_right _ hx))))))))) (hT.hp hH71)) (run_call2 call10 rfl rfl) <| fun w73 hH74 => gT rfl (bR (c := true) ((ex9_one _ _ _ _ _))) <| V (run_eql rfl rfl) <| V (run_pickT (bR (c := true) ((ex9_one _ _ _ _ _))) (v := B _) rfl) <| mB rfl <| gT rfl (bT ((ex9_first _ _ _ _ _))) <| V (run_ldA (cs := probL _) underlying28 rfl rfl rfl (rangeAt_cells (hH74.blk (i := 0) rfl))) <| gT rfl (bT ((ex9_first _ _ _ _ _))) <| RL.callP rfl hH74 (c_holds_Right _ _ (hp64.mono (hH74.kz (Le.refl _) (fun x hx => (mT (mT (mT (mT hx))))))) (hT.hp hH74)) (run_call1 call14 rfl) <| fun w76 hH77 => V (run_pickT (bT ((ex9_first _ _ _ _ _))) (v := B _) rfl) <| aB rfl <| RL.nil <| CW.ret <| outP1 Tryz.results7 (congrArg B ?_) hH77.below
 rfl
set_option maxHeartbeats 4000000 in
theorem c_clearancelaw19_HoldsLess (p : ProbR) (a : Asg) (c : Int) (hza : ∀ r ∈ a.rows, r.l.length ≤ 1759218604390) (hcu : 0 ≤ c ∧ c ≤ 255) (w : World) (hp : ProbV (Kw w) p) (ha : AsgV (Kw w) a) (hT : Tab w) : Calls Tryz.prog 4 #[.agg (probL p).toArray, .agg (asgL a).toArray, .int .u8 c] w (Pure (B true) w) := by
 have hm1 := hp.asserts.small
 unfold maxLen at hm1
 have hn0 : ProbV (Kw w) (⟨p.s, .slice none 0 0, []⟩ : ProbR) := ⟨hp.s, SlV.nil _ _, fun x hx => by cases hx⟩
 refine enter Tryz.func4 rfl Tryz.ntmps4 rfl <| have hH := Hp.start w; SR <| RL.new rfl hH (f := fun b => (.pointer (some ⟨b, 0, none⟩))) (run_box (v := .agg _) rfl) <| fun b3 w1 hH2 => RL.new rfl hH2 (f := fun b => (.pointer (some ⟨b, 0, none⟩))) (run_box (v := .agg _) rfl) <| fun b6 w4 hH5 => va (v := B false) rfl <| RL.nil <| CW.seq <| SR <| V (run_ldA (cs := probL _) underlying28 rfl rfl rfl (rangeAt_cells (hH5.blk (i := 1) rfl))) <| RL.callP rfl hH5 (c_clearancelaw19_Big _  _ (hp.mono hH5.kw)) (run_call1 call5 rfl) <| fun w7 hH8 => mB rfl <| RL.split (dj := 12) rfl (fun h10 => ?_) (fun h10 => ?_)
 ·refine gF rfl (bR (c := true) h10) <| gF rfl (bR (c := true) h10) <| V (run_pickT (bR (c := true) h10) (v := B true) rfl) <| mB rfl <| gF rfl rfl <| gF rfl rfl <| gF rfl rfl <| gF rfl rfl <| V (run_pickT rfl (v := B true) rfl) <| RL.nil <| CW.condT rfl <| SR <| RL.callP rfl hH8 (c_clearancelaw19_alive   _ (hT.hp hH8)) (run_call0 call7) <| fun w11 hH12 => aB rfl <| RL.nil <| CW.ret <| outP1 Tryz.results4 (congrArg B ?_) hH12.below
  rfl
 ·refine gT rfl (bR (c := false) h10) <| V (run_ldA (cs := asgL _) underlying32 rfl rfl rfl (rangeAt_cells (hH8.blk (i := 0) rfl))) <| gT rfl (bR (c := false) h10) <| RL.callP rfl hH8 (c_clearancelaw18_Big a hza _ (ha.mono hH8.kw)) (run_call1 call6 rfl) <| fun w14 hH15 => V (run_pickF (bR (c := false) h10) (v := B _) rfl) <| mB rfl <| RL.split (dj := 16) rfl (fun h17 => ?_) (fun h17 => ?_)
  ·refine gF rfl (bR (c := true) h17) <| gF rfl (bR (c := true) h17) <| gF rfl (bR (c := true) h17) <| gF rfl (bR (c := true) h17) <| V (run_pickT (bR (c := true) h17) (v := B true) rfl) <| RL.nil <| CW.condT rfl <| SR <| RL.callP rfl hH15 (c_clearancelaw19_alive   _ (hT.hp hH15)) (run_call0 call7) <| fun w18 hH19 => aB rfl <| RL.nil <| CW.ret <| outP1 Tryz.results4 (congrArg B ?_) hH19.below
   rfl
  ·refine gT rfl (bR (c := false) h17) <| V (fA underlying28 0 rfl sizeOf25 rfl) <| gT rfl (bR (c := false) h17) <| V (run_ldSub (sub := scpL _) underlying25 rfl rfl rfl (hH15.blk (i := 1) rfl) (prob_sB _)) <| gT rfl (bR (c := false) h17) <| RL.callP rfl hH15 (c_clearanceref13_Right _  _ (hp.s.mono hH15.kw)) (run_call1 call16 rfl) <| fun w21 hH22 => gT rfl (bR (c := false) h17) <| V (run_not rfl) <| V (run_pickF (bR (c := false) h17) (v := B _) rfl) <| RL.nil <| CW.cond rfl (fun h25 => ?_) (fun h25 => ?_)
   ·refine SR <| RL.callP rfl hH22 (c_clearancelaw19_alive   _ (hT.hp hH22)) (run_call0 call7) <| fun w26 hH27 => aB rfl <| RL.nil <| CW.ret <| outP1 Tryz.results4 (congrArg B ?_) hH27.below
    rfl
   ·refine CW.skip <| SR <| V (fA underlying28 0 rfl sizeOf25 rfl) <| V (run_ldSub (sub := scpL _) underlying25 rfl rfl rfl (hH22.blk (i := 1) rfl) (prob_sB _)) <| V (run_bld (vs := [(0, .agg (scpC p.s))]) rfl (built_prob0 p.s)) <| RL.new rfl hH22 (f := fun b => (.pointer (some ⟨b, 0, none⟩))) (run_alloc Tryz.zeroValue28) <| fun b31 w29 hH30 => RL.set hH30 (i := 0) rfl (run_stW (c' := (probL (⟨p.s, .slice none 0 0, []⟩ : ProbR)).toArray) rfl rfl rfl (probL_one hn0) (hH30.blk (i := 0) rfl) rfl) <| fun w32 hH33 => ?_
    simp only [z2] at hH33
    refine RL.nil <| CW.seq <| CW.seq <| have hp2 := (bigP_no ‹bigP p = false›).2.2; have ha2 := bigA_sm ‹bigA a = false›; CW.regionD (by kernel_rfl) hH33 <| fun w34 hH35 => have zh35 := hH35.sub sR; AT 0 rfl zh35 (fun w hS => run_ldA (cs := probL _) underlying28 rfl rfl rfl (rangeAt_cells (hS.blk (i := 0) rfl))) <| AT 1 rfl zh35 (fun w hS => run_ldA (cs := asgL _) underlying32 rfl rfl rfl (rangeAt_cells (hS.blk (i := 1) rfl))) <| AQ 3 rfl zh35 (fA underlying28 0 rfl sizeOf25 rfl) <| AT 4 rfl zh35 (fun w hS => run_ldSub (sub := scpL _) underlying25 rfl rfl rfl (hS.blk (i := 2) rfl) (prob_sB _)) <| AT 5 rfl zh35 (fun w hS => run_ldA (cs := asgL _) underlying32 rfl rfl rfl (rangeAt_cells (hS.blk (i := 1) rfl))) <| A1 2 <| AO.callP rfl gnone rfl hH35 sR (c_holds_All _ a (fun x hx => by cases hx) ha2 _ (hn0.mono hH35.kw) (ha.mono hH35.kw) (hT.hp hH35)) (run_call2 call12 rfl rfl) <| fun w36 hH37 => A1 6 <| AO.callP rfl gnone rfl hH37 sR (c_assign_Right _ _  _ (hp.s.mono hH37.kw) (ha.mono hH37.kw) (hT.hp hH37)) (run_call2 call17 rfl rfl) <| fun w39 hH40 => AQ 7 rfl (hH40.sub sR) (run_neqB underlying4 rfl rfl) <| AD <| CW.condF (bR (c := false) ((by rw [all_nil]; exact bne_self_eq_false _))) <| CW.skip <| CW.seq <| SR <| V (fA underlying28 2 rfl sizeOf26 rfl) <| V (run_ldV (hp.asserts.sl.hp hH40) underlying26 rfl rfl (hH40.cell (i := 2) rfl rfl)) <| V (run_lenSl (hp.asserts.sl.hp hH40) rfl underlying26 rfl) <| V (run_eql rfl rfl) <| RL.nil <| CW.condP rfl (fun h44 => ?_) (fun h44 => ?_)
    ·refine SR <| RL.callP rfl hH40 (c_clearancelaw19_alive   _ (hT.hp hH40)) (run_call0 call7) <| fun w45 hH46 => aB rfl <| RL.nil <| CW.ret <| outP1 Tryz.results4 (congrArg B ?_) hH46.below
     rfl
    ·refine CW.skip <| SR <| vm (v := .int _ _) rfl <| V (run_convUI underlying5 underlying3 rfl (by omega)) <| V (fA underlying28 2 rfl sizeOf26 rfl) <| V (run_ldV (hp.asserts.sl.hp hH40) underlying26 rfl rfl (hH40.cell (i := 2) rfl rfl)) <| V (run_lenSl (hp.asserts.sl.hp hH40) rfl underlying26 rfl) <| V (run_rem rfl rfl (by omega) (by omega)) <| aI rfl <| RL.nil <| SR <| V (fA underlying28 0 rfl sizeOf25 rfl) <| V (run_ldSub (sub := scpL _) underlying25 rfl rfl rfl (hH40.blk (i := 2) rfl) (prob_sB _)) <| V (run_bld (vs := [(0, .agg (scpC p.s))]) rfl (built_prob0 p.s)) <| RL.new rfl hH40 (f := fun b => (.pointer (some ⟨b, 0, none⟩))) (run_alloc Tryz.zeroValue28) <| fun b50 w48 hH49 => RL.set hH49 (i := 0) rfl (run_stW (c' := (probL (⟨p.s, .slice none 0 0, []⟩ : ProbR)).toArray) rfl rfl rfl (probL_one hn0) (hH49.blk (i := 0) rfl) rfl) <| fun w51 hH52 => ?_
     simp only [z2] at hH52
     have hH53 := hH52.nilRow 46 18
     refine RL.nil <| CW.seq <| have hc0 : 0 ≤ (c % (p.asserts.length : Int)) := Int.emod_nonneg _ (by omega); have hc1 : (c % (p.asserts.length : Int)) < p.asserts.length := Int.emod_lt_of_pos _ (by omega); have hdl : (p.asserts.drop ((c % (p.asserts.length : Int)) + 1).toNat).length ≤ p.asserts.length := (by rw [List.length_drop]; omega); have hpq := bigP_no ‹bigP p = false›; CW.regionS (by kernel_rfl) hH53 (sQ (sQ sR)) <| fun w54 hH55 => have zh55 := hH55.sub (sQ (sQ sR)); AQ 0 rfl zh55 (fA underlying28 2 rfl sizeOf26 rfl) <| AQ 2 rfl zh55 (fA underlying28 2 rfl sizeOf26 rfl) <| AT 3 rfl zh55 (fun w hS => run_ldV (hp.asserts.sl.hp hS) underlying26 rfl rfl (hS.cell (i := 2) rfl rfl)) <| AQ 4 rfl zh55 (mV (I _) rfl) <| AT 5 rfl zh55 (fun w hS => run_cut (hp.asserts.sl.hp hS) underlying26 sizeOf46 rfl rfl (by omega)) <| AQ 7 rfl zh55 (fA underlying28 2 rfl sizeOf26 rfl) <| AT 8 rfl zh55 (fun w hS => run_ldV (hp.asserts.sl.hp hS) underlying26 rfl rfl (hS.cell (i := 2) rfl rfl)) <| AQ 9 rfl zh55 (mV (I _) rfl) <| AQ 10 rfl zh55 (run_add rfl rfl (by omega)) <| AT 11 rfl zh55 (fun w hS => run_from (hp.asserts.sl.hp hS) underlying26 sizeOf46 rfl rfl (by omega)) <| A1 1 <| AO.read rfl gnone rfl hH55 (sQ (sQ sR)) (run_ld underlying26 rfl rfl (hH55.cell (i := 1) rfl rfl)) <| A1 6 <| AO.app rfl gnone rfl hH55 (j := 0) rfl (fun _ => (sQ (sQ sR))) ((hp.asserts.sl.hp hH55).cut _ (by omega)) rfl rfl underlying26 rfl rfl (size := 18) (bytes := 200) rfl rfl rfl (by decide) (fun u hu => asserts_one hp u (List.mem_of_mem_take hu)) (by show (0 + _) * _ ≤ _; omega) (by show 0 + _ ≤ _; simp only [maxLen]; omega) <| fun v60 w58 hH59 => ?_
     simp only [z2] at hH59
     refine A1 12 <| AO.app rfl gnone rfl hH59 (j := 0) rfl (fun _ => (sQ (sQ sR))) (Sl.frE assL_len (hp.asserts.sl.hp hH59) _ (by omega)) rfl rfl underlying26 rfl rfl (size := 18) (bytes := 200) rfl rfl rfl (by decide) (fun u hu => (List.mem_flatMap.1 hu).elim fun y hy => asserts_one hp u (List.mem_flatMap.2 ⟨y, List.mem_of_mem_drop hy.1, hy.2⟩)) (by show (_ + _) * _ ≤ _; omega) (by show _ + _ ≤ _; simp only [maxLen]; omega) <| fun v63 w61 hH62 => ?_
     simp only [z2] at hH62
     refine AQ 13 rfl (hH62.sub (sQ (sQ sR))) (fA underlying28 2 rfl sizeOf26 rfl) <| A1 14 <| AO.set rfl gnone hH62 (j := 1) rfl (sQ (sQ sR)) (run_st rfl rfl (v := v63) rfl (row_cells (hH62.get (i := 0) rfl)).1 (row_cells (hH62.get (i := 0) rfl)).2 (hH62.blk (i := 1) rfl) (by show 2 < 3; decide)) <| fun w66 hH67 => ?_
     simp only [z2] at hH67
     refine AD <| CW.seq <| ?_
     obtain ⟨Z68, hz69, hv70, -⟩ := hH67.frz (Kw w)
     have hH71 : Hp _ w66 (_ :: _ :: _ :: _ :: Z68) := hz69.zin0 (L := [_, _, _, _])
     have hlv : SlV (Kz (Kw w) Z68) v63 18 (p.asserts.take (c % (p.asserts.length : Int)).toNat ++ p.asserts.drop ((c % (p.asserts.length : Int)) + 1).toNat).length ((p.asserts.take (c % (p.asserts.length : Int)).toNat ++ p.asserts.drop ((c % (p.asserts.length : Int)) + 1).toNat).flatMap assL) := by
      (rw [List.flatMap_append, List.length_append, List.length_take, Nat.min_eq_left (by omega), ← flat_take assL_len]; simpa only [Nat.zero_add, List.nil_append] using hv70)
     have hpl : ProbV (Kz (Kw w) Z68) (⟨p.s, v63, (p.asserts.take (c % (p.asserts.length : Int)).toNat ++ p.asserts.drop ((c % (p.asserts.length : Int)) + 1).toNat)⟩ : ProbR) := ⟨hp.s.mono (Le.z _ _), hlv, fun x hx => (hp.each x (less_mem hx)).mono (Le.z _ _)⟩
     have hH72 : Hp _ w66 (Ent.blk b50 (.cells (probL (⟨p.s, v63, (p.asserts.take (c % (p.asserts.length : Int)).toNat ++ p.asserts.drop ((c % (p.asserts.length : Int)) + 1).toNat)⟩ : ProbR)).toArray 28) :: _ :: _ :: _ :: Z68) := hH71
     refine CW.regionD (by kernel_rfl) hH72 <| fun w73 hH74 => have zh74 := hH74.sub sR; AT 0 rfl zh74 (fun w hS => run_ldA (cs := probL _) underlying28 rfl rfl rfl (rangeAt_cells (hS.blk (i := 3) rfl))) <| AT 1 rfl zh74 (fun w hS => run_ldA (cs := asgL _) underlying32 rfl rfl rfl (rangeAt_cells (hS.blk (i := 2) rfl))) <| AT 3 rfl zh74 (fun w hS => run_ldA (cs := probL _) underlying28 rfl rfl rfl (rangeAt_cells (hS.blk (i := 0) rfl))) <| AT 4 rfl zh74 (fun w hS => run_ldA (cs := asgL _) underlying32 rfl rfl rfl (rangeAt_cells (hS.blk (i := 2) rfl))) <| A1 2 <| AO.callP rfl gnone rfl hH74 sR (c_holds_All _ _ (hp2) (ha2) _ (hp.mono hH74.kw) (ha.mono hH74.kw) (hT.hp hH74)) (run_call2 call12 rfl rfl) <| fun w75 hH76 => A1 5 <| AO.callP rfl gnone rfl hH76 sR (c_holds_All _ a (fun x hx => hp2 x (less_mem hx)) ha2 _ (hpl.mono (hH76.kz (Le.refl _) (fun x hx => (mT (mT (mT (mT hx))))))) (ha.mono hH76.kw) (hT.hp hH76)) (run_call2 call12 rfl rfl) <| fun w78 hH79 => have zh79 := hH79.sub sR; AQ 6 rfl zh79 (mV (B _) rfl) <| AN.split (dj := 68) rfl (fun h81 => ?_) (fun h81 => ?_)
     ·refine AG 7 rfl rfl (bR (c := true) h81) (hH79.sub sR) (fun w hS => fA underlying28 0 rfl sizeOf25 rfl) <| AG 8 rfl rfl (bR (c := true) h81) (hH79.sub sR) (fun w hS => run_ldSub (sub := scpL _) underlying25 rfl rfl rfl (hS.blk (i := 3) rfl) (prob_sB _)) <| AG 9 rfl rfl (bR (c := true) h81) (hH79.sub sR) (fun w hS => fA underlying28 2 rfl sizeOf26 rfl) <| AG 10 rfl rfl (bR (c := true) h81) (hH79.sub sR) (fun w hS => run_ldV (hp.asserts.sl.hp hS) underlying26 rfl rfl (hS.cell (i := 3) rfl rfl)) <| AG 11 rfl rfl (bR (c := true) h81) (hH79.sub sR) (fun w hS => mV (I _) rfl) <| AG 12 rfl rfl (bR (c := true) h81) (hH79.sub sR) (fun w hS => run_indexAddrS (hp.asserts.sl.hp hS) underlying26 sizeOf46 rfl rfl (by omega)) <| AG 13 rfl rfl (bR (c := true) h81) (hH79.sub sR) (fun w hS => run_ldE (dv := ass0) assL_len (hp.asserts.sl.hp hS) underlying46 rfl rfl rfl (by omega)) <| AG 14 rfl rfl (bR (c := true) h81) (hH79.sub sR) (fun w hS => run_ldA (cs := asgL _) underlying32 rfl rfl rfl (rangeAt_cells (hS.blk (i := 2) rfl))) <| A1 15 <| AO.callP rfl (gsome rfl (bR (c := true) h81)) rfl hH79 sR (c_holds_One p.s _ a (hp2 _ (List.mem_of_getElem? (getD_at (d := ass0) hc0 hc1))) ha2 _ (hp.s.mono hH79.kw) ((hp.at hc0 hc1).mono hH79.kw) (ha.mono hH79.kw) (hT.hp hH79)) (run_call3 call8 rfl rfl rfl) <| fun w82 hH83 => have zh83 := hH83.sub sR; AQ 16 rfl zh83 (run_pickT (bR (c := true) h81) (v := B _) rfl) <| AQ 17 rfl zh83 (run_eqlB underlying4 rfl rfl) <| AQ 18 rfl zh83 (mV (B _) rfl) <| A1 19 <| AO.callP rfl (gsome rfl (bR (c := true) ((by rw [all_less hc0 hc1, ‹allF p.s a.as (_ ++ _) = true›, Bool.true_and]; exact beq_self_eq_true _)))) rfl hH83 sR (c_clearancelaw19_alive   _ (hT.hp hH83)) (run_call0 call7) <| fun w86 hH87 => AQ 20 rfl (hH87.sub sR) (run_pickT (bR (c := true) ((by rw [all_less hc0 hc1, ‹allF p.s a.as (_ ++ _) = true›, Bool.true_and]; exact beq_self_eq_true _))) (v := B _) rfl) <| AQ 21 rfl (hH87.sub sR) (aV (B _) rfl) <| AD <| CW.ret <| outP1 Tryz.results4 (congrArg B ?_) hH87.below
      rfl
     ·refine AK 7 rfl rfl (bR (c := false) h81) (hH79.sub sR) <| AK 8 rfl rfl (bR (c := false) h81) (hH79.sub sR) <| AK 9 rfl rfl (bR (c := false) h81) (hH79.sub sR) <| AK 10 rfl rfl (bR (c := false) h81) (hH79.sub sR) <| AK 11 rfl rfl (bR (c := false) h81) (hH79.sub sR) <| AK 12 rfl rfl (bR (c := false) h81) (hH79.sub sR) <| AK 13 rfl rfl (bR (c := false) h81) (hH79.sub sR) <| AK 14 rfl rfl (bR (c := false) h81) (hH79.sub sR) <| AK 15 rfl rfl (bR (c := false) h81) (hH79.sub sR) <| AQ 16 rfl zh79 (run_pickF (bR (c := false) h81) (v := B false) rfl) <| AQ 17 rfl zh79 (run_eqlB underlying4 rfl rfl) <| AQ 18 rfl zh79 (mV (B _) rfl) <| A1 19 <| AO.callP rfl (gsome rfl (bR (c := true) ((by rw [all_less hc0 hc1, ‹allF p.s a.as (_ ++ _) = false›, Bool.false_and]; rfl)))) rfl hH79 sR (c_clearancelaw19_alive   _ (hT.hp hH79)) (run_call0 call7) <| fun w90 hH91 => AQ 20 rfl (hH91.sub sR) (run_pickT (bR (c := true) ((by rw [all_less hc0 hc1, ‹allF p.s a.as (_ ++ _) = false›, Bool.false_and]; rfl))) (v := B _) rfl) <| AQ 21 rfl (hH91.sub sR) (aV (B _) rfl) <| AD <| CW.ret <| outP1 Tryz.results4 (congrArg B ?_) hH91.below
      rfl
end Go.Proofs.YtkdbiooamgnfmaaGreatDoor.W
