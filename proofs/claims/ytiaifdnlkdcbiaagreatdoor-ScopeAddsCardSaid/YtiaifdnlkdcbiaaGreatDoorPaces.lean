/-
  The walks of the functions that the laws of this seat reach, part 4: each returns what its plain counterpart tells, and turns nothing that was there.
-/
import Derived.Test.YtiaifdnlkdcbiaaGreatDoorProg
import Derived.Test.YtiaifdnlkdcbiaaGreatDoorEnv
import Derived.Test.YtiaifdnlkdcbiaaGreatDoorPlain
import Derived.Test.YtiaifdnlkdcbiaaGreatDoorBase
import Derived.Test.YtiaifdnlkdcbiaaGreatDoorOrd
import Derived.Test.YtiaifdnlkdcbiaaGreatDoorRel
import Derived.Test.YtiaifdnlkdcbiaaGreatDoorClo
import Derived.Test.YtiaifdnlkdcbiaaGreatDoorCov
import Derived.Test.YtiaifdnlkdcbiaaGreatDoorArr
import Derived.Test.YtiaifdnlkdcbiaaGreatDoorHas
import Derived.Test.YtiaifdnlkdcbiaaGreatDoorGrd
import Derived.Test.YtiaifdnlkdcbiaaGreatDoorStr
import Derived.Test.YtiaifdnlkdcbiaaGreatDoorVu
import Derived.Test.YtiaifdnlkdcbiaaGreatDoorShp
import Derived.Test.YtiaifdnlkdcbiaaGreatDoorShl
import Derived.Test.YtiaifdnlkdcbiaaGreatDoorShq
import Derived.Test.YtiaifdnlkdcbiaaGreatDoorShr
import Derived.Test.YtiaifdnlkdcbiaaGreatDoorCut
import Derived.Test.YtiaifdnlkdcbiaaGreatDoorRec
import Derived.Test.YtiaifdnlkdcbiaaGreatDoorScp
import Derived.Test.YtiaifdnlkdcbiaaGreatDoorScq
import Derived.Test.YtiaifdnlkdcbiaaGreatDoorScj
import Derived.Test.YtiaifdnlkdcbiaaGreatDoorJdg
import Derived.Test.YtiaifdnlkdcbiaaGreatDoorFlt
import Derived.Test.YtiaifdnlkdcbiaaGreatDoorAdd
import Derived.Test.YtiaifdnlkdcbiaaGreatDoorRgt
import Derived.Test.YtiaifdnlkdcbiaaGreatDoorAlv
import Derived.Test.YtiaifdnlkdcbiaaGreatDoorKee
import Derived.Test.YtiaifdnlkdcbiaaGreatDoorMin
import Derived.Test.YtiaifdnlkdcbiaaGreatDoorPacesC
namespace Go.Proofs.YtiaifdnlkdcbiaaGreatDoor.W
open Go Go.RowKit Go.Proofs.YtiaifdnlkdcbiaaGreatDoor.E Go.Proofs.YtiaifdnlkdcbiaaGreatDoor.M
set_option linter.unusedVariables false
set_option linter.unusedSimpArgs false
set_option maxRecDepth 100000
open Tryz

theorem c_clearanceref13_Add (K : Vu) (s : Scp) (c : CmdR) (hsm : Sm s c) (w : World) (hK : Le K (Kw w)) (hs : ScpV K s) (hc : CmdV K c) : Calls Tryz.prog 12 #[.agg (scpC s), .agg (cmdL c).toArray] w (PureF K (fun K' u => ∃ q : Scp, u = .agg (scpC q) ∧ q.sc = addF s c ∧ ScpV K' q) w) := by
 have hm1 := hsm.nl
 have hm2 := hsm.vl
 have hm3 := hsm.ll
 have hmn := hc.names.small
 unfold maxLen at hmn
 refine enter Tryz.func12 rfl Tryz.ntmps12 rfl ?_
 have hH := Hp.start w
 refine SR ?_
 refine RL.new rfl hH (f := fun b => (.pointer (some ⟨b, 0, none⟩))) (run_box (v := .agg _) rfl) ?_
 intro b3 w1 hH2
 refine RL.new rfl hH2 (f := fun b => (.pointer (some ⟨b, 0, none⟩))) (run_box (v := .agg _) rfl) ?_
 intro b6 w4 hH5
 refine RL.new rfl hH5 (f := fun b => (.pointer (some ⟨b, 0, none⟩))) (run_alloc Tryz.zeroValue25) ?_
 intro b9 w7 hH8
 refine RL.nil ?_
 refine SR ?_
 refine RL.new rfl hH8 (f := fun b => (.pointer (some ⟨b, 0, none⟩))) (run_alloc Tryz.zeroValue25) ?_
 intro b12 w10 hH11
 have hH13 := hH11.nilRow 50 3
 have hH14 := hH13.nilRow 47 3
 refine RL.nil ?_
 refine SR ?_
 refine V (fA underlying25 0 rfl sizeOf22 rfl) ?_
 refine V (run_ld underlying22 rfl rfl (hH14.cell (i := 2) rfl rfl)) ?_
 refine V (fA underlying25 0 rfl sizeOf22 rfl) ?_
 refine V (run_ldV ((hs.mono hK).lats.sl.hp hH14) underlying22 rfl rfl (hH14.cell (i := 5) rfl rfl)) ?_
 refine RL.app rfl hH14 (i := 0) rfl ((hs.mono hK).lats.sl.hp hH14) rfl rfl underlying22 rfl rfl (size := 3) (bytes := 48) rfl rfl rfl (by decide) (lats_one (hs.mono hK).lts) (by omega) (by simp only [maxLen]; omega) ?_
 intro v15 w16 hH17
 simp only [z0, z1] at hH17
 simp only [Nat.zero_add, List.nil_append] at hH17
 refine V (fA underlying25 0 rfl sizeOf22 rfl) ?_
 refine RL.set hH17 (i := 2) rfl (run_st rfl rfl (v := v15) rfl (row_cells (hH17.get (i := 0) rfl)).1 (row_cells (hH17.get (i := 0) rfl)).2 (hH17.blk (i := 2) rfl) (by first | (show 0 < 2; decide) | decide | (simp only [List.size_toArray, scpL_len]; decide) | simp)) ?_
 intro w18 hH19
 simp only [z0, z1] at hH19
 refine RL.nil ?_
 refine SR ?_
 refine V (fA underlying25 1 rfl sizeOf23 rfl) ?_
 refine V (run_ld underlying23 rfl rfl (hH19.cell (i := 2) rfl rfl)) ?_
 refine V (fA underlying25 1 rfl sizeOf23 rfl) ?_
 refine V (run_ldV ((hs.mono hK).vars.sl.hp hH19) underlying23 rfl rfl (hH19.cell (i := 5) rfl rfl)) ?_
 refine RL.app rfl hH19 (i := 1) rfl ((hs.mono hK).vars.sl.hp hH19) rfl rfl underlying23 rfl rfl (size := 3) (bytes := 32) rfl rfl rfl (by decide) (vars_one _) (by omega) (by simp only [maxLen]; omega) ?_
 intro v20 w21 hH22
 simp only [z0, z1] at hH22
 simp only [Nat.zero_add, List.nil_append] at hH22
 refine V (fA underlying25 1 rfl sizeOf23 rfl) ?_
 refine RL.set hH22 (i := 2) rfl (run_st rfl rfl (v := v20) rfl (row_cells (hH22.get (i := 1) rfl)).1 (row_cells (hH22.get (i := 1) rfl)).2 (hH22.blk (i := 2) rfl) (by first | (show 1 < 2; decide) | decide | (simp only [List.size_toArray, scpL_len]; decide) | simp)) ?_
 intro w23 hH24
 simp only [z0, z1] at hH24
 refine RL.nil ?_
 refine CW.seq ?_
 refine SR ?_
 refine V (fA underlying34 0 rfl sizeOf3 rfl) ?_
 refine V (run_ld underlying3 rfl rfl (hH24.cell (i := 4) rfl (v := I _) rfl)) ?_
 refine V (run_lss rfl rfl) ?_
 refine V (mV (B _) rfl) ?_
 refine RL.splitP (dj := 23) rfl (fun h26 => ?_) (fun h26 => ?_)
 ·refine RL.gF rfl rfl (bT h26) rfl ?_
  refine RL.gF rfl rfl (bT h26) rfl ?_
  refine RL.gF rfl rfl (bT h26) rfl ?_
  refine V (run_pickT (bT h26) (v := B true) rfl) ?_
  refine V (mV (B _) rfl) ?_
  refine RL.gF rfl rfl rfl rfl ?_
  refine RL.gF rfl rfl rfl rfl ?_
  refine RL.gF rfl rfl rfl rfl ?_
  refine RL.gF rfl rfl rfl rfl ?_
  refine RL.gF rfl rfl rfl rfl ?_
  refine V (run_pickT rfl (v := B true) rfl) ?_
  refine RL.nil ?_
  refine CW.condT rfl ?_
  refine SR ?_
  obtain ⟨Z27, hz28, hv29, -⟩ := hH24.frz (K)
  have hH30 : Hp _ w23 (_ :: _ :: _ :: _ :: _ :: Z27) := hz28.zin0 (L := [_, _, _, _, _])
  obtain ⟨Z31, hz32, hv33, -⟩ := hH30.frz (K)
  have hH34 : Hp _ w23 (_ :: _ :: _ :: _ :: (Z31 ++ Z27)) := hz32.zin (L := [_, _, _, _]) (L' := Z27)
  have hp35 : ScpV (Kz K (Z31 ++ Z27)) ⟨v15, s.lats, v20, s.vars⟩ := ⟨by simpa using hv29.mono (Le.zz (fun x hx => (List.mem_append_right _ hx))), by simpa [Scp.sc] using hv33.mono (Le.zz (fun x hx => (List.mem_append_left _ hx))), (hs.lts.mono (Le.z _ _)).each⟩
  refine V (run_ldA (cs := scpL (⟨v15, s.lats, v20, s.vars⟩ : Scp)) underlying25 rfl rfl rfl (rangeAt_cells (hH34.blk (i := 0) rfl))) ?_
  refine RL.set hH34 (i := 1) rfl (run_stW (c' := (scpL _).toArray) rfl rfl rfl (scpL_one hp35) (hH34.blk (i := 1) rfl) rfl) ?_
  intro w36 hH37
  simp only [z0, z1] at hH37
  refine RL.nil ?_
  refine CW.ret ?_
  refine outCg Tryz.results12 rfl hH37 (i := 1) rfl underlying25 rfl rfl ⟨(Z31 ++ Z27), (hH37.sub (sQ (sQ (sQ (sQ sR))))), ⟨v15, s.lats, v20, s.vars⟩, rfl, ?_, ?_⟩
  ·show (⟨_, _⟩ : Sc) = _; first | (exfalso; omega) | (rw [add_0 ‹_›]; simp [Scp.sc, *]; done) | (rw [add_1 ‹_› (by omega)]; simp [Scp.sc, LatR.pl, *]; done) | (rw [add_2 ‹_› (by omega), hvk ‹_›]; simp [Scp.sc]; done) | (rw [add_2 ‹_› (by omega)]; simp [Scp.sc, *]; done) | (rw [add_3 (by omega) (by omega)]; simp [Scp.sc, *]; done)
  ·exact hp35
 ·refine RL.gT rfl (bF h26) ?_
  refine V (fA underlying34 0 rfl sizeOf3 rfl) ?_
  refine RL.gT rfl (bF h26) ?_
  refine V (run_ld underlying3 rfl rfl (hH24.cell (i := 4) rfl (v := I _) rfl)) ?_
  refine RL.gT rfl (bF h26) ?_
  refine V (run_gtr rfl rfl) ?_
  refine V (run_pickF (bF h26) (v := B _) rfl) ?_
  refine V (mV (B _) rfl) ?_
  refine RL.splitP (dj := 28) rfl (fun h39 => ?_) (fun h39 => ?_)
  ·refine RL.gF rfl rfl (bT h39) rfl ?_
   refine RL.gF rfl rfl (bT h39) rfl ?_
   refine RL.gF rfl rfl (bT h39) rfl ?_
   refine RL.gF rfl rfl (bT h39) rfl ?_
   refine RL.gF rfl rfl (bT h39) rfl ?_
   refine V (run_pickT (bT h39) (v := B true) rfl) ?_
   refine RL.nil ?_
   refine CW.condT rfl ?_
   refine SR ?_
   obtain ⟨Z40, hz41, hv42, -⟩ := hH24.frz (K)
   have hH43 : Hp _ w23 (_ :: _ :: _ :: _ :: _ :: Z40) := hz41.zin0 (L := [_, _, _, _, _])
   obtain ⟨Z44, hz45, hv46, -⟩ := hH43.frz (K)
   have hH47 : Hp _ w23 (_ :: _ :: _ :: _ :: (Z44 ++ Z40)) := hz45.zin (L := [_, _, _, _]) (L' := Z40)
   have hp48 : ScpV (Kz K (Z44 ++ Z40)) ⟨v15, s.lats, v20, s.vars⟩ := ⟨by simpa using hv42.mono (Le.zz (fun x hx => (List.mem_append_right _ hx))), by simpa [Scp.sc] using hv46.mono (Le.zz (fun x hx => (List.mem_append_left _ hx))), (hs.lts.mono (Le.z _ _)).each⟩
   refine V (run_ldA (cs := scpL (⟨v15, s.lats, v20, s.vars⟩ : Scp)) underlying25 rfl rfl rfl (rangeAt_cells (hH47.blk (i := 0) rfl))) ?_
   refine RL.set hH47 (i := 1) rfl (run_stW (c' := (scpL _).toArray) rfl rfl rfl (scpL_one hp48) (hH47.blk (i := 1) rfl) rfl) ?_
   intro w49 hH50
   simp only [z0, z1] at hH50
   refine RL.nil ?_
   refine CW.ret ?_
   refine outCg Tryz.results12 rfl hH50 (i := 1) rfl underlying25 rfl rfl ⟨(Z44 ++ Z40), (hH50.sub (sQ (sQ (sQ (sQ sR))))), ⟨v15, s.lats, v20, s.vars⟩, rfl, ?_, ?_⟩
   ·show (⟨_, _⟩ : Sc) = _; first | (exfalso; omega) | (rw [add_0 ‹_›]; simp [Scp.sc, *]; done) | (rw [add_1 ‹_› (by omega)]; simp [Scp.sc, LatR.pl, *]; done) | (rw [add_2 ‹_› (by omega), hvk ‹_›]; simp [Scp.sc]; done) | (rw [add_2 ‹_› (by omega)]; simp [Scp.sc, *]; done) | (rw [add_3 (by omega) (by omega)]; simp [Scp.sc, *]; done)
   ·exact hp48
  ·refine RL.gT rfl (bF h39) ?_
   refine V (run_ldA (cs := scpL _) underlying25 rfl rfl rfl (rangeAt_cells (hH24.blk (i := 5) rfl))) ?_
   refine RL.gT rfl (bF h39) ?_
   refine V (run_ldA (cs := cmdL _) underlying34 rfl rfl rfl (rangeAt_cells (hH24.blk (i := 4) rfl))) ?_
   refine RL.gT rfl (bF h39) ?_
   refine RL.callP rfl hH24 (c_clearanceref13_Fault _ _ (hsm) _ ((hs.mono hK).mono hH24.kw) ((hc.mono hK).mono hH24.kw)) (run_call2 call32 rfl rfl) ?_
   intro w51 hH52
   refine RL.gT rfl (bF h39) ?_
   refine V (run_field underlying56 rfl isAgg3 rfl rfl) ?_
   refine RL.gT rfl (bF h39) ?_
   refine V (run_neq rfl rfl) ?_
   refine V (run_pickF (bF h39) (v := B _) rfl) ?_
   refine RL.nil ?_
   refine CW.condP rfl (fun h54 => ?_) (fun h54 => ?_)
   ·refine SR ?_
    obtain ⟨Z55, hz56, hv57, -⟩ := hH52.frz (K)
    have hH58 : Hp _ w51 (_ :: _ :: _ :: _ :: _ :: Z55) := hz56.zin0 (L := [_, _, _, _, _])
    obtain ⟨Z59, hz60, hv61, -⟩ := hH58.frz (K)
    have hH62 : Hp _ w51 (_ :: _ :: _ :: _ :: (Z59 ++ Z55)) := hz60.zin (L := [_, _, _, _]) (L' := Z55)
    have hp63 : ScpV (Kz K (Z59 ++ Z55)) ⟨v15, s.lats, v20, s.vars⟩ := ⟨by simpa using hv57.mono (Le.zz (fun x hx => (List.mem_append_right _ hx))), by simpa [Scp.sc] using hv61.mono (Le.zz (fun x hx => (List.mem_append_left _ hx))), (hs.lts.mono (Le.z _ _)).each⟩
    refine V (run_ldA (cs := scpL (⟨v15, s.lats, v20, s.vars⟩ : Scp)) underlying25 rfl rfl rfl (rangeAt_cells (hH62.blk (i := 0) rfl))) ?_
    refine RL.set hH62 (i := 1) rfl (run_stW (c' := (scpL _).toArray) rfl rfl rfl (scpL_one hp63) (hH62.blk (i := 1) rfl) rfl) ?_
    intro w64 hH65
    simp only [z0, z1] at hH65
    refine RL.nil ?_
    refine CW.ret ?_
    refine outCg Tryz.results12 rfl hH65 (i := 1) rfl underlying25 rfl rfl ⟨(Z59 ++ Z55), (hH65.sub (sQ (sQ (sQ (sQ sR))))), ⟨v15, s.lats, v20, s.vars⟩, rfl, ?_, ?_⟩
    ·show (⟨_, _⟩ : Sc) = _; first | (exfalso; omega) | (rw [add_0 ‹_›]; simp [Scp.sc, *]; done) | (rw [add_1 ‹_› (by omega)]; simp [Scp.sc, LatR.pl, *]; done) | (rw [add_2 ‹_› (by omega), hvk ‹_›]; simp [Scp.sc]; done) | (rw [add_2 ‹_› (by omega)]; simp [Scp.sc, *]; done) | (rw [add_3 (by omega) (by omega)]; simp [Scp.sc, *]; done)
    ·exact hp63
   ·refine CW.skip ?_
    refine CW.seq ?_
    refine SR ?_
    refine V (fA underlying34 0 rfl sizeOf3 rfl) ?_
    refine V (run_ld underlying3 rfl rfl (hH52.cell (i := 4) rfl (v := I _) rfl)) ?_
    refine V (run_leq rfl rfl) ?_
    refine RL.nil ?_
    refine CW.condP rfl (fun h67 => ?_) (fun h67 => ?_)
    ·refine CW.seq ?_
     refine CW.regionS (by kernel_rfl) hH52 (sQ (sP (sQ sR))) ?_
     intro w68 hH69
     refine AT 0 rfl (hH69.sub (sQ (sP (sQ sR)))) (fun w hS => fA underlying25 0 rfl sizeOf22 rfl) ?_
     refine AT 2 rfl (hH69.sub (sQ (sP (sQ sR)))) (fun w hS => fA underlying34 2 rfl sizeOf27 rfl) ?_
     refine AT 3 rfl (hH69.sub (sQ (sP (sQ sR)))) (fun w hS => fA underlying27 0 rfl sizeOf9 rfl) ?_
     refine AT 4 rfl (hH69.sub (sQ (sP (sQ sR)))) (fun w hS => run_ld underlying9 rfl rfl (hS.cell (i := 2) rfl (v := .string _) rfl)) ?_
     refine AT 5 rfl (hH69.sub (sQ (sP (sQ sR)))) (fun w hS => run_ldA (cs := scpL _) underlying25 rfl rfl rfl (rangeAt_cells (hS.blk (i := 3) rfl))) ?_
     refine AT 6 rfl (hH69.sub (sQ (sP (sQ sR)))) (fun w hS => run_ldA (cs := cmdL _) underlying34 rfl rfl rfl (rangeAt_cells (hS.blk (i := 2) rfl))) ?_
     refine AN.two 1 7 (by kernel_rfl) ?_ ?_
     ·refine AO.read rfl gnone rfl hH69 (sQ (sP (sQ sR))) (run_ld underlying22 rfl rfl (hH69.cell (i := 2) rfl rfl)) ?_
      refine A1 7 ?_
      refine AO.callF rfl gnone rfl hH69 (sQ (sP (sQ sR))) (c_clearanceref13_Shape K s c hsm _ (hK.trans hH69.kw) hs hc) (run_call2 call9 rfl rfl) ?_
      intro v74 w75 Z77 hH76 hp78
      have hH79 : Hp _ w75 (_ :: _ :: _ :: _ :: _ :: _ :: Z77) := hH76.zin0 (L := [_, _, _, _, _, _])
      obtain ⟨p80, rfl, psh81, pv82⟩ := hp78
      refine AT 8 rfl (hH79.sub (sQ (sP (sQ (sP (sP (sP (List.nil_sublist _)))))))) (fun w hS => run_bld (vs := [(0, S _), (1, .agg (shpC p80))]) rfl (built_lat _ p80)) ?_
      refine A1 9 ?_
      refine AO.new rfl gnone rfl hH79 (sQ (sP (sQ (sP (sP (sP (List.nil_sublist _))))))) (f := fun b => .slice (some ⟨b, 0, none⟩) 1 1) (run_mkRecs latL_len underlying22 rfl rfl rfl (l := [(⟨c.name.text, p80⟩ : LatR)]) rfl (by decide) (by decide) rfl) ?_
      intro b85 w83 hH84
      refine A1 10 ?_
      refine AO.app rfl gnone rfl hH84 (j := 1) rfl (fun _ => (sQ (sQ (sP (sQ (sP (sP (sP (List.nil_sublist _))))))))) (Hp.slFlat latL_len hH84 (i := 0) (l := [(⟨c.name.text, p80⟩ : LatR)]) rfl (by simp [maxLen])) rfl rfl underlying22 rfl rfl (size := 3) (bytes := 48) rfl rfl rfl (by decide) (lats1_one pv82) (by simp only [List.length_cons, List.length_nil]; omega) (by simp only [maxLen, List.length_cons, List.length_nil]; omega) ?_
      intro v88 w86 hH87
      simp only [z0, z1] at hH87
      refine AT 11 rfl (hH87.sub (sQ (sQ (sP (sQ (sP (sP (sP (List.nil_sublist _))))))))) (fun w hS => fA underlying25 0 rfl sizeOf22 rfl) ?_
      refine A1 12 ?_
      refine AO.set rfl gnone hH87 (j := 3) rfl (sQ (sQ (sP (sQ (sP (sP (sP (List.nil_sublist _)))))))) (run_st rfl rfl (v := v88) rfl (row_cells (hH87.get (i := 1) rfl)).1 (row_cells (hH87.get (i := 1) rfl)).2 (hH87.blk (i := 3) rfl) (by first | (show 0 < 2; decide) | decide | (simp only [List.size_toArray, scpL_len]; decide) | simp)) ?_
      intro w91 hH92
      simp only [z0, z1] at hH92
      refine AD ?_
      refine SR ?_
      obtain ⟨Z93, hz94, hv95, -⟩ := (hH92.perm (((pC pR).trans pS).trans (pC pR))).frz (K)
      have hH96 : Hp _ w91 (_ :: _ :: _ :: _ :: _ :: _ :: (Z93 ++ Z77)) := hz94.zin (L := [_, _, _, _, _, _]) (L' := Z77)
      obtain ⟨Z97, hz98, hv99, -⟩ := (hH96.perm (((pC pR).trans pS).trans (pC pR))).frz (K)
      have hH100 : Hp _ w91 (_ :: _ :: _ :: _ :: _ :: (Z97 ++ (Z93 ++ Z77))) := hz98.zin (L := [_, _, _, _, _]) (L' := (Z93 ++ Z77))
      have hp101 : ScpV (Kz K (Z97 ++ (Z93 ++ Z77))) ⟨v88, (s.lats ++ [⟨c.name.text, p80⟩]), v20, s.vars⟩ := ⟨by simpa using hv95.mono (Le.zz (fun x hx => (List.mem_append_right _ (List.mem_append_left _ hx)))), by simpa [Scp.sc] using hv99.mono (Le.zz (fun x hx => (List.mem_append_left _ hx))), ((hs.lts.mono (Le.z _ _)).snoc (pv82.mono (Le.zz (fun x hx => (List.mem_append_right _ (List.mem_append_right _ hx)))))).each⟩
      refine V (run_ldA (cs := scpL (⟨v88, (s.lats ++ [⟨c.name.text, p80⟩]), v20, s.vars⟩ : Scp)) underlying25 rfl rfl rfl (rangeAt_cells (hH100.blk (i := 1) rfl))) ?_
      refine RL.set hH100 (i := 2) rfl (run_stW (c' := (scpL _).toArray) rfl rfl rfl (scpL_one hp101) (hH100.blk (i := 2) rfl) rfl) ?_
      intro w102 hH103
      simp only [z0, z1] at hH103
      refine RL.nil ?_
      refine CW.ret ?_
      refine outCg Tryz.results12 rfl hH103 (i := 2) rfl underlying25 rfl rfl ⟨(Z97 ++ (Z93 ++ Z77)), (hH103.sub (sQ (sQ (sQ (sQ (sQ sR)))))), ⟨v88, (s.lats ++ [⟨c.name.text, p80⟩]), v20, s.vars⟩, rfl, ?_, ?_⟩
      ·show (⟨_, _⟩ : Sc) = _; first | (exfalso; omega) | (rw [add_0 ‹_›]; simp [Scp.sc, *]; done) | (rw [add_1 ‹_› (by omega)]; simp [Scp.sc, LatR.pl, *]; done) | (rw [add_2 ‹_› (by omega), hvk ‹_›]; simp [Scp.sc]; done) | (rw [add_2 ‹_› (by omega)]; simp [Scp.sc, *]; done) | (rw [add_3 (by omega) (by omega)]; simp [Scp.sc, *]; done)
      ·exact hp101
     ·refine AO.callF rfl gnone rfl hH69 (sQ (sP (sQ sR))) (c_clearanceref13_Shape K s c hsm _ (hK.trans hH69.kw) hs hc) (run_call2 call9 rfl rfl) ?_
      intro v106 w107 Z109 hH108 hp110
      have hH111 : Hp _ w107 (_ :: _ :: _ :: _ :: _ :: _ :: Z109) := hH108.zin0 (L := [_, _, _, _, _, _])
      obtain ⟨p112, rfl, psh113, pv114⟩ := hp110
      refine AT 8 rfl (hH111.sub (sQ (sP (sQ (sP (sP (sP (List.nil_sublist _)))))))) (fun w hS => run_bld (vs := [(0, S _), (1, .agg (shpC p112))]) rfl (built_lat _ p112)) ?_
      refine AN.two 1 9 (by kernel_rfl) ?_ ?_
      ·refine AO.read rfl gnone rfl hH111 (sQ (sP (sQ (sP (sP (sP (List.nil_sublist _))))))) (run_ld underlying22 rfl rfl (hH111.cell (i := 2) rfl rfl)) ?_
       refine A1 9 ?_
       refine AO.new rfl gnone rfl hH111 (sQ (sP (sQ (sP (sP (sP (List.nil_sublist _))))))) (f := fun b => .slice (some ⟨b, 0, none⟩) 1 1) (run_mkRecs latL_len underlying22 rfl rfl rfl (l := [(⟨c.name.text, p112⟩ : LatR)]) rfl (by decide) (by decide) rfl) ?_
       intro b119 w117 hH118
       refine A1 10 ?_
       refine AO.app rfl gnone rfl hH118 (j := 1) rfl (fun _ => (sQ (sQ (sP (sQ (sP (sP (sP (List.nil_sublist _))))))))) (Hp.slFlat latL_len hH118 (i := 0) (l := [(⟨c.name.text, p112⟩ : LatR)]) rfl (by simp [maxLen])) rfl rfl underlying22 rfl rfl (size := 3) (bytes := 48) rfl rfl rfl (by decide) (lats1_one pv114) (by simp only [List.length_cons, List.length_nil]; omega) (by simp only [maxLen, List.length_cons, List.length_nil]; omega) ?_
       intro v122 w120 hH121
       simp only [z0, z1] at hH121
       refine AT 11 rfl (hH121.sub (sQ (sQ (sP (sQ (sP (sP (sP (List.nil_sublist _))))))))) (fun w hS => fA underlying25 0 rfl sizeOf22 rfl) ?_
       refine A1 12 ?_
       refine AO.set rfl gnone hH121 (j := 3) rfl (sQ (sQ (sP (sQ (sP (sP (sP (List.nil_sublist _)))))))) (run_st rfl rfl (v := v122) rfl (row_cells (hH121.get (i := 1) rfl)).1 (row_cells (hH121.get (i := 1) rfl)).2 (hH121.blk (i := 3) rfl) (by first | (show 0 < 2; decide) | decide | (simp only [List.size_toArray, scpL_len]; decide) | simp)) ?_
       intro w125 hH126
       simp only [z0, z1] at hH126
       refine AD ?_
       refine SR ?_
       obtain ⟨Z127, hz128, hv129, -⟩ := (hH126.perm (((pC pR).trans pS).trans (pC pR))).frz (K)
       have hH130 : Hp _ w125 (_ :: _ :: _ :: _ :: _ :: _ :: (Z127 ++ Z109)) := hz128.zin (L := [_, _, _, _, _, _]) (L' := Z109)
       obtain ⟨Z131, hz132, hv133, -⟩ := (hH130.perm (((pC pR).trans pS).trans (pC pR))).frz (K)
       have hH134 : Hp _ w125 (_ :: _ :: _ :: _ :: _ :: (Z131 ++ (Z127 ++ Z109))) := hz132.zin (L := [_, _, _, _, _]) (L' := (Z127 ++ Z109))
       have hp135 : ScpV (Kz K (Z131 ++ (Z127 ++ Z109))) ⟨v122, (s.lats ++ [⟨c.name.text, p112⟩]), v20, s.vars⟩ := ⟨by simpa using hv129.mono (Le.zz (fun x hx => (List.mem_append_right _ (List.mem_append_left _ hx)))), by simpa [Scp.sc] using hv133.mono (Le.zz (fun x hx => (List.mem_append_left _ hx))), ((hs.lts.mono (Le.z _ _)).snoc (pv114.mono (Le.zz (fun x hx => (List.mem_append_right _ (List.mem_append_right _ hx)))))).each⟩
       refine V (run_ldA (cs := scpL (⟨v122, (s.lats ++ [⟨c.name.text, p112⟩]), v20, s.vars⟩ : Scp)) underlying25 rfl rfl rfl (rangeAt_cells (hH134.blk (i := 1) rfl))) ?_
       refine RL.set hH134 (i := 2) rfl (run_stW (c' := (scpL _).toArray) rfl rfl rfl (scpL_one hp135) (hH134.blk (i := 2) rfl) rfl) ?_
       intro w136 hH137
       simp only [z0, z1] at hH137
       refine RL.nil ?_
       refine CW.ret ?_
       refine outCg Tryz.results12 rfl hH137 (i := 2) rfl underlying25 rfl rfl ⟨(Z131 ++ (Z127 ++ Z109)), (hH137.sub (sQ (sQ (sQ (sQ (sQ sR)))))), ⟨v122, (s.lats ++ [⟨c.name.text, p112⟩]), v20, s.vars⟩, rfl, ?_, ?_⟩
       ·show (⟨_, _⟩ : Sc) = _; first | (exfalso; omega) | (rw [add_0 ‹_›]; simp [Scp.sc, *]; done) | (rw [add_1 ‹_› (by omega)]; simp [Scp.sc, LatR.pl, *]; done) | (rw [add_2 ‹_› (by omega), hvk ‹_›]; simp [Scp.sc]; done) | (rw [add_2 ‹_› (by omega)]; simp [Scp.sc, *]; done) | (rw [add_3 (by omega) (by omega)]; simp [Scp.sc, *]; done)
       ·exact hp135
      ·refine AO.new rfl gnone rfl hH111 (sQ (sP (sQ (sP (sP (sP (List.nil_sublist _))))))) (f := fun b => .slice (some ⟨b, 0, none⟩) 1 1) (run_mkRecs latL_len underlying22 rfl rfl rfl (l := [(⟨c.name.text, p112⟩ : LatR)]) rfl (by decide) (by decide) rfl) ?_
       intro b140 w138 hH139
       refine A1 1 ?_
       refine AO.read rfl gnone rfl hH139 (sQ (sQ (sP (sQ (sP (sP (sP (List.nil_sublist _)))))))) (run_ld underlying22 rfl rfl (hH139.cell (i := 3) rfl rfl)) ?_
       refine A1 10 ?_
       refine AO.app rfl gnone rfl hH139 (j := 1) rfl (fun _ => (sQ (sQ (sP (sQ (sP (sP (sP (List.nil_sublist _))))))))) (Hp.slFlat latL_len hH139 (i := 0) (l := [(⟨c.name.text, p112⟩ : LatR)]) rfl (by simp [maxLen])) rfl rfl underlying22 rfl rfl (size := 3) (bytes := 48) rfl rfl rfl (by decide) (lats1_one pv114) (by simp only [List.length_cons, List.length_nil]; omega) (by simp only [maxLen, List.length_cons, List.length_nil]; omega) ?_
       intro v145 w143 hH144
       simp only [z0, z1] at hH144
       refine AT 11 rfl (hH144.sub (sQ (sQ (sP (sQ (sP (sP (sP (List.nil_sublist _))))))))) (fun w hS => fA underlying25 0 rfl sizeOf22 rfl) ?_
       refine A1 12 ?_
       refine AO.set rfl gnone hH144 (j := 3) rfl (sQ (sQ (sP (sQ (sP (sP (sP (List.nil_sublist _)))))))) (run_st rfl rfl (v := v145) rfl (row_cells (hH144.get (i := 1) rfl)).1 (row_cells (hH144.get (i := 1) rfl)).2 (hH144.blk (i := 3) rfl) (by first | (show 0 < 2; decide) | decide | (simp only [List.size_toArray, scpL_len]; decide) | simp)) ?_
       intro w148 hH149
       simp only [z0, z1] at hH149
       refine AD ?_
       refine SR ?_
       obtain ⟨Z150, hz151, hv152, -⟩ := (hH149.perm (((pC pR).trans pS).trans (pC pR))).frz (K)
       have hH153 : Hp _ w148 (_ :: _ :: _ :: _ :: _ :: _ :: (Z150 ++ Z109)) := hz151.zin (L := [_, _, _, _, _, _]) (L' := Z109)
       obtain ⟨Z154, hz155, hv156, -⟩ := (hH153.perm (((pC pR).trans pS).trans (pC pR))).frz (K)
       have hH157 : Hp _ w148 (_ :: _ :: _ :: _ :: _ :: (Z154 ++ (Z150 ++ Z109))) := hz155.zin (L := [_, _, _, _, _]) (L' := (Z150 ++ Z109))
       have hp158 : ScpV (Kz K (Z154 ++ (Z150 ++ Z109))) ⟨v145, (s.lats ++ [⟨c.name.text, p112⟩]), v20, s.vars⟩ := ⟨by simpa using hv152.mono (Le.zz (fun x hx => (List.mem_append_right _ (List.mem_append_left _ hx)))), by simpa [Scp.sc] using hv156.mono (Le.zz (fun x hx => (List.mem_append_left _ hx))), ((hs.lts.mono (Le.z _ _)).snoc (pv114.mono (Le.zz (fun x hx => (List.mem_append_right _ (List.mem_append_right _ hx)))))).each⟩
       refine V (run_ldA (cs := scpL (⟨v145, (s.lats ++ [⟨c.name.text, p112⟩]), v20, s.vars⟩ : Scp)) underlying25 rfl rfl rfl (rangeAt_cells (hH157.blk (i := 1) rfl))) ?_
       refine RL.set hH157 (i := 2) rfl (run_stW (c' := (scpL _).toArray) rfl rfl rfl (scpL_one hp158) (hH157.blk (i := 2) rfl) rfl) ?_
       intro w159 hH160
       simp only [z0, z1] at hH160
       refine RL.nil ?_
       refine CW.ret ?_
       refine outCg Tryz.results12 rfl hH160 (i := 2) rfl underlying25 rfl rfl ⟨(Z154 ++ (Z150 ++ Z109)), (hH160.sub (sQ (sQ (sQ (sQ (sQ sR)))))), ⟨v145, (s.lats ++ [⟨c.name.text, p112⟩]), v20, s.vars⟩, rfl, ?_, ?_⟩
       ·show (⟨_, _⟩ : Sc) = _; first | (exfalso; omega) | (rw [add_0 ‹_›]; simp [Scp.sc, *]; done) | (rw [add_1 ‹_› (by omega)]; simp [Scp.sc, LatR.pl, *]; done) | (rw [add_2 ‹_› (by omega), hvk ‹_›]; simp [Scp.sc]; done) | (rw [add_2 ‹_› (by omega)]; simp [Scp.sc, *]; done) | (rw [add_3 (by omega) (by omega)]; simp [Scp.sc, *]; done)
       ·exact hp158
    ·refine CW.skip ?_
     refine SR ?_
     refine V (aV (I 1) rfl) ?_
     refine RL.nil ?_
     refine CW.cutG (G := Unit) hH52 [6, 52, 53, 54] (fun (L : List Ent) (_u : Unit) => L) (fun (_u : Unit) s' => (s' 6 = I (kindF c))) ?_ ?_
     ·refine SR ?_
      refine V (fA underlying34 0 rfl sizeOf3 rfl) ?_
      refine V (run_ld underlying3 rfl rfl (hH52.cell (i := 4) rfl (v := I _) rfl)) ?_
      refine V (run_eql rfl rfl) ?_
      refine RL.nil ?_
      refine CW.condP rfl (fun h162 => ?_) (fun h162 => ?_)
      ·refine CW.region ?_
       refine V (aV (I 2) rfl) ?_
       refine RL.nil ?_
       refine ⟨((Fr.refl _ _)).u4, (), hH52, (congrArg I ?_)⟩
       ·(rw [kindF]; split <;> omega)
      ·refine CW.skip ?_
       refine ⟨((Fr.refl _ _)).u1.u1.u1, (), hH52, (congrArg I ?_)⟩
       ·(rw [kindF]; split <;> omega)
     ·rintro _u sg163 w163 fr163 hH163 e6_163
      have e2_163 : sg163 2 = Pn _ _ := (fr163 2 rfl).trans rfl
      have e3_163 : sg163 3 = Pn _ _ := (fr163 3 rfl).trans rfl
      have e4_163 : sg163 4 = Pn _ _ := (fr163 4 rfl).trans rfl
      have e5_163 : sg163 5 = Pn _ _ := (fr163 5 rfl).trans rfl
      refine CW.seq ?_
      refine SR ?_
      refine V (aV (I 0) rfl) ?_
      refine RL.nil ?_
      refine CW.block ?_
      refine CW.loop (G := (Int) × (Value) × (List VarR)) (fun (⟨k, fv1, vs⟩ : (Int) × (Value) × (List VarR)) s' w' => (Fr [7, 55, 56, 57, 58, 59, 60, 61, 62, 63, 64, 65, 66, 67, 68, 69, 70, 71, 72, 73, 74, 75, 76, 77, 78, 79] _ s') ∧ (Hp w w' (_ :: .row fv1 50 3 (vs.length) (vs.flatMap varL) :: .blk b12 (.cells (#[v15, fv1]) 25 (0, 0)) :: _)) ∧ (s' 7 = I k) ∧ (0 ≤ k) ∧ (k ≤ c.names.length) ∧ (vs = s.vars ++ (varsF s c).take k.toNat) ∧ ((vs.length : Int) = s.vars.length + k)) (fun (⟨k, fv1, vs⟩ : (Int) × (Value) × (List VarR)) => (c.names.length - k).toNat) ((0, (v20 : Value), s.vars)) ⟨Fr.refl _ _, hH163, rfl, (by omega), (by omega), (List.append_nil _).symm, (by simp)⟩ ?_
      rintro ⟨k, fv1, vs⟩ sg164 w164 ⟨fr164, hH164, e7_164, h0, hk, hvs, hvl⟩
      have e2_164 := (fr164 2 rfl).trans e2_163
      have e3_164 := (fr164 3 rfl).trans e3_163
      have e4_164 := (fr164 4 rfl).trans e4_163
      have e5_164 := (fr164 5 rfl).trans e5_163
      have e6_164 := (fr164 6 rfl).trans e6_163
      have hvk : ¬ k < c.names.length → vs = s.vars ++ varsF s c := fun h => by rw [hvs, List.take_of_length_le (by rw [varsF_len]; omega)]
      refine CW.seq ?_
      refine SR ?_
      refine V (run_move e7_164) ?_
      refine V (fA underlying34 4 rfl sizeOf28 e3_164) ?_
      refine V (run_ldV ((hc.mono hK).names.sl.hp hH164) underlying28 rfl rfl (hH164.cell (i := 4) rfl rfl)) ?_
      refine V (run_lenSl ((hc.mono hK).names.sl.hp hH164) rfl underlying28 rfl) ?_
      refine V (run_lss rfl rfl) ?_
      refine RL.nil ?_
      refine CW.condP rfl (fun h166 => ?_) (fun h166 => ?_)
      ·refine CW.skip ?_
       refine CW.seq ?_
       refine CW.block ?_
       refine CW.regionS (by kernel_rfl) hH164 (sP (sQ (sQ sR))) ?_
       intro w167 hH168
       refine AT 0 rfl (hH168.sub (sP (sQ (sQ sR)))) (fun w hS => fA underlying25 1 rfl sizeOf23 e5_164) ?_
       refine AT 2 rfl (hH168.sub (sP (sQ (sQ sR)))) (fun w hS => fA underlying34 4 rfl sizeOf28 e3_164) ?_
       refine AT 3 rfl (hH168.sub (sP (sQ (sQ sR)))) (fun w hS => run_ldV ((hc.mono hK).names.sl.hp hS) underlying28 rfl rfl (hS.cell (i := 2) rfl rfl)) ?_
       refine AT 4 rfl (hH168.sub (sP (sQ (sQ sR)))) (fun w hS => run_move e7_164) ?_
       refine AT 5 rfl (hH168.sub (sP (sQ (sQ sR)))) (fun w hS => run_indexAddrS ((hc.mono hK).names.sl.hp hS) underlying28 sizeOf27 rfl rfl (by omega)) ?_
       refine AT 6 rfl (hH168.sub (sP (sQ (sQ sR)))) (fun w hS => fA underlying27 0 rfl sizeOf9 rfl) ?_
       refine AT 7 rfl (hH168.sub (sP (sQ (sQ sR)))) (fun w hS => run_ldE1 (dv := wd0) (off := 0) wdL_len ((hc.mono hK).names.sl.hp hS) underlying9 rfl rfl (by omega) rfl) ?_
       refine AT 8 rfl (hH168.sub (sP (sQ (sQ sR)))) (fun w hS => run_move e6_164) ?_
       refine AT 9 rfl (hH168.sub (sP (sQ (sQ sR)))) (fun w hS => run_ldA (cs := scpL _) underlying25 rfl rfl e2_164 (rangeAt_cells (hS.blk (i := 3) rfl))) ?_
       refine AT 10 rfl (hH168.sub (sP (sQ (sQ sR)))) (fun w hS => fA underlying34 2 rfl sizeOf27 e3_164) ?_
       refine AT 11 rfl (hH168.sub (sP (sQ (sQ sR)))) (fun w hS => fA underlying27 0 rfl sizeOf9 rfl) ?_
       refine AT 12 rfl (hH168.sub (sP (sQ (sQ sR)))) (fun w hS => run_ld underlying9 rfl rfl (hS.cell (i := 2) rfl (v := .string _) rfl)) ?_
       refine AN.two 1 13 (by kernel_rfl) ?_ ?_
       ·refine AO.read rfl gnone rfl hH168 (sP (sQ (sQ sR))) (run_ld underlying23 rfl rfl (hH168.cell (i := 2) rfl rfl)) ?_
        refine A1 13 ?_
        refine AO.callP rfl gnone rfl hH168 (sP (sQ (sQ sR))) (c_clearanceref13_Lat _ _  _ ((hs.mono hK).mono hH168.kw)) (run_call2 call28 rfl rfl) ?_
        intro w171 hH172
        refine AT 14 rfl (hH172.sub (sP (sQ (sQ sR)))) (fun w hS => run_bld (vs := [(0, S _), (1, I _), (2, I _)]) rfl (built_varL _ _ _)) ?_
        refine A1 15 ?_
        refine AO.new rfl gnone rfl hH172 (sP (sQ (sQ sR))) (f := fun b => .slice (some ⟨b, 0, none⟩) 1 1) (run_mkRecs varL_len underlying23 rfl rfl rfl (l := [(⟨(c.names.getD k.toNat wd0).text, kindF c, findLat s c.name.text⟩ : VarR)]) rfl (by decide) (by decide) rfl) ?_
        intro b175 w173 hH174
        refine A1 16 ?_
        refine AO.app rfl gnone rfl hH174 (j := 2) rfl (fun _ => (sQ (sP (sQ (sQ sR))))) (Hp.slFlat varL_len hH174 (i := 0) (l := [(⟨(c.names.getD k.toNat wd0).text, kindF c, findLat s c.name.text⟩ : VarR)]) rfl (by simp [maxLen])) rfl rfl underlying23 rfl rfl (size := 3) (bytes := 32) rfl rfl rfl (by decide) (by simp [varL, Value.oneCell']) (by simp only [List.length_cons, List.length_nil]; omega) (by simp only [maxLen, List.length_cons, List.length_nil]; omega) ?_
        intro v178 w176 hH177
        simp only [z0, z1] at hH177
        refine AT 17 rfl (hH177.sub (sQ (sP (sQ (sQ sR))))) (fun w hS => fA underlying25 1 rfl sizeOf23 e5_164) ?_
        refine A1 18 ?_
        refine AO.set rfl gnone hH177 (j := 3) rfl (sQ (sP (sQ (sQ sR)))) (run_st rfl rfl (v := v178) rfl (row_cells (hH177.get (i := 2) rfl)).1 (row_cells (hH177.get (i := 2) rfl)).2 (hH177.blk (i := 3) rfl) (by first | (show 1 < 2; decide) | decide | (simp only [List.size_toArray, scpL_len]; decide) | simp)) ?_
        intro w181 hH182
        simp only [z0, z1] at hH182
        refine AD ?_
        refine CW.region ?_
        refine V (run_move e7_164) ?_
        refine V (run_add rfl rfl (by omega)) ?_
        refine V (aV (I _) rfl) ?_
        refine RL.nil ?_
        refine ⟨(k + 1, v178, (vs ++ [⟨(c.names.getD k.toNat wd0).text, kindF c, findLat s c.name.text⟩])), ?_, fr164.u4.u4.u4.u4.u4.u4.u1.u1, (Hp.conv (hH182.sub (sQ sR)) (by first | rfl | simp)), (congrArg I (by first | rfl | omega)), ?_, ?_, ?_, ?_⟩
        ·((try dsimp only); omega)
        ·omega
        ·omega
        ·rw [vars_next h0 ‹k < _›, hvs, List.append_assoc]
        ·simp only [List.length_append, List.length_singleton]; omega
       ·refine AO.callP rfl gnone rfl hH168 (sP (sQ (sQ sR))) (c_clearanceref13_Lat _ _  _ ((hs.mono hK).mono hH168.kw)) (run_call2 call28 rfl rfl) ?_
        intro w183 hH184
        refine AT 14 rfl (hH184.sub (sP (sQ (sQ sR)))) (fun w hS => run_bld (vs := [(0, S _), (1, I _), (2, I _)]) rfl (built_varL _ _ _)) ?_
        refine AN.two 1 15 (by kernel_rfl) ?_ ?_
        ·refine AO.read rfl gnone rfl hH184 (sP (sQ (sQ sR))) (run_ld underlying23 rfl rfl (hH184.cell (i := 2) rfl rfl)) ?_
         refine A1 15 ?_
         refine AO.new rfl gnone rfl hH184 (sP (sQ (sQ sR))) (f := fun b => .slice (some ⟨b, 0, none⟩) 1 1) (run_mkRecs varL_len underlying23 rfl rfl rfl (l := [(⟨(c.names.getD k.toNat wd0).text, kindF c, findLat s c.name.text⟩ : VarR)]) rfl (by decide) (by decide) rfl) ?_
         intro b189 w187 hH188
         refine A1 16 ?_
         refine AO.app rfl gnone rfl hH188 (j := 2) rfl (fun _ => (sQ (sP (sQ (sQ sR))))) (Hp.slFlat varL_len hH188 (i := 0) (l := [(⟨(c.names.getD k.toNat wd0).text, kindF c, findLat s c.name.text⟩ : VarR)]) rfl (by simp [maxLen])) rfl rfl underlying23 rfl rfl (size := 3) (bytes := 32) rfl rfl rfl (by decide) (by simp [varL, Value.oneCell']) (by simp only [List.length_cons, List.length_nil]; omega) (by simp only [maxLen, List.length_cons, List.length_nil]; omega) ?_
         intro v192 w190 hH191
         simp only [z0, z1] at hH191
         refine AT 17 rfl (hH191.sub (sQ (sP (sQ (sQ sR))))) (fun w hS => fA underlying25 1 rfl sizeOf23 e5_164) ?_
         refine A1 18 ?_
         refine AO.set rfl gnone hH191 (j := 3) rfl (sQ (sP (sQ (sQ sR)))) (run_st rfl rfl (v := v192) rfl (row_cells (hH191.get (i := 2) rfl)).1 (row_cells (hH191.get (i := 2) rfl)).2 (hH191.blk (i := 3) rfl) (by first | (show 1 < 2; decide) | decide | (simp only [List.size_toArray, scpL_len]; decide) | simp)) ?_
         intro w195 hH196
         simp only [z0, z1] at hH196
         refine AD ?_
         refine CW.region ?_
         refine V (run_move e7_164) ?_
         refine V (run_add rfl rfl (by omega)) ?_
         refine V (aV (I _) rfl) ?_
         refine RL.nil ?_
         refine ⟨(k + 1, v192, (vs ++ [⟨(c.names.getD k.toNat wd0).text, kindF c, findLat s c.name.text⟩])), ?_, fr164.u4.u4.u4.u4.u4.u4.u1.u1, (Hp.conv (hH196.sub (sQ sR)) (by first | rfl | simp)), (congrArg I (by first | rfl | omega)), ?_, ?_, ?_, ?_⟩
         ·((try dsimp only); omega)
         ·omega
         ·omega
         ·rw [vars_next h0 ‹k < _›, hvs, List.append_assoc]
         ·simp only [List.length_append, List.length_singleton]; omega
        ·refine AO.new rfl gnone rfl hH184 (sP (sQ (sQ sR))) (f := fun b => .slice (some ⟨b, 0, none⟩) 1 1) (run_mkRecs varL_len underlying23 rfl rfl rfl (l := [(⟨(c.names.getD k.toNat wd0).text, kindF c, findLat s c.name.text⟩ : VarR)]) rfl (by decide) (by decide) rfl) ?_
         intro b199 w197 hH198
         refine A1 1 ?_
         refine AO.read rfl gnone rfl hH198 (sQ (sP (sQ (sQ sR)))) (run_ld underlying23 rfl rfl (hH198.cell (i := 3) rfl rfl)) ?_
         refine A1 16 ?_
         refine AO.app rfl gnone rfl hH198 (j := 2) rfl (fun _ => (sQ (sP (sQ (sQ sR))))) (Hp.slFlat varL_len hH198 (i := 0) (l := [(⟨(c.names.getD k.toNat wd0).text, kindF c, findLat s c.name.text⟩ : VarR)]) rfl (by simp [maxLen])) rfl rfl underlying23 rfl rfl (size := 3) (bytes := 32) rfl rfl rfl (by decide) (by simp [varL, Value.oneCell']) (by simp only [List.length_cons, List.length_nil]; omega) (by simp only [maxLen, List.length_cons, List.length_nil]; omega) ?_
         intro v204 w202 hH203
         simp only [z0, z1] at hH203
         refine AT 17 rfl (hH203.sub (sQ (sP (sQ (sQ sR))))) (fun w hS => fA underlying25 1 rfl sizeOf23 e5_164) ?_
         refine A1 18 ?_
         refine AO.set rfl gnone hH203 (j := 3) rfl (sQ (sP (sQ (sQ sR)))) (run_st rfl rfl (v := v204) rfl (row_cells (hH203.get (i := 2) rfl)).1 (row_cells (hH203.get (i := 2) rfl)).2 (hH203.blk (i := 3) rfl) (by first | (show 1 < 2; decide) | decide | (simp only [List.size_toArray, scpL_len]; decide) | simp)) ?_
         intro w207 hH208
         simp only [z0, z1] at hH208
         refine AD ?_
         refine CW.region ?_
         refine V (run_move e7_164) ?_
         refine V (run_add rfl rfl (by omega)) ?_
         refine V (aV (I _) rfl) ?_
         refine RL.nil ?_
         refine ⟨(k + 1, v204, (vs ++ [⟨(c.names.getD k.toNat wd0).text, kindF c, findLat s c.name.text⟩])), ?_, fr164.u4.u4.u4.u4.u4.u4.u1.u1, (Hp.conv (hH208.sub (sQ sR)) (by first | rfl | simp)), (congrArg I (by first | rfl | omega)), ?_, ?_, ?_, ?_⟩
         ·((try dsimp only); omega)
         ·omega
         ·omega
         ·rw [vars_next h0 ‹k < _›, hvs, List.append_assoc]
         ·simp only [List.length_append, List.length_singleton]; omega
      ·refine CW.exit (id := 0) rfl ?_
       refine SR ?_
       obtain ⟨Z209, hz210, hv211, -⟩ := hH164.frz (K)
       have hH212 : Hp _ w164 (_ :: _ :: _ :: _ :: _ :: Z209) := hz210.zin0 (L := [_, _, _, _, _])
       obtain ⟨Z213, hz214, hv215, -⟩ := hH212.frz (K)
       have hH216 : Hp _ w164 (_ :: _ :: _ :: _ :: (Z213 ++ Z209)) := hz214.zin (L := [_, _, _, _]) (L' := Z209)
       have hp217 : ScpV (Kz K (Z213 ++ Z209)) ⟨v15, s.lats, fv1, vs⟩ := ⟨by simpa using hv211.mono (Le.zz (fun x hx => (List.mem_append_right _ hx))), by simpa [Scp.sc] using hv215.mono (Le.zz (fun x hx => (List.mem_append_left _ hx))), (hs.lts.mono (Le.z _ _)).each⟩
       refine V (run_ldA (cs := scpL (⟨v15, s.lats, fv1, vs⟩ : Scp)) underlying25 rfl rfl e5_164 (rangeAt_cells (hH216.blk (i := 0) rfl))) ?_
       refine RL.set hH216 (i := 1) rfl (run_stW (c' := (scpL _).toArray) rfl e4_164 rfl (scpL_one hp217) (hH216.blk (i := 1) rfl) rfl) ?_
       intro w218 hH219
       simp only [z0, z1] at hH219
       refine RL.nil ?_
       refine CW.ret ?_
       refine outCg Tryz.results12 e4_164 hH219 (i := 1) rfl underlying25 rfl rfl ⟨(Z213 ++ Z209), (hH219.sub (sQ (sQ (sQ (sQ sR))))), ⟨v15, s.lats, fv1, vs⟩, rfl, ?_, ?_⟩
       ·show (⟨_, _⟩ : Sc) = _; first | (exfalso; omega) | (rw [add_0 ‹_›]; simp [Scp.sc, *]; done) | (rw [add_1 ‹_› (by omega)]; simp [Scp.sc, LatR.pl, *]; done) | (rw [add_2 ‹_› (by omega), hvk ‹_›]; simp [Scp.sc]; done) | (rw [add_2 ‹_› (by omega)]; simp [Scp.sc, *]; done) | (rw [add_3 (by omega) (by omega)]; simp [Scp.sc, *]; done)
       ·exact hp217

theorem c_scope_Right (s : Scp) (w : World) (hs : ScpV (Kw w) s) (hT : Tab w) : Calls Tryz.prog 13 #[.agg (scpC s)] w (Pure (B (rightS s)) w) := by
 have hm1 := hs.lats.sl.small
 have hm2 := hs.vars.sl.small
 unfold maxLen at hm1 hm2
 refine enter Tryz.func13 rfl Tryz.ntmps13 rfl ?_
 have hH := Hp.start w
 refine SR ?_
 refine RL.new rfl hH (f := fun b => (.pointer (some ⟨b, 0, none⟩))) (run_box (v := .agg _) rfl) ?_
 intro b3 w1 hH2
 refine V (aV (B false) rfl) ?_
 refine RL.nil ?_
 refine CW.seq ?_
 refine SR ?_
 refine V (fA underlying25 0 rfl sizeOf22 rfl) ?_
 refine V (run_ldV (hs.lats.sl.hp hH2) underlying22 rfl rfl (hH2.cell (i := 0) rfl rfl)) ?_
 refine V (run_lenSl (hs.lats.sl.hp hH2) rfl underlying22 rfl) ?_
 refine V (run_gtr rfl rfl) ?_
 refine V (mV (B _) rfl) ?_
 refine RL.splitP (dj := 12) rfl (fun h5 => ?_) (fun h5 => ?_)
 ·refine RL.gF rfl rfl (bT h5) rfl ?_
  refine RL.gF rfl rfl (bT h5) rfl ?_
  refine RL.gF rfl rfl (bT h5) rfl ?_
  refine RL.gF rfl rfl (bT h5) rfl ?_
  refine V (run_pickT (bT h5) (v := B true) rfl) ?_
  refine RL.nil ?_
  refine CW.condT rfl ?_
  refine SR ?_
  refine V (aV (B false) rfl) ?_
  refine RL.nil ?_
  refine CW.ret ?_
  refine outP1 Tryz.results13 (congrArg B ?_) hH2.below
  first | exact (right_no1 (by omega)).symm | exact (right_no2 h0 ‹k < _› (by rw [latOk, nt ‹(!nameR _) = true›]; rfl)).symm | exact (right_no2 h0 ‹k < _› (by rw [latOk, nt ‹(!shR _) = true›, Bool.and_false])).symm | exact (right_no3 j0 ‹j < _› (by rw [varOk, nt ‹(!nameR _) = true›]; rfl)).symm | exact (right_no3 j0 ‹j < _› (by rw [varOk, decide_eq_false (by omega), Bool.and_false])).symm | (have hnm : m2 = namesS s := (by rw [hm2, hm, List.take_of_length_le (by omega), List.take_of_length_le (by omega)]; rfl); rw [hnm]; exact (right_yes hsz ‹¬ k < _› hg ‹¬ j < _› hv).symm)
 ·refine RL.gT rfl (bF h5) ?_
  refine V (fA underlying25 1 rfl sizeOf23 rfl) ?_
  refine RL.gT rfl (bF h5) ?_
  refine V (run_ldV (hs.vars.sl.hp hH2) underlying23 rfl rfl (hH2.cell (i := 0) rfl rfl)) ?_
  refine RL.gT rfl (bF h5) ?_
  refine V (run_lenSl (hs.vars.sl.hp hH2) rfl underlying23 rfl) ?_
  refine RL.gT rfl (bF h5) ?_
  refine V (run_gtr rfl rfl) ?_
  refine V (run_pickF (bF h5) (v := B _) rfl) ?_
  refine RL.nil ?_
  refine CW.condP rfl (fun h7 => ?_) (fun h7 => ?_)
  ·refine SR ?_
   refine V (aV (B false) rfl) ?_
   refine RL.nil ?_
   refine CW.ret ?_
   refine outP1 Tryz.results13 (congrArg B ?_) hH2.below
   first | exact (right_no1 (by omega)).symm | exact (right_no2 h0 ‹k < _› (by rw [latOk, nt ‹(!nameR _) = true›]; rfl)).symm | exact (right_no2 h0 ‹k < _› (by rw [latOk, nt ‹(!shR _) = true›, Bool.and_false])).symm | exact (right_no3 j0 ‹j < _› (by rw [varOk, nt ‹(!nameR _) = true›]; rfl)).symm | exact (right_no3 j0 ‹j < _› (by rw [varOk, decide_eq_false (by omega), Bool.and_false])).symm | (have hnm : m2 = namesS s := (by rw [hm2, hm, List.take_of_length_le (by omega), List.take_of_length_le (by omega)]; rfl); rw [hnm]; exact (right_yes hsz ‹¬ k < _› hg ‹¬ j < _› hv).symm)
  ·refine CW.skip ?_
   refine SR ?_
   refine V (aV (.slice none 0 0) rfl) ?_
   have hH8 := hH2.nilRow 9 1
   refine RL.nil ?_
   refine CW.seq ?_
   refine SR ?_
   refine V (fA underlying25 0 rfl sizeOf22 rfl) ?_
   refine V (run_ldV (hs.lats.sl.hp hH8) underlying22 rfl rfl (hH8.cell (i := 1) rfl rfl)) ?_
   refine V (run_lenSl (hs.lats.sl.hp hH8) rfl underlying22 rfl) ?_
   refine V (mV (I 0) rfl) ?_
   refine RL.nil ?_
   refine CW.block ?_
   have hsz : s.lats.length ≤ 16 ∧ s.vars.length ≤ 64 := by omega
   refine CW.loop (G := (Int) × (List Tx) × (Value)) (fun (⟨k, m, v3⟩ : (Int) × (List Tx) × (Value)) s' w' => (Fr [2, 3, 5, 21, 22, 23, 24, 25, 26, 27, 28, 29, 30, 31, 32, 33, 34, 35, 36, 37, 38, 39, 40] _ s') ∧ (Hp w w' (.row v3 9 1 (m.length) (txL m) :: _)) ∧ (s' 3 = v3) ∧ (s' 21 = I k) ∧ (0 ≤ k) ∧ (k ≤ s.lats.length) ∧ (m = (s.lats.take k.toNat).map LatR.name) ∧ ((m.length : Int) = k) ∧ (∀ j : Int, 0 ≤ j → j < k → latOk (s.lats.getD j.toNat lat0) = true)) (fun (⟨k, m, v3⟩ : (Int) × (List Tx) × (Value)) => (s.lats.length - k).toNat) ((0, [], (.slice none 0 0 : Value))) ⟨Fr.refl _ _, hH8, rfl, rfl, (by omega), (by omega), rfl, rfl, fun j a b => absurd b (by omega)⟩ ?_
   rintro ⟨k, m, v3⟩ sg9 w9 ⟨fr9, hH9, e3_9, e21_9, h0, hk, hm, hml, hg⟩
   have e1_9 : sg9 1 = Pn _ _ := (fr9 1 rfl).trans rfl
   have e19_9 := (fr9 19 rfl).trans (by conv => lhs; whnf)
   have e20_9 : sg9 20 = I _ := (fr9 20 rfl).trans rfl
   refine SR ?_
   refine V (run_lss e21_9 e20_9) ?_
   refine RL.nil ?_
   refine CW.seq ?_
   refine CW.condP rfl (fun h11 => ?_) (fun h11 => ?_)
   ·refine CW.skip ?_
    refine CW.seq ?_
    refine CW.block ?_
    refine SR ?_
    refine V (run_indexAddrS (hs.lats.sl.hp hH9) underlying22 sizeOf47 e19_9 e21_9 (by omega)) ?_
    refine V (run_ldE (dv := lat0) latL_len (hs.lats.sl.hp hH9) underlying47 rfl rfl rfl (by omega)) ?_
    refine RL.new rfl hH9 (f := fun b => (.pointer (some ⟨b, 0, none⟩))) (run_alloc Tryz.zeroValue47) ?_
    intro b14 w12 hH13
    refine RL.set hH13 (i := 0) rfl (run_stW (c' := (latL _).toArray) rfl rfl rfl (latL_one (hs.at (by omega) (by omega))) (hH13.blk (i := 0) rfl) rfl) ?_
    intro w15 hH16
    simp only [z0, z1] at hH16
    refine RL.nil ?_
    refine CW.seq ?_
    refine SR ?_
    refine V (fA underlying47 0 rfl sizeOf9 rfl) ?_
    refine V (run_ld underlying9 rfl rfl (hH16.cell (i := 0) rfl (v := .string _) rfl)) ?_
    refine RL.callP rfl hH16 (c_name_Right _  _) (run_call1 call33 rfl) ?_
    intro w17 hH18
    refine V (run_not rfl) ?_
    refine V (mV (B _) rfl) ?_
    refine RL.split (dj := 29) rfl (fun h21 => ?_) (fun h21 => ?_)
    ·refine RL.gF rfl rfl (bR (c := true) h21) rfl ?_
     refine RL.gF rfl rfl (bR (c := true) h21) rfl ?_
     refine RL.gF rfl rfl (bR (c := true) h21) rfl ?_
     refine RL.gF rfl rfl (bR (c := true) h21) rfl ?_
     refine V (run_pickT (bR (c := true) h21) (v := B true) rfl) ?_
     refine RL.nil ?_
     refine CW.condT rfl ?_
     refine SR ?_
     refine V (aV (B false) rfl) ?_
     refine RL.nil ?_
     refine CW.ret ?_
     refine outP1 Tryz.results13 (congrArg B ?_) hH18.below
     first | exact (right_no1 (by omega)).symm | exact (right_no2 h0 ‹k < _› (by rw [latOk, nt ‹(!nameR _) = true›]; rfl)).symm | exact (right_no2 h0 ‹k < _› (by rw [latOk, nt ‹(!shR _) = true›, Bool.and_false])).symm | exact (right_no3 j0 ‹j < _› (by rw [varOk, nt ‹(!nameR _) = true›]; rfl)).symm | exact (right_no3 j0 ‹j < _› (by rw [varOk, decide_eq_false (by omega), Bool.and_false])).symm | (have hnm : m2 = namesS s := (by rw [hm2, hm, List.take_of_length_le (by omega), List.take_of_length_le (by omega)]; rfl); rw [hnm]; exact (right_yes hsz ‹¬ k < _› hg ‹¬ j < _› hv).symm)
    ·refine RL.gT rfl (bR (c := false) h21) ?_
     refine V (fA underlying47 1 rfl sizeOf41 rfl) ?_
     refine RL.gT rfl (bR (c := false) h21) ?_
     refine V (run_ldSub (sub := shpL _) underlying41 rfl rfl rfl (hH18.blk (i := 0) rfl) rfl) ?_
     refine RL.gT rfl (bR (c := false) h21) ?_
     refine RL.callP rfl hH18 (c_shape_Right _  _ ((hs.at (by omega) (by omega)).mono hH18.kw) (hT.hp hH18)) (run_call1 call34 rfl) ?_
     intro w22 hH23
     refine RL.gT rfl (bR (c := false) h21) ?_
     refine V (run_not rfl) ?_
     refine V (run_pickF (bR (c := false) h21) (v := B _) rfl) ?_
     refine RL.nil ?_
     refine CW.cond rfl (fun h26 => ?_) (fun h26 => ?_)
     ·refine SR ?_
      refine V (aV (B false) rfl) ?_
      refine RL.nil ?_
      refine CW.ret ?_
      refine outP1 Tryz.results13 (congrArg B ?_) hH23.below
      first | exact (right_no1 (by omega)).symm | exact (right_no2 h0 ‹k < _› (by rw [latOk, nt ‹(!nameR _) = true›]; rfl)).symm | exact (right_no2 h0 ‹k < _› (by rw [latOk, nt ‹(!shR _) = true›, Bool.and_false])).symm | exact (right_no3 j0 ‹j < _› (by rw [varOk, nt ‹(!nameR _) = true›]; rfl)).symm | exact (right_no3 j0 ‹j < _› (by rw [varOk, decide_eq_false (by omega), Bool.and_false])).symm | (have hnm : m2 = namesS s := (by rw [hm2, hm, List.take_of_length_le (by omega), List.take_of_length_le (by omega)]; rfl); rw [hnm]; exact (right_yes hsz ‹¬ k < _› hg ‹¬ j < _› hv).symm)
     ·refine CW.skip ?_
      refine CW.region ?_
      refine V (run_move e3_9) ?_
      refine V (fA underlying47 0 rfl sizeOf9 rfl) ?_
      refine V (run_ld underlying9 rfl rfl (hH23.cell (i := 0) rfl (v := .string _) rfl)) ?_
      refine RL.new rfl hH23 (f := fun b => (.slice (some ⟨b, 0, none⟩) 1 1)) (run_mkL underlying58 rfl rfl (sz := 1) (vs := [.string _]) rfl rfl (by decide) (by decide) rfl rfl) ?_
      intro b29 w27 hH28
      (try simp only [List.flatMap_cons, List.flatMap_nil, clI, clB, clS, clP, clL, clA, List.append_nil, List.cons_append, List.nil_append] at hH28)
      refine RL.app rfl hH28 (i := 2) rfl (hH28.slBlk (i := 0) (n := 1) (sz := 1) rfl rfl (by decide)) rfl rfl underlying58 rfl rfl (size := 1) (bytes := 16) rfl rfl rfl (by decide) (by simp [Value.oneCell']) (by omega) (by simp only [maxLen]; omega) ?_
      intro v30 w31 hH32
      simp only [z0, z1] at hH32
      refine V (run_assign (by conv => lhs; whnf)) ?_
      refine RL.nil ?_
      refine CW.region ?_
      refine V (run_add e21_9 rfl (by omega)) ?_
      refine V (mV (I _) rfl) ?_
      refine RL.nil ?_
      refine ⟨(k + 1, m ++ [(s.lats.getD k.toNat lat0).name], v30), ?_, fr9.u4.u4.u4.u4.u4.u1.u1, (Hp.conv (hH32.sub (sQ (sQ sR))) (by first | rfl | simp)), rfl, (congrArg I (by first | rfl | omega)), ?_, ?_, ?_, ?_, ?_⟩
      ·((try dsimp only); omega)
      ·omega
      ·omega
      ·rw [lnames_next h0 ‹k < _›, ← hm]
      ·simp only [List.length_append, List.length_singleton]; omega
      ·exact fun j a b => if e : j = k then e ▸ (by rw [latOk, nf ‹(!nameR _) = false›, nf ‹(!shR _) = false›]; rfl) else hg j a (by omega)
   ·refine CW.exit (id := 0) rfl ?_
    refine CW.seq ?_
    refine SR ?_
    refine V (fA underlying25 1 rfl sizeOf23 e1_9) ?_
    refine V (run_ldV (hs.vars.sl.hp hH9) underlying23 rfl rfl (hH9.cell (i := 1) rfl rfl)) ?_
    refine V (run_lenSl (hs.vars.sl.hp hH9) rfl underlying23 rfl) ?_
    refine V (mV (I 0) rfl) ?_
    refine RL.nil ?_
    refine CW.block ?_
    refine CW.loop (G := (Int) × (List Tx) × (Value)) (fun (⟨j, m2, v3⟩ : (Int) × (List Tx) × (Value)) s' w' => (Fr [2, 3, 7, 44, 45, 46, 47, 48, 49, 50, 51, 52, 53, 54, 55, 56, 57, 58, 59, 60, 61, 62, 63, 64, 65, 66, 67, 68, 69, 70, 71, 72, 73, 74, 75, 76, 77, 78, 79, 80] _ s') ∧ (Hp w w' (.row v3 9 1 (m2.length) (txL m2) :: _)) ∧ (s' 3 = v3) ∧ (s' 44 = I j) ∧ (0 ≤ j) ∧ (j ≤ s.vars.length) ∧ (m2 = m ++ (s.vars.take j.toNat).map VarR.name) ∧ ((m2.length : Int) = k + j) ∧ (∀ i : Int, 0 ≤ i → i < j → varOk s.lats.length (s.vars.getD i.toNat var0) = true)) (fun (⟨j, m2, v3⟩ : (Int) × (List Tx) × (Value)) => (s.vars.length - j).toNat) ((0, m, (v3 : Value))) ⟨Fr.refl _ _, hH9, e3_9, rfl, (by omega), (by omega), (List.append_nil m).symm, (by omega), fun j a b => absurd b (by omega)⟩ ?_
    rintro ⟨j, m2, v3⟩ sg33 w33 ⟨fr33, hH33, e3_33, e44_33, j0, hj, hm2, hml2, hv⟩
    have e1_33 := (fr33 1 rfl).trans e1_9
    have e42_33 := (fr33 42 rfl).trans (by conv => lhs; whnf)
    have e43_33 : sg33 43 = I _ := (fr33 43 rfl).trans rfl
    refine SR ?_
    refine V (run_lss e44_33 e43_33) ?_
    refine RL.nil ?_
    refine CW.seq ?_
    refine CW.condP rfl (fun h35 => ?_) (fun h35 => ?_)
    ·refine CW.skip ?_
     refine CW.seq ?_
     refine CW.block ?_
     refine SR ?_
     refine V (run_indexAddrS (hs.vars.sl.hp hH33) underlying23 sizeOf50 e42_33 e44_33 (by omega)) ?_
     refine V (run_ldE (dv := var0) varL_len (hs.vars.sl.hp hH33) underlying50 rfl rfl rfl (by omega)) ?_
     refine RL.new rfl hH33 (f := fun b => (.pointer (some ⟨b, 0, none⟩))) (run_alloc Tryz.zeroValue50) ?_
     intro b38 w36 hH37
     refine RL.set hH37 (i := 0) rfl (run_stW (c' := (varL _).toArray) rfl rfl rfl (by simp [varL, Value.oneCell']) (hH37.blk (i := 0) rfl) rfl) ?_
     intro w39 hH40
     simp only [z0, z1] at hH40
     refine RL.nil ?_
     refine CW.seq ?_
     refine SR ?_
     refine V (fA underlying50 0 rfl sizeOf9 rfl) ?_
     refine V (run_ld underlying9 rfl rfl (hH40.cell (i := 0) rfl (v := .string _) rfl)) ?_
     refine RL.callP rfl hH40 (c_name_Right _  _) (run_call1 call33 rfl) ?_
     intro w41 hH42
     refine V (run_not rfl) ?_
     refine V (mV (B _) rfl) ?_
     refine RL.split (dj := 52) rfl (fun h45 => ?_) (fun h45 => ?_)
     ·refine RL.gF rfl rfl (bR (c := true) h45) rfl ?_
      refine RL.gF rfl rfl (bR (c := true) h45) rfl ?_
      refine RL.gF rfl rfl (bR (c := true) h45) rfl ?_
      refine RL.gF rfl rfl (bR (c := true) h45) rfl ?_
      refine RL.gU rfl rfl rfl ?_
      refine RL.gU rfl rfl rfl ?_
      refine RL.gU rfl rfl rfl ?_
      refine RL.gF rfl rfl (bR (c := true) h45) rfl ?_
      refine V (run_pickT (bR (c := true) h45) (v := B true) rfl) ?_
      refine V (mV (B _) rfl) ?_
      refine RL.gF rfl rfl rfl rfl ?_
      refine RL.gF rfl rfl rfl rfl ?_
      refine RL.gF rfl rfl rfl rfl ?_
      refine V (run_pickT rfl (v := B true) rfl) ?_
      refine V (mV (B _) rfl) ?_
      refine RL.gF rfl rfl rfl rfl ?_
      refine RL.gF rfl rfl rfl rfl ?_
      refine RL.gF rfl rfl rfl rfl ?_
      refine RL.gF rfl rfl rfl rfl ?_
      refine RL.gF rfl rfl rfl rfl ?_
      refine RL.gF rfl rfl rfl rfl ?_
      refine V (run_pickT rfl (v := B true) rfl) ?_
      refine RL.nil ?_
      refine CW.condT rfl ?_
      refine SR ?_
      refine V (aV (B false) rfl) ?_
      refine RL.nil ?_
      refine CW.ret ?_
      refine outP1 Tryz.results13 (congrArg B ?_) hH42.below
      first | exact (right_no1 (by omega)).symm | exact (right_no2 h0 ‹k < _› (by rw [latOk, nt ‹(!nameR _) = true›]; rfl)).symm | exact (right_no2 h0 ‹k < _› (by rw [latOk, nt ‹(!shR _) = true›, Bool.and_false])).symm | exact (right_no3 j0 ‹j < _› (by rw [varOk, nt ‹(!nameR _) = true›]; rfl)).symm | exact (right_no3 j0 ‹j < _› (by rw [varOk, decide_eq_false (by omega), Bool.and_false])).symm | (have hnm : m2 = namesS s := (by rw [hm2, hm, List.take_of_length_le (by omega), List.take_of_length_le (by omega)]; rfl); rw [hnm]; exact (right_yes hsz ‹¬ k < _› hg ‹¬ j < _› hv).symm)
     ·refine RL.gT rfl (bR (c := false) h45) ?_
      refine V (fA underlying50 1 rfl sizeOf3 rfl) ?_
      refine RL.gT rfl (bR (c := false) h45) ?_
      refine V (run_ld underlying3 rfl rfl (hH42.cell (i := 0) rfl (v := I _) rfl)) ?_
      refine RL.gT rfl (bR (c := false) h45) ?_
      refine V (run_neq rfl rfl) ?_
      refine RL.gT rfl (bR (c := false) h45) ?_
      refine V (mV (B _) rfl) ?_
      refine RL.splitP (dj := 56) rfl (fun h47 => ?_) (fun h47 => ?_)
      ·refine RL.gT rfl (bT h47) ?_
       refine V (fA underlying50 1 rfl sizeOf3 rfl) ?_
       refine RL.gT rfl (bT h47) ?_
       refine V (run_ld underlying3 rfl rfl (hH42.cell (i := 0) rfl (v := I _) rfl)) ?_
       refine RL.gT rfl (bT h47) ?_
       refine V (run_neq rfl rfl) ?_
       refine RL.gT rfl (bR (c := false) h45) ?_
       refine V (run_pickT (bT h47) (v := B _) rfl) ?_
       refine V (run_pickF (bR (c := false) h45) (v := B _) rfl) ?_
       refine V (mV (B _) rfl) ?_
       refine RL.splitP (dj := 62) rfl (fun h49 => ?_) (fun h49 => ?_)
       ·refine RL.gF rfl rfl (bT h49) rfl ?_
        refine RL.gF rfl rfl (bT h49) rfl ?_
        refine RL.gF rfl rfl (bT h49) rfl ?_
        refine V (run_pickT (bT h49) (v := B true) rfl) ?_
        refine V (mV (B _) rfl) ?_
        refine RL.gF rfl rfl rfl rfl ?_
        refine RL.gF rfl rfl rfl rfl ?_
        refine RL.gF rfl rfl rfl rfl ?_
        refine RL.gF rfl rfl rfl rfl ?_
        refine RL.gF rfl rfl rfl rfl ?_
        refine RL.gF rfl rfl rfl rfl ?_
        refine V (run_pickT rfl (v := B true) rfl) ?_
        refine RL.nil ?_
        refine CW.condT rfl ?_
        refine SR ?_
        refine V (aV (B false) rfl) ?_
        refine RL.nil ?_
        refine CW.ret ?_
        refine outP1 Tryz.results13 (congrArg B ?_) hH42.below
        first | exact (right_no1 (by omega)).symm | exact (right_no2 h0 ‹k < _› (by rw [latOk, nt ‹(!nameR _) = true›]; rfl)).symm | exact (right_no2 h0 ‹k < _› (by rw [latOk, nt ‹(!shR _) = true›, Bool.and_false])).symm | exact (right_no3 j0 ‹j < _› (by rw [varOk, nt ‹(!nameR _) = true›]; rfl)).symm | exact (right_no3 j0 ‹j < _› (by rw [varOk, decide_eq_false (by omega), Bool.and_false])).symm | (have hnm : m2 = namesS s := (by rw [hm2, hm, List.take_of_length_le (by omega), List.take_of_length_le (by omega)]; rfl); rw [hnm]; exact (right_yes hsz ‹¬ k < _› hg ‹¬ j < _› hv).symm)
       ·refine RL.gT rfl (bF h49) ?_
        refine V (fA underlying50 2 rfl sizeOf3 rfl) ?_
        refine RL.gT rfl (bF h49) ?_
        refine V (run_ld underlying3 rfl rfl (hH42.cell (i := 0) rfl (v := I _) rfl)) ?_
        refine RL.gT rfl (bF h49) ?_
        refine V (run_lss rfl rfl) ?_
        refine V (run_pickF (bF h49) (v := B _) rfl) ?_
        refine V (mV (B _) rfl) ?_
        refine RL.splitP (dj := 67) rfl (fun h51 => ?_) (fun h51 => ?_)
        ·refine RL.gF rfl rfl (bT h51) rfl ?_
         refine RL.gF rfl rfl (bT h51) rfl ?_
         refine RL.gF rfl rfl (bT h51) rfl ?_
         refine RL.gF rfl rfl (bT h51) rfl ?_
         refine RL.gF rfl rfl (bT h51) rfl ?_
         refine RL.gF rfl rfl (bT h51) rfl ?_
         refine V (run_pickT (bT h51) (v := B true) rfl) ?_
         refine RL.nil ?_
         refine CW.condT rfl ?_
         refine SR ?_
         refine V (aV (B false) rfl) ?_
         refine RL.nil ?_
         refine CW.ret ?_
         refine outP1 Tryz.results13 (congrArg B ?_) hH42.below
         first | exact (right_no1 (by omega)).symm | exact (right_no2 h0 ‹k < _› (by rw [latOk, nt ‹(!nameR _) = true›]; rfl)).symm | exact (right_no2 h0 ‹k < _› (by rw [latOk, nt ‹(!shR _) = true›, Bool.and_false])).symm | exact (right_no3 j0 ‹j < _› (by rw [varOk, nt ‹(!nameR _) = true›]; rfl)).symm | exact (right_no3 j0 ‹j < _› (by rw [varOk, decide_eq_false (by omega), Bool.and_false])).symm | (have hnm : m2 = namesS s := (by rw [hm2, hm, List.take_of_length_le (by omega), List.take_of_length_le (by omega)]; rfl); rw [hnm]; exact (right_yes hsz ‹¬ k < _› hg ‹¬ j < _› hv).symm)
        ·refine RL.gT rfl (bF h51) ?_
         refine V (fA underlying50 2 rfl sizeOf3 rfl) ?_
         refine RL.gT rfl (bF h51) ?_
         refine V (run_ld underlying3 rfl rfl (hH42.cell (i := 0) rfl (v := I _) rfl)) ?_
         refine RL.gT rfl (bF h51) ?_
         refine V (fA underlying25 0 rfl sizeOf22 e1_33) ?_
         refine RL.gT rfl (bF h51) ?_
         refine V (run_ldV (hs.lats.sl.hp hH42) underlying22 rfl rfl (hH42.cell (i := 2) rfl rfl)) ?_
         refine RL.gT rfl (bF h51) ?_
         refine V (run_lenSl (hs.lats.sl.hp hH42) rfl underlying22 rfl) ?_
         refine RL.gT rfl (bF h51) ?_
         refine V (run_geq rfl rfl) ?_
         refine V (run_pickF (bF h51) (v := B _) rfl) ?_
         refine RL.nil ?_
         refine CW.condP rfl (fun h53 => ?_) (fun h53 => ?_)
         ·refine SR ?_
          refine V (aV (B false) rfl) ?_
          refine RL.nil ?_
          refine CW.ret ?_
          refine outP1 Tryz.results13 (congrArg B ?_) hH42.below
          first | exact (right_no1 (by omega)).symm | exact (right_no2 h0 ‹k < _› (by rw [latOk, nt ‹(!nameR _) = true›]; rfl)).symm | exact (right_no2 h0 ‹k < _› (by rw [latOk, nt ‹(!shR _) = true›, Bool.and_false])).symm | exact (right_no3 j0 ‹j < _› (by rw [varOk, nt ‹(!nameR _) = true›]; rfl)).symm | exact (right_no3 j0 ‹j < _› (by rw [varOk, decide_eq_false (by omega), Bool.and_false])).symm | (have hnm : m2 = namesS s := (by rw [hm2, hm, List.take_of_length_le (by omega), List.take_of_length_le (by omega)]; rfl); rw [hnm]; exact (right_yes hsz ‹¬ k < _› hg ‹¬ j < _› hv).symm)
         ·refine CW.skip ?_
          refine CW.region ?_
          refine V (run_move e3_33) ?_
          refine V (fA underlying50 0 rfl sizeOf9 rfl) ?_
          refine V (run_ld underlying9 rfl rfl (hH42.cell (i := 0) rfl (v := .string _) rfl)) ?_
          refine RL.new rfl hH42 (f := fun b => (.slice (some ⟨b, 0, none⟩) 1 1)) (run_mkL underlying58 rfl rfl (sz := 1) (vs := [.string _]) rfl rfl (by decide) (by decide) rfl rfl) ?_
          intro b56 w54 hH55
          (try simp only [List.flatMap_cons, List.flatMap_nil, clI, clB, clS, clP, clL, clA, List.append_nil, List.cons_append, List.nil_append] at hH55)
          refine RL.app rfl hH55 (i := 2) rfl (hH55.slBlk (i := 0) (n := 1) (sz := 1) rfl rfl (by decide)) rfl rfl underlying58 rfl rfl (size := 1) (bytes := 16) rfl rfl rfl (by decide) (by simp [Value.oneCell']) (by omega) (by simp only [maxLen]; omega) ?_
          intro v57 w58 hH59
          simp only [z0, z1] at hH59
          refine V (run_assign (by conv => lhs; whnf)) ?_
          refine RL.nil ?_
          refine CW.region ?_
          refine V (run_add e44_33 rfl (by omega)) ?_
          refine V (mV (I _) rfl) ?_
          refine RL.nil ?_
          refine ⟨(j + 1, m2 ++ [(s.vars.getD j.toNat var0).name], v57), ?_, fr33.u4.u4.u4.u4.u4.u4.u4.u4.u4.u1.u1.u1, (Hp.conv (hH59.sub (sQ (sQ sR))) (by first | rfl | simp)), rfl, (congrArg I (by first | rfl | omega)), ?_, ?_, ?_, ?_, ?_⟩
          ·((try dsimp only); omega)
          ·omega
          ·omega
          ·rw [vnames_next j0 ‹j < _›, hm2, List.append_assoc]
          ·simp only [List.length_append, List.length_singleton]; omega
          ·exact fun i a b => if e : i = j then e ▸ (by rw [varOk, nf ‹(!nameR _) = false›, Bool.true_and, decide_eq_true_eq]; omega) else hv i a (by omega)
      ·refine RL.gF rfl rfl (bF h47) rfl ?_
       refine RL.gF rfl rfl (bF h47) rfl ?_
       refine RL.gF rfl rfl (bF h47) rfl ?_
       refine RL.gT rfl (bR (c := false) h45) ?_
       refine V (run_pickF (bF h47) (v := B false) rfl) ?_
       refine V (run_pickF (bR (c := false) h45) (v := B _) rfl) ?_
       refine V (mV (B _) rfl) ?_
       refine RL.gT rfl rfl ?_
       refine V (fA underlying50 2 rfl sizeOf3 rfl) ?_
       refine RL.gT rfl rfl ?_
       refine V (run_ld underlying3 rfl rfl (hH42.cell (i := 0) rfl (v := I _) rfl)) ?_
       refine RL.gT rfl rfl ?_
       refine V (run_lss rfl rfl) ?_
       refine V (run_pickF rfl (v := B _) rfl) ?_
       refine V (mV (B _) rfl) ?_
       refine RL.splitP (dj := 67) rfl (fun h61 => ?_) (fun h61 => ?_)
       ·refine RL.gF rfl rfl (bT h61) rfl ?_
        refine RL.gF rfl rfl (bT h61) rfl ?_
        refine RL.gF rfl rfl (bT h61) rfl ?_
        refine RL.gF rfl rfl (bT h61) rfl ?_
        refine RL.gF rfl rfl (bT h61) rfl ?_
        refine RL.gF rfl rfl (bT h61) rfl ?_
        refine V (run_pickT (bT h61) (v := B true) rfl) ?_
        refine RL.nil ?_
        refine CW.condT rfl ?_
        refine SR ?_
        refine V (aV (B false) rfl) ?_
        refine RL.nil ?_
        refine CW.ret ?_
        refine outP1 Tryz.results13 (congrArg B ?_) hH42.below
        first | exact (right_no1 (by omega)).symm | exact (right_no2 h0 ‹k < _› (by rw [latOk, nt ‹(!nameR _) = true›]; rfl)).symm | exact (right_no2 h0 ‹k < _› (by rw [latOk, nt ‹(!shR _) = true›, Bool.and_false])).symm | exact (right_no3 j0 ‹j < _› (by rw [varOk, nt ‹(!nameR _) = true›]; rfl)).symm | exact (right_no3 j0 ‹j < _› (by rw [varOk, decide_eq_false (by omega), Bool.and_false])).symm | (have hnm : m2 = namesS s := (by rw [hm2, hm, List.take_of_length_le (by omega), List.take_of_length_le (by omega)]; rfl); rw [hnm]; exact (right_yes hsz ‹¬ k < _› hg ‹¬ j < _› hv).symm)
       ·refine RL.gT rfl (bF h61) ?_
        refine V (fA underlying50 2 rfl sizeOf3 rfl) ?_
        refine RL.gT rfl (bF h61) ?_
        refine V (run_ld underlying3 rfl rfl (hH42.cell (i := 0) rfl (v := I _) rfl)) ?_
        refine RL.gT rfl (bF h61) ?_
        refine V (fA underlying25 0 rfl sizeOf22 e1_33) ?_
        refine RL.gT rfl (bF h61) ?_
        refine V (run_ldV (hs.lats.sl.hp hH42) underlying22 rfl rfl (hH42.cell (i := 2) rfl rfl)) ?_
        refine RL.gT rfl (bF h61) ?_
        refine V (run_lenSl (hs.lats.sl.hp hH42) rfl underlying22 rfl) ?_
        refine RL.gT rfl (bF h61) ?_
        refine V (run_geq rfl rfl) ?_
        refine V (run_pickF (bF h61) (v := B _) rfl) ?_
        refine RL.nil ?_
        refine CW.condP rfl (fun h63 => ?_) (fun h63 => ?_)
        ·refine SR ?_
         refine V (aV (B false) rfl) ?_
         refine RL.nil ?_
         refine CW.ret ?_
         refine outP1 Tryz.results13 (congrArg B ?_) hH42.below
         first | exact (right_no1 (by omega)).symm | exact (right_no2 h0 ‹k < _› (by rw [latOk, nt ‹(!nameR _) = true›]; rfl)).symm | exact (right_no2 h0 ‹k < _› (by rw [latOk, nt ‹(!shR _) = true›, Bool.and_false])).symm | exact (right_no3 j0 ‹j < _› (by rw [varOk, nt ‹(!nameR _) = true›]; rfl)).symm | exact (right_no3 j0 ‹j < _› (by rw [varOk, decide_eq_false (by omega), Bool.and_false])).symm | (have hnm : m2 = namesS s := (by rw [hm2, hm, List.take_of_length_le (by omega), List.take_of_length_le (by omega)]; rfl); rw [hnm]; exact (right_yes hsz ‹¬ k < _› hg ‹¬ j < _› hv).symm)
        ·refine CW.skip ?_
         refine CW.region ?_
         refine V (run_move e3_33) ?_
         refine V (fA underlying50 0 rfl sizeOf9 rfl) ?_
         refine V (run_ld underlying9 rfl rfl (hH42.cell (i := 0) rfl (v := .string _) rfl)) ?_
         refine RL.new rfl hH42 (f := fun b => (.slice (some ⟨b, 0, none⟩) 1 1)) (run_mkL underlying58 rfl rfl (sz := 1) (vs := [.string _]) rfl rfl (by decide) (by decide) rfl rfl) ?_
         intro b66 w64 hH65
         (try simp only [List.flatMap_cons, List.flatMap_nil, clI, clB, clS, clP, clL, clA, List.append_nil, List.cons_append, List.nil_append] at hH65)
         refine RL.app rfl hH65 (i := 2) rfl (hH65.slBlk (i := 0) (n := 1) (sz := 1) rfl rfl (by decide)) rfl rfl underlying58 rfl rfl (size := 1) (bytes := 16) rfl rfl rfl (by decide) (by simp [Value.oneCell']) (by omega) (by simp only [maxLen]; omega) ?_
         intro v67 w68 hH69
         simp only [z0, z1] at hH69
         refine V (run_assign (by conv => lhs; whnf)) ?_
         refine RL.nil ?_
         refine CW.region ?_
         refine V (run_add e44_33 rfl (by omega)) ?_
         refine V (mV (I _) rfl) ?_
         refine RL.nil ?_
         refine ⟨(j + 1, m2 ++ [(s.vars.getD j.toNat var0).name], v67), ?_, fr33.u4.u4.u4.u4.u4.u4.u4.u4.u4.u1.u1.u1, (Hp.conv (hH69.sub (sQ (sQ sR))) (by first | rfl | simp)), rfl, (congrArg I (by first | rfl | omega)), ?_, ?_, ?_, ?_, ?_⟩
         ·((try dsimp only); omega)
         ·omega
         ·omega
         ·rw [vnames_next j0 ‹j < _›, hm2, List.append_assoc]
         ·simp only [List.length_append, List.length_singleton]; omega
         ·exact fun i a b => if e : i = j then e ▸ (by rw [varOk, nf ‹(!nameR _) = false›, Bool.true_and, decide_eq_true_eq]; omega) else hv i a (by omega)
    ·refine CW.exit (id := 2) rfl ?_
     refine SR ?_
     refine V (run_move e3_33) ?_
     refine RL.callP rfl hH33 (c_name_Twice _ _  _ (hH33.sl (i := 0) rfl)) (run_call1 call35 rfl) ?_
     intro w70 hH71
     refine V (run_lss rfl rfl) ?_
     refine V (aV (B _) rfl) ?_
     refine RL.nil ?_
     refine CW.ret ?_
     refine outP1 Tryz.results13 (congrArg B ?_) hH71.below
     first | exact (right_no1 (by omega)).symm | exact (right_no2 h0 ‹k < _› (by rw [latOk, nt ‹(!nameR _) = true›]; rfl)).symm | exact (right_no2 h0 ‹k < _› (by rw [latOk, nt ‹(!shR _) = true›, Bool.and_false])).symm | exact (right_no3 j0 ‹j < _› (by rw [varOk, nt ‹(!nameR _) = true›]; rfl)).symm | exact (right_no3 j0 ‹j < _› (by rw [varOk, decide_eq_false (by omega), Bool.and_false])).symm | (have hnm : m2 = namesS s := (by rw [hm2, hm, List.take_of_length_le (by omega), List.take_of_length_le (by omega)]; rfl); rw [hnm]; exact (right_yes hsz ‹¬ k < _› hg ‹¬ j < _› hv).symm)

theorem c_clearanceref13_Right (s : Scp) (w : World) (hs : ScpV (Kw w) s) : Calls Tryz.prog 14 #[.agg (scpC s)] w (Pure (B (rightS s)) w) := by
 have hm1 := hs.lats.sl.small
 have hm2 := hs.vars.sl.small
 unfold maxLen at hm1 hm2
 refine enter Tryz.func14 rfl Tryz.ntmps14 rfl ?_
 have hH := Hp.start w
 refine SR ?_
 refine RL.new rfl hH (f := fun b => (.pointer (some ⟨b, 0, none⟩))) (run_box (v := .agg _) rfl) ?_
 intro b3 w1 hH2
 refine V (aV (B false) rfl) ?_
 refine RL.nil ?_
 refine SR ?_
 refine V (aV (.slice none 0 0) rfl) ?_
 have hH4 := hH2.nilRow 9 1
 refine RL.nil ?_
 refine CW.seq ?_
 refine SR ?_
 refine V (fA underlying25 0 rfl sizeOf22 rfl) ?_
 refine V (run_ldV (hs.lats.sl.hp hH4) underlying22 rfl rfl (hH4.cell (i := 1) rfl rfl)) ?_
 refine V (run_lenSl (hs.lats.sl.hp hH4) rfl underlying22 rfl) ?_
 refine V (run_gtr rfl rfl) ?_
 refine V (mV (B _) rfl) ?_
 refine RL.splitP (dj := 12) rfl (fun h6 => ?_) (fun h6 => ?_)
 ·refine RL.gF rfl rfl (bT h6) rfl ?_
  refine RL.gF rfl rfl (bT h6) rfl ?_
  refine RL.gF rfl rfl (bT h6) rfl ?_
  refine RL.gF rfl rfl (bT h6) rfl ?_
  refine V (run_pickT (bT h6) (v := B true) rfl) ?_
  refine RL.nil ?_
  refine CW.condT rfl ?_
  refine SR ?_
  refine V (aV (B false) rfl) ?_
  refine RL.nil ?_
  refine CW.ret ?_
  refine outP1 Tryz.results14 (congrArg B ?_) hH4.below
  first | exact (right_no1 (by omega)).symm | exact (right_no2 h0 ‹k < _› (by rw [latOk, nt ‹(!shR _) = true›, Bool.and_false])).symm | exact (right_name i0 (by rw [hnm] at *; omega) (by rw [← hnm]; exact nt ‹(!nameR _) = true›)).symm | exact (right_no3 j0 ‹j < _› (by rw [varOk, decide_eq_false (by omega), Bool.and_false])).symm | (rw [hnm] at *; exact (right_all hk hj hsz ‹¬ k < _› hg ‹¬ j < _› hv ‹¬ i < _› hn).symm)
 ·refine RL.gT rfl (bF h6) ?_
  refine V (fA underlying25 1 rfl sizeOf23 rfl) ?_
  refine RL.gT rfl (bF h6) ?_
  refine V (run_ldV (hs.vars.sl.hp hH4) underlying23 rfl rfl (hH4.cell (i := 1) rfl rfl)) ?_
  refine RL.gT rfl (bF h6) ?_
  refine V (run_lenSl (hs.vars.sl.hp hH4) rfl underlying23 rfl) ?_
  refine RL.gT rfl (bF h6) ?_
  refine V (run_gtr rfl rfl) ?_
  refine V (run_pickF (bF h6) (v := B _) rfl) ?_
  refine RL.nil ?_
  refine CW.condP rfl (fun h8 => ?_) (fun h8 => ?_)
  ·refine SR ?_
   refine V (aV (B false) rfl) ?_
   refine RL.nil ?_
   refine CW.ret ?_
   refine outP1 Tryz.results14 (congrArg B ?_) hH4.below
   first | exact (right_no1 (by omega)).symm | exact (right_no2 h0 ‹k < _› (by rw [latOk, nt ‹(!shR _) = true›, Bool.and_false])).symm | exact (right_name i0 (by rw [hnm] at *; omega) (by rw [← hnm]; exact nt ‹(!nameR _) = true›)).symm | exact (right_no3 j0 ‹j < _› (by rw [varOk, decide_eq_false (by omega), Bool.and_false])).symm | (rw [hnm] at *; exact (right_all hk hj hsz ‹¬ k < _› hg ‹¬ j < _› hv ‹¬ i < _› hn).symm)
  ·refine CW.skip ?_
   refine CW.seq ?_
   refine SR ?_
   refine V (aV (I 0) rfl) ?_
   refine RL.nil ?_
   refine CW.block ?_
   have hsz : s.lats.length ≤ 16 ∧ s.vars.length ≤ 64 := by omega
   have hnl : (namesS s).length = s.lats.length + s.vars.length := by simp [namesS]
   refine CW.loop (G := (Int) × (List Tx) × (Value)) (fun (⟨k, m, v3⟩ : (Int) × (List Tx) × (Value)) s' w' => (Fr [2, 3, 4, 18, 19, 20, 21, 22, 23, 24, 25, 26, 27, 28, 29, 30, 31, 32, 33, 34, 35, 36, 37, 38, 39, 40, 41] _ s') ∧ (Hp w w' (.row v3 9 1 (m.length) (txL m) :: _)) ∧ (s' 3 = v3) ∧ (s' 4 = I k) ∧ (0 ≤ k) ∧ (k ≤ s.lats.length) ∧ (m = (s.lats.take k.toNat).map LatR.name) ∧ ((m.length : Int) = k) ∧ (∀ j : Int, 0 ≤ j → j < k → shR (s.lats.getD j.toNat lat0).shp.sh = true)) (fun (⟨k, m, v3⟩ : (Int) × (List Tx) × (Value)) => (s.lats.length - k).toNat) ((0, [], (.slice none 0 0 : Value))) ⟨Fr.refl _ _, hH4, rfl, rfl, (by omega), (by omega), rfl, rfl, fun j a b => absurd b (by omega)⟩ ?_
   rintro ⟨k, m, v3⟩ sg9 w9 ⟨fr9, hH9, e3_9, e4_9, h0, hk, hm, hml, hg⟩
   have e1_9 : sg9 1 = Pn _ _ := (fr9 1 rfl).trans rfl
   refine CW.seq ?_
   refine SR ?_
   refine V (run_move e4_9) ?_
   refine V (fA underlying25 0 rfl sizeOf22 e1_9) ?_
   refine V (run_ldV (hs.lats.sl.hp hH9) underlying22 rfl rfl (hH9.cell (i := 1) rfl rfl)) ?_
   refine V (run_lenSl (hs.lats.sl.hp hH9) rfl underlying22 rfl) ?_
   refine V (run_lss rfl rfl) ?_
   refine RL.nil ?_
   refine CW.condP rfl (fun h11 => ?_) (fun h11 => ?_)
   ·refine CW.skip ?_
    refine CW.seq ?_
    refine CW.block ?_
    refine CW.seq ?_
    refine SR ?_
    refine V (fA underlying25 0 rfl sizeOf22 e1_9) ?_
    refine V (run_ldV (hs.lats.sl.hp hH9) underlying22 rfl rfl (hH9.cell (i := 1) rfl rfl)) ?_
    refine V (run_move e4_9) ?_
    refine V (run_indexAddrS (hs.lats.sl.hp hH9) underlying22 sizeOf47 rfl rfl (by first | omega | (have hnm2 := hnm; rw [hnm2] at *; omega))) ?_
    refine V (fA underlying47 1 rfl sizeOf41 rfl) ?_
    refine V (run_ldEA (dv := lat0) (off := 1) (cs := shpL _) latL_len (hs.lats.sl.hp hH9) underlying41 rfl rfl rfl (by first | omega | (have hnm2 := hnm; rw [hnm2] at *; omega)) (lat_shp _)) ?_
    refine RL.callP rfl hH9 (c_clearanceref07_Right _  _ ((hs.at (by first | omega | (have hnm2 := hnm; rw [hnm2] at *; omega)) (by first | omega | (have hnm2 := hnm; rw [hnm2] at *; omega))).mono hH9.kw)) (run_call1 call36 rfl) ?_
    intro w12 hH13
    refine V (run_not rfl) ?_
    refine RL.nil ?_
    refine CW.cond rfl (fun h16 => ?_) (fun h16 => ?_)
    ·refine SR ?_
     refine V (aV (B false) rfl) ?_
     refine RL.nil ?_
     refine CW.ret ?_
     refine outP1 Tryz.results14 (congrArg B ?_) hH13.below
     first | exact (right_no1 (by omega)).symm | exact (right_no2 h0 ‹k < _› (by rw [latOk, nt ‹(!shR _) = true›, Bool.and_false])).symm | exact (right_name i0 (by rw [hnm] at *; omega) (by rw [← hnm]; exact nt ‹(!nameR _) = true›)).symm | exact (right_no3 j0 ‹j < _› (by rw [varOk, decide_eq_false (by omega), Bool.and_false])).symm | (rw [hnm] at *; exact (right_all hk hj hsz ‹¬ k < _› hg ‹¬ j < _› hv ‹¬ i < _› hn).symm)
    ·refine CW.skip ?_
     refine CW.region ?_
     refine V (run_move e3_9) ?_
     refine V (fA underlying25 0 rfl sizeOf22 e1_9) ?_
     refine V (run_ldV (hs.lats.sl.hp hH13) underlying22 rfl rfl (hH13.cell (i := 1) rfl rfl)) ?_
     refine V (run_move e4_9) ?_
     refine V (run_indexAddrS (hs.lats.sl.hp hH13) underlying22 sizeOf47 rfl rfl (by first | omega | (have hnm2 := hnm; rw [hnm2] at *; omega))) ?_
     refine V (fA underlying47 0 rfl sizeOf9 rfl) ?_
     refine V (run_ldE1 (dv := lat0) (off := 0) latL_len (hs.lats.sl.hp hH13) underlying9 rfl rfl (by first | omega | (have hnm2 := hnm; rw [hnm2] at *; omega)) rfl) ?_
     refine RL.new rfl hH13 (f := fun b => (.slice (some ⟨b, 0, none⟩) 1 1)) (run_mkL underlying58 rfl rfl (sz := 1) (vs := [.string _]) rfl rfl (by decide) (by decide) rfl rfl) ?_
     intro b19 w17 hH18
     (try simp only [List.flatMap_cons, List.flatMap_nil, clI, clB, clS, clP, clL, clA, List.append_nil, List.cons_append, List.nil_append] at hH18)
     refine RL.app rfl hH18 (i := 1) rfl (hH18.slBlk (i := 0) (n := 1) (sz := 1) rfl rfl (by decide)) rfl rfl underlying58 rfl rfl (size := 1) (bytes := 16) rfl rfl rfl (by decide) (by simp [Value.oneCell']) (by omega) (by simp only [maxLen]; omega) ?_
     intro v20 w21 hH22
     simp only [z0, z1] at hH22
     refine V (run_assign (by conv => lhs; whnf)) ?_
     refine RL.nil ?_
     refine CW.region ?_
     refine V (run_move e4_9) ?_
     refine V (run_add rfl rfl (by omega)) ?_
     refine V (aV (I _) rfl) ?_
     refine RL.nil ?_
     refine ⟨(k + 1, m ++ [(s.lats.getD k.toNat lat0).name], v20), ?_, fr9.u4.u4.u4.u4.u4.u4.u1.u1, (Hp.conv (hH22.sub (sQ sR)) (by first | rfl | simp)), rfl, (congrArg I (by first | rfl | omega)), ?_, ?_, ?_, ?_, ?_⟩
     ·((try dsimp only); omega)
     ·omega
     ·omega
     ·rw [lnames_next h0 ‹k < _›, ← hm]
     ·simp only [List.length_append, List.length_singleton]; omega
     ·exact fun j a b => if e : j = k then e ▸ nf ‹(!shR _) = false› else hg j a (by omega)
   ·refine CW.exit (id := 0) rfl ?_
    refine CW.seq ?_
    refine SR ?_
    refine V (aV (I 0) rfl) ?_
    refine RL.nil ?_
    refine CW.block ?_
    refine CW.loop (G := (Int) × (List Tx) × (Value)) (fun (⟨j, m2, v3⟩ : (Int) × (List Tx) × (Value)) s' w' => (Fr [2, 3, 5, 6, 42, 43, 44, 45, 46, 47, 48, 49, 50, 51, 52, 53, 54, 55, 56, 57, 58, 59, 60, 61, 62, 63, 64, 65, 66, 67, 68, 69, 70, 71, 72, 73, 74, 75, 76, 77, 78, 79] _ s') ∧ (Hp w w' (.row v3 9 1 (m2.length) (txL m2) :: _)) ∧ (s' 3 = v3) ∧ (s' 5 = I j) ∧ (0 ≤ j) ∧ (j ≤ s.vars.length) ∧ (m2 = m ++ (s.vars.take j.toNat).map VarR.name) ∧ ((m2.length : Int) = k + j) ∧ (∀ i : Int, 0 ≤ i → i < j → ((s.vars.getD i.toNat var0).kind = 1 ∨ (s.vars.getD i.toNat var0).kind = 2) ∧ 0 ≤ (s.vars.getD i.toNat var0).lat ∧ (s.vars.getD i.toNat var0).lat < s.lats.length)) (fun (⟨j, m2, v3⟩ : (Int) × (List Tx) × (Value)) => (s.vars.length - j).toNat) ((0, m, (v3 : Value))) ⟨Fr.refl _ _, hH9, e3_9, rfl, (by omega), (by omega), (List.append_nil m).symm, (by omega), fun j a b => absurd b (by omega)⟩ ?_
    rintro ⟨j, m2, v3⟩ sg23 w23 ⟨fr23, hH23, e3_23, e5_23, j0, hj, hm2, hml2, hv⟩
    have e1_23 := (fr23 1 rfl).trans e1_9
    refine CW.seq ?_
    refine SR ?_
    refine V (run_move e5_23) ?_
    refine V (fA underlying25 1 rfl sizeOf23 e1_23) ?_
    refine V (run_ldV (hs.vars.sl.hp hH23) underlying23 rfl rfl (hH23.cell (i := 1) rfl rfl)) ?_
    refine V (run_lenSl (hs.vars.sl.hp hH23) rfl underlying23 rfl) ?_
    refine V (run_lss rfl rfl) ?_
    refine RL.nil ?_
    refine CW.condP rfl (fun h25 => ?_) (fun h25 => ?_)
    ·refine CW.skip ?_
     refine CW.seq ?_
     refine CW.block ?_
     refine SR ?_
     refine V (fA underlying25 1 rfl sizeOf23 e1_23) ?_
     refine V (run_ldV (hs.vars.sl.hp hH23) underlying23 rfl rfl (hH23.cell (i := 1) rfl rfl)) ?_
     refine V (run_move e5_23) ?_
     refine V (run_indexAddrS (hs.vars.sl.hp hH23) underlying23 sizeOf50 rfl rfl (by first | omega | (have hnm2 := hnm; rw [hnm2] at *; omega))) ?_
     refine V (run_ldE (dv := var0) varL_len (hs.vars.sl.hp hH23) underlying50 rfl rfl rfl (by first | omega | (have hnm2 := hnm; rw [hnm2] at *; omega))) ?_
     refine RL.new rfl hH23 (f := fun b => (.pointer (some ⟨b, 0, none⟩))) (run_alloc Tryz.zeroValue50) ?_
     intro b28 w26 hH27
     refine RL.set hH27 (i := 0) rfl (run_stW (c' := (varL _).toArray) rfl rfl rfl (by simp [varL, Value.oneCell']) (hH27.blk (i := 0) rfl) rfl) ?_
     intro w29 hH30
     simp only [z0, z1] at hH30
     refine RL.nil ?_
     refine CW.seq ?_
     refine SR ?_
     refine V (fA underlying50 1 rfl sizeOf3 rfl) ?_
     refine V (run_ld underlying3 rfl rfl (hH30.cell (i := 0) rfl (v := I _) rfl)) ?_
     refine V (run_neq rfl rfl) ?_
     refine V (mV (B _) rfl) ?_
     refine RL.splitP (dj := 57) rfl (fun h32 => ?_) (fun h32 => ?_)
     ·refine RL.gT rfl (bT h32) ?_
      refine V (fA underlying50 1 rfl sizeOf3 rfl) ?_
      refine RL.gT rfl (bT h32) ?_
      refine V (run_ld underlying3 rfl rfl (hH30.cell (i := 0) rfl (v := I _) rfl)) ?_
      refine RL.gT rfl (bT h32) ?_
      refine V (run_neq rfl rfl) ?_
      refine V (run_pickT (bT h32) (v := B _) rfl) ?_
      refine V (mV (B _) rfl) ?_
      refine RL.splitP (dj := 62) rfl (fun h34 => ?_) (fun h34 => ?_)
      ·refine RL.gF rfl rfl (bT h34) rfl ?_
       refine RL.gF rfl rfl (bT h34) rfl ?_
       refine RL.gF rfl rfl (bT h34) rfl ?_
       refine V (run_pickT (bT h34) (v := B true) rfl) ?_
       refine V (mV (B _) rfl) ?_
       refine RL.gF rfl rfl rfl rfl ?_
       refine RL.gF rfl rfl rfl rfl ?_
       refine RL.gF rfl rfl rfl rfl ?_
       refine RL.gF rfl rfl rfl rfl ?_
       refine RL.gF rfl rfl rfl rfl ?_
       refine RL.gF rfl rfl rfl rfl ?_
       refine V (run_pickT rfl (v := B true) rfl) ?_
       refine RL.nil ?_
       refine CW.condT rfl ?_
       refine SR ?_
       refine V (aV (B false) rfl) ?_
       refine RL.nil ?_
       refine CW.ret ?_
       refine outP1 Tryz.results14 (congrArg B ?_) hH30.below
       first | exact (right_no1 (by omega)).symm | exact (right_no2 h0 ‹k < _› (by rw [latOk, nt ‹(!shR _) = true›, Bool.and_false])).symm | exact (right_name i0 (by rw [hnm] at *; omega) (by rw [← hnm]; exact nt ‹(!nameR _) = true›)).symm | exact (right_no3 j0 ‹j < _› (by rw [varOk, decide_eq_false (by omega), Bool.and_false])).symm | (rw [hnm] at *; exact (right_all hk hj hsz ‹¬ k < _› hg ‹¬ j < _› hv ‹¬ i < _› hn).symm)
      ·refine RL.gT rfl (bF h34) ?_
       refine V (fA underlying50 2 rfl sizeOf3 rfl) ?_
       refine RL.gT rfl (bF h34) ?_
       refine V (run_ld underlying3 rfl rfl (hH30.cell (i := 0) rfl (v := I _) rfl)) ?_
       refine RL.gT rfl (bF h34) ?_
       refine V (run_lss rfl rfl) ?_
       refine V (run_pickF (bF h34) (v := B _) rfl) ?_
       refine V (mV (B _) rfl) ?_
       refine RL.splitP (dj := 67) rfl (fun h36 => ?_) (fun h36 => ?_)
       ·refine RL.gF rfl rfl (bT h36) rfl ?_
        refine RL.gF rfl rfl (bT h36) rfl ?_
        refine RL.gF rfl rfl (bT h36) rfl ?_
        refine RL.gF rfl rfl (bT h36) rfl ?_
        refine RL.gF rfl rfl (bT h36) rfl ?_
        refine RL.gF rfl rfl (bT h36) rfl ?_
        refine V (run_pickT (bT h36) (v := B true) rfl) ?_
        refine RL.nil ?_
        refine CW.condT rfl ?_
        refine SR ?_
        refine V (aV (B false) rfl) ?_
        refine RL.nil ?_
        refine CW.ret ?_
        refine outP1 Tryz.results14 (congrArg B ?_) hH30.below
        first | exact (right_no1 (by omega)).symm | exact (right_no2 h0 ‹k < _› (by rw [latOk, nt ‹(!shR _) = true›, Bool.and_false])).symm | exact (right_name i0 (by rw [hnm] at *; omega) (by rw [← hnm]; exact nt ‹(!nameR _) = true›)).symm | exact (right_no3 j0 ‹j < _› (by rw [varOk, decide_eq_false (by omega), Bool.and_false])).symm | (rw [hnm] at *; exact (right_all hk hj hsz ‹¬ k < _› hg ‹¬ j < _› hv ‹¬ i < _› hn).symm)
       ·refine RL.gT rfl (bF h36) ?_
        refine V (fA underlying50 2 rfl sizeOf3 rfl) ?_
        refine RL.gT rfl (bF h36) ?_
        refine V (run_ld underlying3 rfl rfl (hH30.cell (i := 0) rfl (v := I _) rfl)) ?_
        refine RL.gT rfl (bF h36) ?_
        refine V (fA underlying25 0 rfl sizeOf22 e1_23) ?_
        refine RL.gT rfl (bF h36) ?_
        refine V (run_ldV (hs.lats.sl.hp hH30) underlying22 rfl rfl (hH30.cell (i := 2) rfl rfl)) ?_
        refine RL.gT rfl (bF h36) ?_
        refine V (run_lenSl (hs.lats.sl.hp hH30) rfl underlying22 rfl) ?_
        refine RL.gT rfl (bF h36) ?_
        refine V (run_geq rfl rfl) ?_
        refine V (run_pickF (bF h36) (v := B _) rfl) ?_
        refine RL.nil ?_
        refine CW.condP rfl (fun h38 => ?_) (fun h38 => ?_)
        ·refine SR ?_
         refine V (aV (B false) rfl) ?_
         refine RL.nil ?_
         refine CW.ret ?_
         refine outP1 Tryz.results14 (congrArg B ?_) hH30.below
         first | exact (right_no1 (by omega)).symm | exact (right_no2 h0 ‹k < _› (by rw [latOk, nt ‹(!shR _) = true›, Bool.and_false])).symm | exact (right_name i0 (by rw [hnm] at *; omega) (by rw [← hnm]; exact nt ‹(!nameR _) = true›)).symm | exact (right_no3 j0 ‹j < _› (by rw [varOk, decide_eq_false (by omega), Bool.and_false])).symm | (rw [hnm] at *; exact (right_all hk hj hsz ‹¬ k < _› hg ‹¬ j < _› hv ‹¬ i < _› hn).symm)
        ·refine CW.skip ?_
         refine CW.region ?_
         refine V (run_move e3_23) ?_
         refine V (fA underlying50 0 rfl sizeOf9 rfl) ?_
         refine V (run_ld underlying9 rfl rfl (hH30.cell (i := 0) rfl (v := .string _) rfl)) ?_
         refine RL.new rfl hH30 (f := fun b => (.slice (some ⟨b, 0, none⟩) 1 1)) (run_mkL underlying58 rfl rfl (sz := 1) (vs := [.string _]) rfl rfl (by decide) (by decide) rfl rfl) ?_
         intro b41 w39 hH40
         (try simp only [List.flatMap_cons, List.flatMap_nil, clI, clB, clS, clP, clL, clA, List.append_nil, List.cons_append, List.nil_append] at hH40)
         refine RL.app rfl hH40 (i := 2) rfl (hH40.slBlk (i := 0) (n := 1) (sz := 1) rfl rfl (by decide)) rfl rfl underlying58 rfl rfl (size := 1) (bytes := 16) rfl rfl rfl (by decide) (by simp [Value.oneCell']) (by omega) (by simp only [maxLen]; omega) ?_
         intro v42 w43 hH44
         simp only [z0, z1] at hH44
         refine V (run_assign (by conv => lhs; whnf)) ?_
         refine RL.nil ?_
         refine CW.region ?_
         refine V (run_move e5_23) ?_
         refine V (run_add rfl rfl (by omega)) ?_
         refine V (aV (I _) rfl) ?_
         refine RL.nil ?_
         refine ⟨(j + 1, m2 ++ [(s.vars.getD j.toNat var0).name], v42), ?_, fr23.u4.u4.u4.u4.u4.u4.u4.u4.u4.u4.u1, (Hp.conv (hH44.sub (sQ (sQ sR))) (by first | rfl | simp)), rfl, (congrArg I (by first | rfl | omega)), ?_, ?_, ?_, ?_, ?_⟩
         ·((try dsimp only); omega)
         ·omega
         ·omega
         ·rw [vnames_next j0 ‹j < _›, hm2, List.append_assoc]
         ·simp only [List.length_append, List.length_singleton]; omega
         ·exact fun i a b => if e : i = j then e ▸ (by omega) else hv i a (by omega)
     ·refine RL.gF rfl rfl (bF h32) rfl ?_
      refine RL.gF rfl rfl (bF h32) rfl ?_
      refine RL.gF rfl rfl (bF h32) rfl ?_
      refine V (run_pickF (bF h32) (v := B false) rfl) ?_
      refine V (mV (B _) rfl) ?_
      refine RL.gT rfl rfl ?_
      refine V (fA underlying50 2 rfl sizeOf3 rfl) ?_
      refine RL.gT rfl rfl ?_
      refine V (run_ld underlying3 rfl rfl (hH30.cell (i := 0) rfl (v := I _) rfl)) ?_
      refine RL.gT rfl rfl ?_
      refine V (run_lss rfl rfl) ?_
      refine V (run_pickF rfl (v := B _) rfl) ?_
      refine V (mV (B _) rfl) ?_
      refine RL.splitP (dj := 67) rfl (fun h46 => ?_) (fun h46 => ?_)
      ·refine RL.gF rfl rfl (bT h46) rfl ?_
       refine RL.gF rfl rfl (bT h46) rfl ?_
       refine RL.gF rfl rfl (bT h46) rfl ?_
       refine RL.gF rfl rfl (bT h46) rfl ?_
       refine RL.gF rfl rfl (bT h46) rfl ?_
       refine RL.gF rfl rfl (bT h46) rfl ?_
       refine V (run_pickT (bT h46) (v := B true) rfl) ?_
       refine RL.nil ?_
       refine CW.condT rfl ?_
       refine SR ?_
       refine V (aV (B false) rfl) ?_
       refine RL.nil ?_
       refine CW.ret ?_
       refine outP1 Tryz.results14 (congrArg B ?_) hH30.below
       first | exact (right_no1 (by omega)).symm | exact (right_no2 h0 ‹k < _› (by rw [latOk, nt ‹(!shR _) = true›, Bool.and_false])).symm | exact (right_name i0 (by rw [hnm] at *; omega) (by rw [← hnm]; exact nt ‹(!nameR _) = true›)).symm | exact (right_no3 j0 ‹j < _› (by rw [varOk, decide_eq_false (by omega), Bool.and_false])).symm | (rw [hnm] at *; exact (right_all hk hj hsz ‹¬ k < _› hg ‹¬ j < _› hv ‹¬ i < _› hn).symm)
      ·refine RL.gT rfl (bF h46) ?_
       refine V (fA underlying50 2 rfl sizeOf3 rfl) ?_
       refine RL.gT rfl (bF h46) ?_
       refine V (run_ld underlying3 rfl rfl (hH30.cell (i := 0) rfl (v := I _) rfl)) ?_
       refine RL.gT rfl (bF h46) ?_
       refine V (fA underlying25 0 rfl sizeOf22 e1_23) ?_
       refine RL.gT rfl (bF h46) ?_
       refine V (run_ldV (hs.lats.sl.hp hH30) underlying22 rfl rfl (hH30.cell (i := 2) rfl rfl)) ?_
       refine RL.gT rfl (bF h46) ?_
       refine V (run_lenSl (hs.lats.sl.hp hH30) rfl underlying22 rfl) ?_
       refine RL.gT rfl (bF h46) ?_
       refine V (run_geq rfl rfl) ?_
       refine V (run_pickF (bF h46) (v := B _) rfl) ?_
       refine RL.nil ?_
       refine CW.condP rfl (fun h48 => ?_) (fun h48 => ?_)
       ·refine SR ?_
        refine V (aV (B false) rfl) ?_
        refine RL.nil ?_
        refine CW.ret ?_
        refine outP1 Tryz.results14 (congrArg B ?_) hH30.below
        first | exact (right_no1 (by omega)).symm | exact (right_no2 h0 ‹k < _› (by rw [latOk, nt ‹(!shR _) = true›, Bool.and_false])).symm | exact (right_name i0 (by rw [hnm] at *; omega) (by rw [← hnm]; exact nt ‹(!nameR _) = true›)).symm | exact (right_no3 j0 ‹j < _› (by rw [varOk, decide_eq_false (by omega), Bool.and_false])).symm | (rw [hnm] at *; exact (right_all hk hj hsz ‹¬ k < _› hg ‹¬ j < _› hv ‹¬ i < _› hn).symm)
       ·refine CW.skip ?_
        refine CW.region ?_
        refine V (run_move e3_23) ?_
        refine V (fA underlying50 0 rfl sizeOf9 rfl) ?_
        refine V (run_ld underlying9 rfl rfl (hH30.cell (i := 0) rfl (v := .string _) rfl)) ?_
        refine RL.new rfl hH30 (f := fun b => (.slice (some ⟨b, 0, none⟩) 1 1)) (run_mkL underlying58 rfl rfl (sz := 1) (vs := [.string _]) rfl rfl (by decide) (by decide) rfl rfl) ?_
        intro b51 w49 hH50
        (try simp only [List.flatMap_cons, List.flatMap_nil, clI, clB, clS, clP, clL, clA, List.append_nil, List.cons_append, List.nil_append] at hH50)
        refine RL.app rfl hH50 (i := 2) rfl (hH50.slBlk (i := 0) (n := 1) (sz := 1) rfl rfl (by decide)) rfl rfl underlying58 rfl rfl (size := 1) (bytes := 16) rfl rfl rfl (by decide) (by simp [Value.oneCell']) (by omega) (by simp only [maxLen]; omega) ?_
        intro v52 w53 hH54
        simp only [z0, z1] at hH54
        refine V (run_assign (by conv => lhs; whnf)) ?_
        refine RL.nil ?_
        refine CW.region ?_
        refine V (run_move e5_23) ?_
        refine V (run_add rfl rfl (by omega)) ?_
        refine V (aV (I _) rfl) ?_
        refine RL.nil ?_
        refine ⟨(j + 1, m2 ++ [(s.vars.getD j.toNat var0).name], v52), ?_, fr23.u4.u4.u4.u4.u4.u4.u4.u4.u4.u4.u1, (Hp.conv (hH54.sub (sQ (sQ sR))) (by first | rfl | simp)), rfl, (congrArg I (by first | rfl | omega)), ?_, ?_, ?_, ?_, ?_⟩
        ·((try dsimp only); omega)
        ·omega
        ·omega
        ·rw [vnames_next j0 ‹j < _›, hm2, List.append_assoc]
        ·simp only [List.length_append, List.length_singleton]; omega
        ·exact fun i a b => if e : i = j then e ▸ (by omega) else hv i a (by omega)
    ·refine CW.exit (id := 2) rfl ?_
     refine CW.seq ?_
     refine SR ?_
     refine V (aV (I 0) rfl) ?_
     refine RL.nil ?_
     refine CW.block ?_
     have hnm : m2 = namesS s := by rw [hm2, hm, List.take_of_length_le (by omega), List.take_of_length_le (by omega)]; rfl
     refine CW.loop (G := (Int)) (fun (i : Int) s' w' => (Fr [2, 7, 80, 81, 82, 83, 84, 85, 86, 87, 88, 89, 90, 91] _ s') ∧ (Hp w w' _) ∧ (s' 7 = I i) ∧ (0 ≤ i) ∧ (i ≤ m2.length) ∧ (∀ x : Int, 0 ≤ x → x < i → nameR (m2.getD x.toNat tx0) = true)) (fun (i : Int) => (m2.length - i).toNat) (0) ⟨Fr.refl _ _, hH23, rfl, (by omega), (by omega), fun j a b => absurd b (by omega)⟩ ?_
     rintro i sg55 w55 ⟨fr55, hH55, e7_55, i0, i1, hn⟩
     have e3_55 := (fr55 3 rfl).trans e3_23
     refine CW.seq ?_
     refine SR ?_
     refine V (run_move e7_55) ?_
     refine V (run_move e3_55) ?_
     refine V (run_lenSl (hH55.sl (i := 0) rfl) rfl underlying58 rfl) ?_
     refine V (run_lss rfl rfl) ?_
     refine RL.nil ?_
     refine CW.condP rfl (fun h57 => ?_) (fun h57 => ?_)
     ·refine CW.skip ?_
      refine CW.seq ?_
      refine CW.block ?_
      refine SR ?_
      refine V (run_move e3_55) ?_
      refine V (run_move e7_55) ?_
      refine V (run_indexAddrS (hH55.sl (i := 0) rfl) underlying58 sizeOf9 rfl rfl (by first | omega | (have hnm2 := hnm; rw [hnm2] at *; omega))) ?_
      refine V (run_ld underlying9 rfl rfl ((hH55.sl (i := 0) rfl).cell _ _ (txL_at (by first | omega | (have hnm2 := hnm; rw [hnm2] at *; omega))))) ?_
      refine RL.callP rfl hH55 (c_clearanceref02_Right _  _) (run_call1 call37 rfl) ?_
      intro w58 hH59
      refine V (run_not rfl) ?_
      refine RL.nil ?_
      refine CW.cond rfl (fun h62 => ?_) (fun h62 => ?_)
      ·refine SR ?_
       refine V (aV (B false) rfl) ?_
       refine RL.nil ?_
       refine CW.ret ?_
       refine outP1 Tryz.results14 (congrArg B ?_) hH59.below
       first | exact (right_no1 (by omega)).symm | exact (right_no2 h0 ‹k < _› (by rw [latOk, nt ‹(!shR _) = true›, Bool.and_false])).symm | exact (right_name i0 (by rw [hnm] at *; omega) (by rw [← hnm]; exact nt ‹(!nameR _) = true›)).symm | exact (right_no3 j0 ‹j < _› (by rw [varOk, decide_eq_false (by omega), Bool.and_false])).symm | (rw [hnm] at *; exact (right_all hk hj hsz ‹¬ k < _› hg ‹¬ j < _› hv ‹¬ i < _› hn).symm)
      ·refine CW.skip ?_
       refine CW.region ?_
       refine V (run_move e7_55) ?_
       refine V (run_add rfl rfl (by omega)) ?_
       refine V (aV (I _) rfl) ?_
       refine RL.nil ?_
       refine ⟨i + 1, ?_, fr55.u4.u4.u4.u1, hH59, (congrArg I (by first | rfl | omega)), ?_, ?_, ?_⟩
       ·((try dsimp only); omega)
       ·omega
       ·omega
       ·exact fun x a b => if e : x = i then e ▸ nf ‹(!nameR _) = false› else hn x a (by omega)
     ·refine CW.exit (id := 4) rfl ?_
      refine SR ?_
      refine V (run_move e3_55) ?_
      refine RL.callP rfl hH55 (c_clearanceref02_Twice _ _  _ (hH55.sl (i := 0) rfl)) (run_call1 call38 rfl) ?_
      intro w63 hH64
      refine V (run_lss rfl rfl) ?_
      refine V (aV (B _) rfl) ?_
      refine RL.nil ?_
      refine CW.ret ?_
      refine outP1 Tryz.results14 (congrArg B ?_) hH64.below
      first | exact (right_no1 (by omega)).symm | exact (right_no2 h0 ‹k < _› (by rw [latOk, nt ‹(!shR _) = true›, Bool.and_false])).symm | exact (right_name i0 (by rw [hnm] at *; omega) (by rw [← hnm]; exact nt ‹(!nameR _) = true›)).symm | exact (right_no3 j0 ‹j < _› (by rw [varOk, decide_eq_false (by omega), Bool.and_false])).symm | (rw [hnm] at *; exact (right_all hk hj hsz ‹¬ k < _› hg ‹¬ j < _› hv ‹¬ i < _› hn).symm)

theorem c_clearanceref13_Same (a b : Scp) (w : World) (ha : ScpV (Kw w) a) (hb : ScpV (Kw w) b) : Calls Tryz.prog 10 #[.agg (scpC a), .agg (scpC b)] w (Pure (B (sameS2 a b)) w) := by
 have hm1 := ha.lats.small
 have hm2 := ha.vars.small
 unfold maxLen at hm1 hm2
 refine enter Tryz.func10 rfl Tryz.ntmps10 rfl ?_
 have hH := Hp.start w
 refine SR ?_
 refine RL.new rfl hH (f := fun b => (.pointer (some ⟨b, 0, none⟩))) (run_box (v := .agg _) rfl) ?_
 intro b3 w1 hH2
 refine RL.new rfl hH2 (f := fun b => (.pointer (some ⟨b, 0, none⟩))) (run_box (v := .agg _) rfl) ?_
 intro b6 w4 hH5
 refine V (aV (B false) rfl) ?_
 refine RL.nil ?_
 refine CW.seq ?_
 refine SR ?_
 refine V (fA underlying25 0 rfl sizeOf22 rfl) ?_
 refine V (run_ldV (ha.lats.sl.hp hH5) underlying22 rfl rfl (hH5.cell (i := 1) rfl rfl)) ?_
 refine V (run_lenSl (ha.lats.sl.hp hH5) rfl underlying22 rfl) ?_
 refine V (fA underlying25 0 rfl sizeOf22 rfl) ?_
 refine V (run_ldV (hb.lats.sl.hp hH5) underlying22 rfl rfl (hH5.cell (i := 0) rfl rfl)) ?_
 refine V (run_lenSl (hb.lats.sl.hp hH5) rfl underlying22 rfl) ?_
 refine V (run_neq rfl rfl) ?_
 refine V (mV (B _) rfl) ?_
 refine RL.splitP (dj := 14) rfl (fun h8 => ?_) (fun h8 => ?_)
 ·refine RL.gF rfl rfl (bT h8) rfl ?_
  refine RL.gF rfl rfl (bT h8) rfl ?_
  refine RL.gF rfl rfl (bT h8) rfl ?_
  refine RL.gF rfl rfl (bT h8) rfl ?_
  refine RL.gF rfl rfl (bT h8) rfl ?_
  refine RL.gF rfl rfl (bT h8) rfl ?_
  refine RL.gF rfl rfl (bT h8) rfl ?_
  refine V (run_pickT (bT h8) (v := B true) rfl) ?_
  refine RL.nil ?_
  refine CW.condT rfl ?_
  refine SR ?_
  refine V (aV (B false) rfl) ?_
  refine RL.nil ?_
  refine CW.ret ?_
  refine outP1 Tryz.results10 (congrArg B ?_) hH5.below
  first | exact (same_no1 (by omega)).symm | exact (same_no2 h0 ‹k < _› (.inl ‹_›)).symm | exact (same_no2 h0 ‹k < _› (.inr (nt ‹_›))).symm | exact (same_no3 (k := j) (ndT ‹(!decide (a.vars.getD j.toNat var0 = _)) = true›)).symm | exact (same_yes hsz ‹¬ k < _› hg ‹¬ j < _› hv).symm
 ·refine RL.gT rfl (bF h8) ?_
  refine V (fA underlying25 1 rfl sizeOf23 rfl) ?_
  refine RL.gT rfl (bF h8) ?_
  refine V (run_ldV (ha.vars.sl.hp hH5) underlying23 rfl rfl (hH5.cell (i := 1) rfl rfl)) ?_
  refine RL.gT rfl (bF h8) ?_
  refine V (run_lenSl (ha.vars.sl.hp hH5) rfl underlying23 rfl) ?_
  refine RL.gT rfl (bF h8) ?_
  refine V (fA underlying25 1 rfl sizeOf23 rfl) ?_
  refine RL.gT rfl (bF h8) ?_
  refine V (run_ldV (hb.vars.sl.hp hH5) underlying23 rfl rfl (hH5.cell (i := 0) rfl rfl)) ?_
  refine RL.gT rfl (bF h8) ?_
  refine V (run_lenSl (hb.vars.sl.hp hH5) rfl underlying23 rfl) ?_
  refine RL.gT rfl (bF h8) ?_
  refine V (run_neq rfl rfl) ?_
  refine V (run_pickF (bF h8) (v := B _) rfl) ?_
  refine RL.nil ?_
  refine CW.condP rfl (fun h10 => ?_) (fun h10 => ?_)
  ·refine SR ?_
   refine V (aV (B false) rfl) ?_
   refine RL.nil ?_
   refine CW.ret ?_
   refine outP1 Tryz.results10 (congrArg B ?_) hH5.below
   first | exact (same_no1 (by omega)).symm | exact (same_no2 h0 ‹k < _› (.inl ‹_›)).symm | exact (same_no2 h0 ‹k < _› (.inr (nt ‹_›))).symm | exact (same_no3 (k := j) (ndT ‹(!decide (a.vars.getD j.toNat var0 = _)) = true›)).symm | exact (same_yes hsz ‹¬ k < _› hg ‹¬ j < _› hv).symm
  ·refine CW.skip ?_
   refine CW.seq ?_
   refine SR ?_
   refine V (aV (I 0) rfl) ?_
   refine RL.nil ?_
   refine CW.block ?_
   have hsz : a.lats.length = b.lats.length ∧ a.vars.length = b.vars.length := by omega
   refine CW.loop (G := (Int)) (fun (k : Int) s' w' => (Fr [4, 5, 23, 24, 25, 26, 27, 28, 29, 30, 31, 32, 33, 34, 35, 36, 37, 38, 39, 40, 41, 42, 43, 44, 45, 46, 47, 48, 49, 50, 51, 52, 53, 54, 55, 56, 57, 58] _ s') ∧ (Hp w w' _) ∧ (s' 5 = I k) ∧ (0 ≤ k) ∧ (k ≤ a.lats.length) ∧ (∀ j : Int, 0 ≤ j → j < k → (a.lats.getD j.toNat lat0).name = (b.lats.getD j.toNat lat0).name ∧ sameS (a.lats.getD j.toNat lat0).shp.sh (b.lats.getD j.toNat lat0).shp.sh = true)) (fun (k : Int) => (a.lats.length - k).toNat) (0) ⟨Fr.refl _ _, hH5, rfl, (by omega), (by omega), fun j a b => absurd b (by omega)⟩ ?_
   rintro k sg11 w11 ⟨fr11, hH11, e5_11, h0, hk, hg⟩
   have e2_11 : sg11 2 = Pn _ _ := (fr11 2 rfl).trans rfl
   have e3_11 : sg11 3 = Pn _ _ := (fr11 3 rfl).trans rfl
   refine CW.seq ?_
   refine SR ?_
   refine V (run_move e5_11) ?_
   refine V (fA underlying25 0 rfl sizeOf22 e2_11) ?_
   refine V (run_ldV (ha.lats.sl.hp hH11) underlying22 rfl rfl (hH11.cell (i := 1) rfl rfl)) ?_
   refine V (run_lenSl (ha.lats.sl.hp hH11) rfl underlying22 rfl) ?_
   refine V (run_lss rfl rfl) ?_
   refine RL.nil ?_
   refine CW.condP rfl (fun h13 => ?_) (fun h13 => ?_)
   ·refine CW.skip ?_
    refine CW.seq ?_
    refine CW.block ?_
    refine CW.seq ?_
    refine CW.regionD (by kernel_rfl) hH11 ?_
    intro w14 hH15
    refine AT 0 rfl (hH15.sub sR) (fun w hS => fA underlying25 0 rfl sizeOf22 e2_11) ?_
    refine AT 1 rfl (hH15.sub sR) (fun w hS => run_ldV (ha.lats.sl.hp hS) underlying22 rfl rfl (hS.cell (i := 1) rfl rfl)) ?_
    refine AT 2 rfl (hH15.sub sR) (fun w hS => run_move e5_11) ?_
    refine AT 3 rfl (hH15.sub sR) (fun w hS => run_indexAddrS (ha.lats.sl.hp hS) underlying22 sizeOf47 rfl rfl (by omega)) ?_
    refine AT 4 rfl (hH15.sub sR) (fun w hS => fA underlying47 0 rfl sizeOf9 rfl) ?_
    refine AT 5 rfl (hH15.sub sR) (fun w hS => run_ldE1 (dv := lat0) (off := 0) latL_len (ha.lats.sl.hp hS) underlying9 rfl rfl (by omega) rfl) ?_
    refine AT 6 rfl (hH15.sub sR) (fun w hS => fA underlying25 0 rfl sizeOf22 e3_11) ?_
    refine AT 7 rfl (hH15.sub sR) (fun w hS => run_ldV (hb.lats.sl.hp hS) underlying22 rfl rfl (hS.cell (i := 0) rfl rfl)) ?_
    refine AT 8 rfl (hH15.sub sR) (fun w hS => run_move e5_11) ?_
    refine AT 9 rfl (hH15.sub sR) (fun w hS => run_indexAddrS (hb.lats.sl.hp hS) underlying22 sizeOf47 rfl rfl (by omega)) ?_
    refine AT 10 rfl (hH15.sub sR) (fun w hS => fA underlying47 0 rfl sizeOf9 rfl) ?_
    refine AT 11 rfl (hH15.sub sR) (fun w hS => run_ldE1 (dv := lat0) (off := 0) latL_len (hb.lats.sl.hp hS) underlying9 rfl rfl (by omega) rfl) ?_
    refine AT 12 rfl (hH15.sub sR) (fun w hS => run_neqS rfl rfl) ?_
    refine AT 13 rfl (hH15.sub sR) (fun w hS => mV (B _) rfl) ?_
    refine AN.splitP (dj := 43) rfl (fun h17 => ?_) (fun h17 => ?_)
    ·refine AK 14 rfl rfl (bT h17) (hH15.sub sR) ?_
     refine AK 15 rfl rfl (bT h17) (hH15.sub sR) ?_
     refine AK 16 rfl rfl (bT h17) (hH15.sub sR) ?_
     refine AK 17 rfl rfl (bT h17) (hH15.sub sR) ?_
     refine AK 18 rfl rfl (bT h17) (hH15.sub sR) ?_
     refine AK 19 rfl rfl (bT h17) (hH15.sub sR) ?_
     refine AK 20 rfl rfl (bT h17) (hH15.sub sR) ?_
     refine AK 21 rfl rfl (bT h17) (hH15.sub sR) ?_
     refine AK 22 rfl rfl (bT h17) (hH15.sub sR) ?_
     refine AK 23 rfl rfl (bT h17) (hH15.sub sR) ?_
     refine AK 24 rfl rfl (bT h17) (hH15.sub sR) ?_
     refine AK 25 rfl rfl (bT h17) (hH15.sub sR) ?_
     refine AK 26 rfl rfl (bT h17) (hH15.sub sR) ?_
     refine AK 27 rfl rfl (bT h17) (hH15.sub sR) ?_
     refine AT 28 rfl (hH15.sub sR) (fun w hS => run_pickT (bT h17) (v := B true) rfl) ?_
     refine AD ?_
     refine CW.condT rfl ?_
     refine SR ?_
     refine V (aV (B false) rfl) ?_
     refine RL.nil ?_
     refine CW.ret ?_
     refine outP1 Tryz.results10 (congrArg B ?_) hH15.below
     first | exact (same_no1 (by omega)).symm | exact (same_no2 h0 ‹k < _› (.inl ‹_›)).symm | exact (same_no2 h0 ‹k < _› (.inr (nt ‹_›))).symm | exact (same_no3 (k := j) (ndT ‹(!decide (a.vars.getD j.toNat var0 = _)) = true›)).symm | exact (same_yes hsz ‹¬ k < _› hg ‹¬ j < _› hv).symm
    ·refine AG 14 rfl rfl (bF h17) (hH15.sub sR) (fun w hS => fA underlying25 0 rfl sizeOf22 e2_11) ?_
     refine AG 15 rfl rfl (bF h17) (hH15.sub sR) (fun w hS => run_ldV (ha.lats.sl.hp hS) underlying22 rfl rfl (hS.cell (i := 1) rfl rfl)) ?_
     refine AG 16 rfl rfl (bF h17) (hH15.sub sR) (fun w hS => run_move e5_11) ?_
     refine AG 17 rfl rfl (bF h17) (hH15.sub sR) (fun w hS => run_indexAddrS (ha.lats.sl.hp hS) underlying22 sizeOf47 rfl rfl (by omega)) ?_
     refine AG 18 rfl rfl (bF h17) (hH15.sub sR) (fun w hS => fA underlying47 1 rfl sizeOf41 rfl) ?_
     refine AG 19 rfl rfl (bF h17) (hH15.sub sR) (fun w hS => run_ldEA (dv := lat0) (off := 1) (cs := shpL _) latL_len (ha.lats.sl.hp hS) underlying41 rfl rfl rfl (by omega) (lat_shp _)) ?_
     refine AG 20 rfl rfl (bF h17) (hH15.sub sR) (fun w hS => fA underlying25 0 rfl sizeOf22 e3_11) ?_
     refine AG 21 rfl rfl (bF h17) (hH15.sub sR) (fun w hS => run_ldV (hb.lats.sl.hp hS) underlying22 rfl rfl (hS.cell (i := 0) rfl rfl)) ?_
     refine AG 22 rfl rfl (bF h17) (hH15.sub sR) (fun w hS => run_move e5_11) ?_
     refine AG 23 rfl rfl (bF h17) (hH15.sub sR) (fun w hS => run_indexAddrS (hb.lats.sl.hp hS) underlying22 sizeOf47 rfl rfl (by omega)) ?_
     refine AG 24 rfl rfl (bF h17) (hH15.sub sR) (fun w hS => fA underlying47 1 rfl sizeOf41 rfl) ?_
     refine AG 25 rfl rfl (bF h17) (hH15.sub sR) (fun w hS => run_ldEA (dv := lat0) (off := 1) (cs := shpL _) latL_len (hb.lats.sl.hp hS) underlying41 rfl rfl rfl (by omega) (lat_shp _)) ?_
     refine A1 26 ?_
     refine AO.callP rfl (gsome rfl (bF h17)) rfl hH15 sR (c_clearanceref07_Same _ _  _ ((ha.at (by omega) (by omega)).mono hH15.kw) ((hb.at (by omega) (by omega)).mono hH15.kw)) (run_call2 call7 rfl rfl) ?_
     intro w18 hH19
     refine AG 27 rfl rfl (bF h17) (hH19.sub sR) (fun w hS => run_not rfl) ?_
     refine AT 28 rfl (hH19.sub sR) (fun w hS => run_pickF (bF h17) (v := B _) rfl) ?_
     refine AD ?_
     refine CW.cond rfl (fun h22 => ?_) (fun h22 => ?_)
     ·refine SR ?_
      refine V (aV (B false) rfl) ?_
      refine RL.nil ?_
      refine CW.ret ?_
      refine outP1 Tryz.results10 (congrArg B ?_) hH19.below
      first | exact (same_no1 (by omega)).symm | exact (same_no2 h0 ‹k < _› (.inl ‹_›)).symm | exact (same_no2 h0 ‹k < _› (.inr (nt ‹_›))).symm | exact (same_no3 (k := j) (ndT ‹(!decide (a.vars.getD j.toNat var0 = _)) = true›)).symm | exact (same_yes hsz ‹¬ k < _› hg ‹¬ j < _› hv).symm
     ·refine CW.skip ?_
      refine CW.region ?_
      refine V (run_move e5_11) ?_
      refine V (run_add rfl rfl (by omega)) ?_
      refine V (aV (I _) rfl) ?_
      refine RL.nil ?_
      refine ⟨k + 1, ?_, fr11.u4.u4.u4.u4.u4.u4.u4.u4.u4.u1, hH19, (congrArg I (by first | rfl | omega)), ?_, ?_, ?_⟩
      ·((try dsimp only); omega)
      ·omega
      ·omega
      ·exact fun j x y => if e : j = k then e ▸ ⟨Decidable.of_not_not ‹_›, nf ‹_›⟩ else hg j x (by omega)
   ·refine CW.exit (id := 0) rfl ?_
    refine CW.seq ?_
    refine SR ?_
    refine V (aV (I 0) rfl) ?_
    refine RL.nil ?_
    refine CW.block ?_
    refine CW.loop (G := (Int)) (fun (j : Int) s' w' => (Fr [4, 6, 59, 60, 61, 62, 63, 64, 65, 66, 67, 68, 69, 70, 71, 72, 73, 74, 75, 76] _ s') ∧ (Hp w w' _) ∧ (s' 6 = I j) ∧ (0 ≤ j) ∧ (j ≤ a.vars.length) ∧ (∀ i : Int, 0 ≤ i → i < j → a.vars.getD i.toNat var0 = b.vars.getD i.toNat var0)) (fun (j : Int) => (a.vars.length - j).toNat) (0) ⟨Fr.refl _ _, hH11, rfl, (by omega), (by omega), fun j a b => absurd b (by omega)⟩ ?_
    rintro j sg23 w23 ⟨fr23, hH23, e6_23, j0, hj, hv⟩
    have e2_23 := (fr23 2 rfl).trans e2_11
    have e3_23 := (fr23 3 rfl).trans e3_11
    refine CW.seq ?_
    refine SR ?_
    refine V (run_move e6_23) ?_
    refine V (fA underlying25 1 rfl sizeOf23 e2_23) ?_
    refine V (run_ldV (ha.vars.sl.hp hH23) underlying23 rfl rfl (hH23.cell (i := 1) rfl rfl)) ?_
    refine V (run_lenSl (ha.vars.sl.hp hH23) rfl underlying23 rfl) ?_
    refine V (run_lss rfl rfl) ?_
    refine RL.nil ?_
    refine CW.condP rfl (fun h25 => ?_) (fun h25 => ?_)
    ·refine CW.skip ?_
     refine CW.seq ?_
     refine CW.block ?_
     refine CW.seq ?_
     refine CW.regionD (by kernel_rfl) hH23 ?_
     intro w26 hH27
     refine AT 0 rfl (hH27.sub sR) (fun w hS => fA underlying25 1 rfl sizeOf23 e2_23) ?_
     refine AT 1 rfl (hH27.sub sR) (fun w hS => run_ldV (ha.vars.sl.hp hS) underlying23 rfl rfl (hS.cell (i := 1) rfl rfl)) ?_
     refine AT 2 rfl (hH27.sub sR) (fun w hS => run_move e6_23) ?_
     refine AT 3 rfl (hH27.sub sR) (fun w hS => run_indexAddrS (ha.vars.sl.hp hS) underlying23 sizeOf50 rfl rfl (by omega)) ?_
     refine AT 4 rfl (hH27.sub sR) (fun w hS => run_ldE (dv := var0) varL_len (ha.vars.sl.hp hS) underlying50 rfl rfl rfl (by omega)) ?_
     refine AT 5 rfl (hH27.sub sR) (fun w hS => fA underlying25 1 rfl sizeOf23 e3_23) ?_
     refine AT 6 rfl (hH27.sub sR) (fun w hS => run_ldV (hb.vars.sl.hp hS) underlying23 rfl rfl (hS.cell (i := 0) rfl rfl)) ?_
     refine AT 7 rfl (hH27.sub sR) (fun w hS => run_move e6_23) ?_
     refine AT 8 rfl (hH27.sub sR) (fun w hS => run_indexAddrS (hb.vars.sl.hp hS) underlying23 sizeOf50 rfl rfl (by omega)) ?_
     refine AT 9 rfl (hH27.sub sR) (fun w hS => run_ldE (dv := var0) varL_len (hb.vars.sl.hp hS) underlying50 rfl rfl rfl (by omega)) ?_
     refine AT 10 rfl (hH27.sub sR) (fun w hS => run_neqT (eq_var _ _) rfl rfl) ?_
     refine AD ?_
     refine CW.cond rfl (fun h29 => ?_) (fun h29 => ?_)
     ·refine SR ?_
      refine V (aV (B false) rfl) ?_
      refine RL.nil ?_
      refine CW.ret ?_
      refine outP1 Tryz.results10 (congrArg B ?_) hH27.below
      first | exact (same_no1 (by omega)).symm | exact (same_no2 h0 ‹k < _› (.inl ‹_›)).symm | exact (same_no2 h0 ‹k < _› (.inr (nt ‹_›))).symm | exact (same_no3 (k := j) (ndT ‹(!decide (a.vars.getD j.toNat var0 = _)) = true›)).symm | exact (same_yes hsz ‹¬ k < _› hg ‹¬ j < _› hv).symm
     ·refine CW.skip ?_
      refine CW.region ?_
      refine V (run_move e6_23) ?_
      refine V (run_add rfl rfl (by omega)) ?_
      refine V (aV (I _) rfl) ?_
      refine RL.nil ?_
      refine ⟨j + 1, ?_, fr23.u4.u4.u4.u4.u1.u1.u1, hH27, (congrArg I (by first | rfl | omega)), ?_, ?_, ?_⟩
      ·((try dsimp only); omega)
      ·omega
      ·omega
      ·exact fun i x y => if e : i = j then e ▸ ndF ‹(!decide (a.vars.getD j.toNat var0 = _)) = false› else hv i x (by omega)
    ·refine CW.exit (id := 2) rfl ?_
     refine SR ?_
     refine V (aV (B true) rfl) ?_
     refine RL.nil ?_
     refine CW.ret ?_
     refine outP1 Tryz.results10 (congrArg B ?_) hH23.below
     first | exact (same_no1 (by omega)).symm | exact (same_no2 h0 ‹k < _› (.inl ‹_›)).symm | exact (same_no2 h0 ‹k < _› (.inr (nt ‹_›))).symm | exact (same_no3 (k := j) (ndT ‹(!decide (a.vars.getD j.toNat var0 = _)) = true›)).symm | exact (same_yes hsz ‹¬ k < _› hg ‹¬ j < _› hv).symm

theorem c_clearancelaw13_words (v : Value) (l : List Tx) (hl : l.length ≤ 1000) (w : World) (hs : Sl w v 1 l.length (txL l)) : Calls Tryz.prog 17 #[v] w (PureRow 27 2 (wordsTo l l.length).length ((wordsTo l l.length).flatMap wdL) w) := by
 refine enter Tryz.func17 rfl Tryz.ntmps17 rfl ?_
 have hH := Hp.start w
 refine SR ?_
 refine V (aV (.slice none 0 0) rfl) ?_
 refine RL.nil ?_
 refine SR ?_
 refine V (aV (.slice none 0 0) rfl) ?_
 have hH1 := hH.nilRow 27 2
 refine RL.nil ?_
 refine CW.seq ?_
 refine SR ?_
 refine V (run_move (by conv => lhs; whnf)) ?_
 refine V (run_lenSl (hs.hp hH1) rfl underlying58 rfl) ?_
 refine V (mV (I 0) rfl) ?_
 refine RL.nil ?_
 refine CW.block ?_
 refine CW.loop (G := (Int) × (List Wd) × (Value)) (fun (⟨k, m, v3⟩ : (Int) × (List Wd) × (Value)) s' w' => (Fr [3, 4, 5, 8, 9, 10, 11, 12, 13, 14, 15, 16, 17, 18, 19, 20] _ s') ∧ (Hp w w' (.row v3 27 2 (m.length) (m.flatMap wdL) :: _)) ∧ (s' 3 = v3) ∧ (s' 8 = I k) ∧ (0 ≤ k) ∧ (k ≤ l.length) ∧ (m = wordsTo l k) ∧ ((m.length : Int) = k)) (fun (⟨k, m, v3⟩ : (Int) × (List Wd) × (Value)) => (l.length - k).toNat) ((0, [], (.slice none 0 0 : Value))) ⟨Fr.refl _ _, hH1, rfl, rfl, (by omega), (by omega), rfl, rfl⟩ ?_
 rintro ⟨k, m, v3⟩ sg2 w2 ⟨fr2, hH2, e3_2, e8_2, h0, hk, hm, hml⟩
 have e2_2 := (fr2 2 rfl).trans (by conv => lhs; whnf)
 have e6_2 := (fr2 6 rfl).trans (by conv => lhs; whnf)
 have e7_2 : sg2 7 = I _ := (fr2 7 rfl).trans rfl
 refine SR ?_
 refine V (run_lss e8_2 e7_2) ?_
 refine RL.nil ?_
 refine CW.seq ?_
 refine CW.condP rfl (fun h4 => ?_) (fun h4 => ?_)
 ·refine CW.skip ?_
  refine CW.seq ?_
  refine CW.block ?_
  refine SR ?_
  refine V (run_move e8_2) ?_
  refine V (run_indexAddrS (hs.hp hH2) underlying58 sizeOf9 e6_2 e8_2 (by omega)) ?_
  refine V (run_ld underlying9 rfl rfl ((hs.hp hH2).cell _ _ (txL_at (by omega)))) ?_
  refine V (aV (I _) rfl) ?_
  refine V (aV (.string _) rfl) ?_
  refine RL.nil ?_
  refine CW.region ?_
  refine V (run_move e3_2) ?_
  refine V (mV (.string _) rfl) ?_
  refine V (mV (I _) rfl) ?_
  refine V (run_add rfl rfl (by omega)) ?_
  refine V (run_bld (vs := [(0, S _), (1, I _)]) rfl (built_wdL _ _)) ?_
  refine RL.new rfl hH2 (f := fun b => (.slice (some ⟨b, 0, none⟩) 1 1)) (run_mkRecs wdL_len underlying28 rfl rfl rfl (l := [(⟨l.getD k.toNat tx0, 10 + k⟩ : Wd)]) rfl (by decide) (by decide) rfl) ?_
  intro b7 w5 hH6
  refine RL.app rfl hH6 (i := 1) rfl (Hp.slFlat wdL_len hH6 (i := 0) (l := [(⟨l.getD k.toNat tx0, 10 + k⟩ : Wd)]) rfl (by simp [maxLen])) rfl rfl underlying28 rfl rfl (size := 2) (bytes := 24) rfl rfl rfl (by decide) (by simp [wdL, Value.oneCell']) (by simp only [List.length_cons, List.length_nil]; omega) (by simp only [maxLen, List.length_cons, List.length_nil]; omega) ?_
  intro v8 w9 hH10
  simp only [z0, z1] at hH10
  refine V (run_assign (by conv => lhs; whnf)) ?_
  refine RL.nil ?_
  refine CW.region ?_
  refine V (run_add e8_2 rfl (by omega)) ?_
  refine V (mV (I _) rfl) ?_
  refine RL.nil ?_
  refine ⟨(k + 1, m ++ [⟨l.getD k.toNat tx0, 10 + k⟩], v8), ?_, fr2.u4.u4.u4.u4, (Hp.conv (hH10.sub (sQ sR)) (by first | rfl | simp)), rfl, (congrArg I (by first | rfl | omega)), ?_, ?_, ?_, ?_⟩
  ·((try dsimp only); omega)
  ·omega
  ·omega
  ·rw [words_next h0, ← hm]
  ·simp only [List.length_append, List.length_singleton]; omega
 ·refine CW.exit (id := 0) rfl ?_
  refine SR ?_
  refine V (run_move e3_2) ?_
  refine V (run_assign (by conv => lhs; whnf)) ?_
  refine RL.nil ?_
  refine CW.ret ?_
  exact outR Tryz.results17 rfl hH2 (i := 0) rfl (by rw [hm, show k = l.length by omega]) (by rw [hm, show k = l.length by omega])

theorem s_many (n : NodeR) (w : World) (hn : NodeV (Kw w) n) (ih : ∀ x ∈ n.kids, ∀ w, NodeV (Kw w) x → Calls Tryz.prog 39 #[.agg (nodeL x).toArray] w (Ret fun u w' => (∃ k : Int, u = I k) ∧ Below w.heap.size w w')) : Calls Tryz.prog 39 #[.agg (nodeL n).toArray] w (Ret fun u w' => (∃ k : Int, u = I k) ∧ Below w.heap.size w w') := by
 have hm1 := hn.kids_.small
 unfold maxLen at hm1
 refine enter Tryz.func39 rfl Tryz.ntmps39 rfl ?_
 have hH := Hp.start w
 refine SR ?_
 refine RL.new rfl hH (f := fun b => (.pointer (some ⟨b, 0, none⟩))) (run_box (v := .agg _) rfl) ?_
 intro b3 w1 hH2
 refine V (aV (I 0) rfl) ?_
 refine RL.nil ?_
 refine SR ?_
 refine V (fA underlying32 3 rfl sizeOf28 rfl) ?_
 refine V (run_ldV (hn.names_.sl.hp hH2) underlying28 rfl rfl (hH2.cell (i := 0) rfl rfl)) ?_
 refine V (run_lenSl (hn.names_.sl.hp hH2) rfl underlying28 rfl) ?_
 refine V (run_addW rfl rfl) ?_
 refine V (aV (I _) rfl) ?_
 refine RL.nil ?_
 refine CW.seq ?_
 refine SR ?_
 refine V (aV (I 0) rfl) ?_
 refine RL.nil ?_
 refine CW.block ?_
 refine CW.loop (G := (Int) × (Int)) (fun (⟨k, m⟩ : (Int) × (Int)) s' w' => (Fr [3, 4, 9, 10, 11, 12, 13, 14, 15, 16, 17, 18, 19, 20, 21, 22, 23] _ s') ∧ (Hp w w' _) ∧ (s' 3 = I m) ∧ (s' 4 = I k) ∧ (0 ≤ k) ∧ (k ≤ n.kids.length)) (fun (⟨k, m⟩ : (Int) × (Int)) => (n.kids.length - k).toNat) ((0, _)) ⟨Fr.refl _ _, hH2, rfl, rfl, (by omega), (by omega)⟩ ?_
 rintro ⟨k, m⟩ sg4 w4 ⟨fr4, hH4, e3_4, e4_4, h0, hk⟩
 have e1_4 : sg4 1 = Pn _ _ := (fr4 1 rfl).trans rfl
 have e2_4 : sg4 2 = I _ := (fr4 2 rfl).trans rfl
 refine CW.seq ?_
 refine SR ?_
 refine V (run_move e4_4) ?_
 refine V (fA underlying32 4 rfl sizeOf30 e1_4) ?_
 refine V (run_ldV (hn.kids_.sl.hp hH4) underlying30 rfl rfl (hH4.cell (i := 0) rfl rfl)) ?_
 refine V (run_lenSl (hn.kids_.sl.hp hH4) rfl underlying30 rfl) ?_
 refine V (run_lss rfl rfl) ?_
 refine RL.nil ?_
 refine CW.condP rfl (fun h6 => ?_) (fun h6 => ?_)
 ·refine CW.skip ?_
  refine CW.seq ?_
  refine CW.block ?_
  refine CW.region ?_
  refine V (run_move e3_4) ?_
  refine V (fA underlying32 4 rfl sizeOf30 e1_4) ?_
  refine V (run_ldV (hn.kids_.sl.hp hH4) underlying30 rfl rfl (hH4.cell (i := 0) rfl rfl)) ?_
  refine V (run_move e4_4) ?_
  refine V (run_indexAddrS (hn.kids_.sl.hp hH4) underlying30 sizeOf32 rfl rfl (by omega)) ?_
  refine V (run_ldE (dv := node0) nodeL_len (hn.kids_.sl.hp hH4) underlying32 rfl rfl rfl (by omega)) ?_
  refine RL.callT rfl (ih _ (List.mem_of_getElem? (getD_at (d := node0) h0 ‹k < _›)) _ ((hn.mono hH4.kw).at h0 ‹_›)) (run_call1 call39 rfl) ?_
  rintro _ w9 ⟨⟨k12, rfl⟩, hb10⟩
  have hH11 := hH4.call hb10
  refine V (run_addW rfl rfl) ?_
  refine V (aV (I _) rfl) ?_
  refine RL.nil ?_
  refine CW.region ?_
  refine V (run_move e4_4) ?_
  refine V (run_add rfl rfl (by omega)) ?_
  refine V (aV (I _) rfl) ?_
  refine RL.nil ?_
  refine ⟨(k + 1, _), ?_, fr4.u4.u4.u4.u4.u1, hH11, (congrArg I (by first | rfl | omega)), (congrArg I (by first | rfl | omega)), ?_, ?_⟩
  ·((try dsimp only); omega)
  ·omega
  ·omega
 ·refine CW.exit (id := 0) rfl ?_
  refine SR ?_
  refine V (run_move e3_4) ?_
  refine V (aV (I _) rfl) ?_
  refine RL.nil ?_
  refine CW.ret ?_
  exact out1 Tryz.results39 rfl ⟨⟨_, rfl⟩, hH4.below⟩
theorem c_clearanceref10_Many (n : NodeR) : ∀ (w : World) (hn : NodeV (Kw w) n), Calls Tryz.prog 39 #[.agg (nodeL n).toArray] w (Ret fun u w' => (∃ k : Int, u = I k) ∧ Below w.heap.size w w') := node_ind (C := fun n => ∀ (w : World) (hn : NodeV (Kw w) n), Calls Tryz.prog 39 #[.agg (nodeL n).toArray] w (Ret fun u w' => (∃ k : Int, u = I k) ∧ Below w.heap.size w w')) (fun n ih w hn => s_many n w hn ih) n

theorem c_clearancelaw10_Big (v : Value) (l : List NodeR) (w : World) (hs : Sl w v 5 l.length (l.flatMap nodeL)) (hv : NodesV (Kw w) l) : Calls Tryz.prog 16 #[v] w (Ret fun u w' => (∃ b : Bool, u = B b) ∧ Below w.heap.size w w') := by
 have hm := hs.small
 unfold maxLen at hm
 refine enter Tryz.func16 rfl Tryz.ntmps16 rfl ?_
 have hH := Hp.start w
 refine SR ?_
 refine V (aV (B false) rfl) ?_
 refine RL.nil ?_
 refine CW.seq ?_
 refine SR ?_
 refine V (run_move (by conv => lhs; whnf)) ?_
 refine V (run_lenSl (hs.hp hH) rfl underlying30 rfl) ?_
 refine V (mV (I 0) rfl) ?_
 refine RL.nil ?_
 refine CW.block ?_
 refine CW.loop (G := (Int)) (fun (k : Int) s' w' => (Fr [2, 4, 7, 8, 9, 10, 11, 12, 13, 14] _ s') ∧ (Hp w w' _) ∧ (s' 7 = I k) ∧ (0 ≤ k) ∧ (k ≤ l.length)) (fun (k : Int) => (l.length - k).toNat) (0) ⟨Fr.refl _ _, hH, rfl, (by omega), (by omega)⟩ ?_
 rintro k sg1 w1 ⟨fr1, hH1, e7_1, h0, hk⟩
 have e5_1 := (fr1 5 rfl).trans (by conv => lhs; whnf)
 have e6_1 : sg1 6 = I _ := (fr1 6 rfl).trans rfl
 refine SR ?_
 refine V (run_lss e7_1 e6_1) ?_
 refine RL.nil ?_
 refine CW.seq ?_
 refine CW.condP rfl (fun h3 => ?_) (fun h3 => ?_)
 ·refine CW.skip ?_
  refine CW.seq ?_
  refine CW.block ?_
  refine SR ?_
  refine V (run_indexAddrS (hs.hp hH1) underlying30 sizeOf32 e5_1 e7_1 (by omega)) ?_
  refine V (run_ldE (dv := node0) nodeL_len (hs.hp hH1) underlying32 rfl rfl rfl (by omega)) ?_
  refine RL.new rfl hH1 (f := fun b => (.pointer (some ⟨b, 0, none⟩))) (run_alloc Tryz.zeroValue32) ?_
  intro b6 w4 hH5
  refine RL.set hH5 (i := 0) rfl (run_stW (c' := (nodeL _).toArray) rfl rfl rfl (nodeL_one (hv.at (by omega) (by omega))) (hH5.blk (i := 0) rfl) rfl) ?_
  intro w7 hH8
  simp only [z0, z1] at hH8
  refine RL.nil ?_
  refine SR ?_
  refine V (run_ldA (cs := nodeL _) underlying32 rfl rfl rfl (rangeAt_cells (hH8.blk (i := 0) rfl))) ?_
  refine RL.callT rfl (c_clearanceref10_Many _ _ ((hv.mono hH8.kw).at h0 ‹_›)) (run_call1 call39 rfl) ?_
  rintro _ w11 ⟨⟨k14, rfl⟩, hb12⟩
  have hH13 := hH8.call hb12
  refine V (run_gtr rfl rfl) ?_
  refine RL.nil ?_
  refine CW.condP rfl (fun h16 => ?_) (fun h16 => ?_)
  ·refine SR ?_
   refine V (aV (B true) rfl) ?_
   refine RL.nil ?_
   refine CW.ret ?_
   exact out1 Tryz.results16 rfl ⟨⟨_, rfl⟩, hH13.below⟩
  ·refine CW.skip ?_
   refine CW.region ?_
   refine V (run_add e7_1 rfl (by omega)) ?_
   refine V (mV (I _) rfl) ?_
   refine RL.nil ?_
   refine ⟨k + 1, ?_, fr1.u4.u4.u1, (hH13.sub (sQ sR)), (congrArg I (by first | rfl | omega)), ?_, ?_⟩
   ·((try dsimp only); omega)
   ·omega
   ·omega
 ·refine CW.exit (id := 0) rfl ?_
  refine SR ?_
  refine V (aV (B false) rfl) ?_
  refine RL.nil ?_
  refine CW.ret ?_
  exact out1 Tryz.results16 rfl ⟨⟨_, rfl⟩, hH1.below⟩

theorem c_clearancelaw12_Big (c : CmdR) (w : World) (hc : CmdV (Kw w) c) : Calls Tryz.prog 5 #[.agg (cmdL c).toArray] w (Ret fun u w' => (∃ b : Bool, u = B b ∧ (b = false → c.names.length ≤ 100 ∧ c.pairs.length ≤ 100)) ∧ Below w.heap.size w w') := by
 have hm1 := hc.names.sl.small
 have hm2 := hc.pairs.sl.small
 unfold maxLen at hm1 hm2
 refine enter Tryz.func5 rfl Tryz.ntmps5 rfl ?_
 have hH := Hp.start w
 refine SR ?_
 refine RL.new rfl hH (f := fun b => (.pointer (some ⟨b, 0, none⟩))) (run_box (v := .agg _) rfl) ?_
 intro b3 w1 hH2
 refine V (aV (B false) rfl) ?_
 refine RL.nil ?_
 refine CW.seq ?_
 refine SR ?_
 refine V (fA underlying34 4 rfl sizeOf28 rfl) ?_
 refine V (run_ldV (hc.names.sl.hp hH2) underlying28 rfl rfl (hH2.cell (i := 0) rfl rfl)) ?_
 refine V (run_lenSl (hc.names.sl.hp hH2) rfl underlying28 rfl) ?_
 refine V (run_gtr rfl rfl) ?_
 refine V (mV (B _) rfl) ?_
 refine RL.splitP (dj := 7) rfl (fun h5 => ?_) (fun h5 => ?_)
 ·refine RL.gF rfl rfl (bT h5) rfl ?_
  refine RL.gF rfl rfl (bT h5) rfl ?_
  refine RL.gF rfl rfl (bT h5) rfl ?_
  refine RL.gF rfl rfl (bT h5) rfl ?_
  refine V (run_pickT (bT h5) (v := B true) rfl) ?_
  refine V (mV (B _) rfl) ?_
  refine RL.gF rfl rfl rfl rfl ?_
  refine RL.gF rfl rfl rfl rfl ?_
  refine RL.gF rfl rfl rfl rfl ?_
  refine RL.gF rfl rfl rfl rfl ?_
  refine RL.gF rfl rfl rfl rfl ?_
  refine V (run_pickT rfl (v := B true) rfl) ?_
  refine RL.nil ?_
  refine CW.condT rfl ?_
  refine SR ?_
  refine V (aV (B true) rfl) ?_
  refine RL.nil ?_
  refine CW.ret ?_
  exact out1 Tryz.results5 rfl ⟨⟨_, rfl, fun h => by first | (exfalso; cases h; done) | omega⟩, hH2.below⟩
 ·refine RL.gT rfl (bF h5) ?_
  refine V (fA underlying34 5 rfl sizeOf29 rfl) ?_
  refine RL.gT rfl (bF h5) ?_
  refine V (run_ldV (hc.pairs.sl.hp hH2) underlying29 rfl rfl (hH2.cell (i := 0) rfl rfl)) ?_
  refine RL.gT rfl (bF h5) ?_
  refine V (run_lenSl (hc.pairs.sl.hp hH2) rfl underlying29 rfl) ?_
  refine RL.gT rfl (bF h5) ?_
  refine V (run_gtr rfl rfl) ?_
  refine V (run_pickF (bF h5) (v := B _) rfl) ?_
  refine V (mV (B _) rfl) ?_
  refine RL.splitP (dj := 13) rfl (fun h7 => ?_) (fun h7 => ?_)
  ·refine RL.gF rfl rfl (bT h7) rfl ?_
   refine RL.gF rfl rfl (bT h7) rfl ?_
   refine RL.gF rfl rfl (bT h7) rfl ?_
   refine RL.gF rfl rfl (bT h7) rfl ?_
   refine RL.gF rfl rfl (bT h7) rfl ?_
   refine V (run_pickT (bT h7) (v := B true) rfl) ?_
   refine RL.nil ?_
   refine CW.condT rfl ?_
   refine SR ?_
   refine V (aV (B true) rfl) ?_
   refine RL.nil ?_
   refine CW.ret ?_
   exact out1 Tryz.results5 rfl ⟨⟨_, rfl, fun h => by first | (exfalso; cases h; done) | omega⟩, hH2.below⟩
  ·refine RL.gT rfl (bF h7) ?_
   refine V (fA underlying34 2 rfl sizeOf27 rfl) ?_
   refine RL.gT rfl (bF h7) ?_
   refine V (fA underlying27 0 rfl sizeOf9 rfl) ?_
   refine RL.gT rfl (bF h7) ?_
   refine V (run_ld underlying9 rfl rfl (hH2.cell (i := 0) rfl (v := .string _) rfl)) ?_
   refine RL.gT rfl (bF h7) ?_
   refine V (run_lenStr rfl underlying9 rfl) ?_
   refine RL.gT rfl (bF h7) ?_
   refine V (run_gtr rfl rfl) ?_
   refine V (run_pickF (bF h7) (v := B _) rfl) ?_
   refine RL.nil ?_
   refine CW.condP rfl (fun h9 => ?_) (fun h9 => ?_)
   ·refine SR ?_
    refine V (aV (B true) rfl) ?_
    refine RL.nil ?_
    refine CW.ret ?_
    exact out1 Tryz.results5 rfl ⟨⟨_, rfl, fun h => by first | (exfalso; cases h; done) | omega⟩, hH2.below⟩
   ·refine CW.skip ?_
    refine SR ?_
    refine V (fA underlying34 7 rfl sizeOf32 rfl) ?_
    refine V (run_ldSub (sub := nodeL _) underlying32 rfl rfl rfl (hH2.blk (i := 0) rfl) rfl) ?_
    refine V (fA underlying34 12 rfl sizeOf32 rfl) ?_
    refine V (run_ldSub (sub := nodeL _) underlying32 rfl rfl rfl (hH2.blk (i := 0) rfl) rfl) ?_
    refine RL.new rfl hH2 (f := fun b => (.slice (some ⟨b, 0, none⟩) 2 2)) (run_mkRecs nodeL_len underlying30 rfl rfl rfl (l := [c.left, c.right]) rfl (by decide) (by decide) rfl) ?_
    intro b12 w10 hH11
    refine RL.callT rfl (c_clearancelaw10_Big _ [c.left, c.right] _ (Hp.slFlat nodeL_len hH11 (i := 0) (l := [c.left, c.right]) rfl (by simp [maxLen])) ⟨fun x hx => by simp at hx; rcases hx with rfl | rfl <;> first | exact NodeV.mono hH11.kw hc.left | exact NodeV.mono hH11.kw hc.right⟩) (run_call1 call16 rfl) ?_
    rintro _ w15 ⟨⟨b18, rfl⟩, hb16⟩
    have hH17 := hH11.call hb16
    refine V (aV (B _) rfl) ?_
    refine RL.nil ?_
    refine CW.ret ?_
    exact out1 Tryz.results5 rfl ⟨⟨_, rfl, fun h => by first | (exfalso; cases h; done) | omega⟩, hH17.below⟩

theorem c_clearancelaw13_alive  (w : World) (hT : Tab w) : Calls Tryz.prog 6 #[] w (Pure (B true) w) := by
 refine enter Tryz.func6 rfl Tryz.ntmps6 rfl ?_
 have hH := Hp.start w
 refine SR ?_
 refine V (aV (B false) rfl) ?_
 refine RL.nil ?_
 refine SR ?_
 refine V (run_bld (vs := []) rfl built_scp0) ?_
 refine V (run_bld (vs := [(0, .string ⟨#[107]⟩)]) rfl (built_wdLs _)) ?_
 refine RL.new rfl hH (f := fun b => (.slice (some ⟨b, 0, none⟩) 2 2)) (run_mkL underlying58 rfl rfl (sz := 1) (vs := [.string ⟨#[97]⟩, .string ⟨#[98]⟩]) rfl rfl (by decide) (by decide) rfl rfl) ?_
 intro b3 w1 hH2
 (try simp only [List.flatMap_cons, List.flatMap_nil, clI, clB, clS, clP, clL, clA, List.append_nil, List.cons_append, List.nil_append] at hH2)
 refine RL.callR rfl hH2 (c_clearancelaw13_words _ [exA, exB] (by decide) _ (hH2.slBlk (i := 0) (n := 2) (sz := 1) rfl rfl (by decide))) (run_call1 call17 rfl) ?_
 intro v6 w4 hH5
 obtain ⟨Z7, hz8, hv9, -⟩ := hH5.frz ((Kw w))
 have hH10 : Hp _ w4 (_ :: Z7) := hz8.zin0 (L := [_])
 have hc11 : CmdV (Kz (Kw w) Z7) (mkC 1 ⟨exK, 0⟩ v6 (wordsTo [exA, exB] 2)) := mkC_v hv9
 refine V (run_bld (vs := [(0, I 1), (2, .agg (wdL ⟨exK, 0⟩).toArray), (3, v6)]) rfl (built_cmdN (one_slice hv9).2 1 ⟨exK, 0⟩ (wordsTo [exA, exB] 2))) ?_
 refine RL.callF rfl hH10 (c_scope_Add (Kz (Kw w) Z7) scp0 (mkC 1 ⟨exK, 0⟩ v6 (wordsTo [exA, exB] 2)) (al_sm0 _) _ (hH10.kz (Le.refl _) (fun x hx => (mT hx))) (scp0_v _) (hc11.mono (Le.zz (fun x hx => hx))) (hT.hp hH10)) (run_call2 call11 rfl rfl) ?_
 intro v14 w15 Z17 hH16 hp18
 have hH19 : Hp _ w15 (_ :: (Z17 ++ Z7)) := hH16.zin (L := [_]) (L' := Z7)
 obtain ⟨q20, rfl, qsc21, qv22⟩ := hp18
 refine RL.new rfl hH19 (f := fun b => (.pointer (some ⟨b, 0, none⟩))) (run_alloc Tryz.zeroValue25) ?_
 intro b25 w23 hH24
 have hq26 := qv22.mono Le.kk
 refine RL.set hH24 (i := 0) rfl (run_stW (c' := (scpL _).toArray) rfl rfl rfl (scpL_one hq26) (hH24.blk (i := 0) rfl) rfl) ?_
 intro w27 hH28
 simp only [z0, z1] at hH28
 refine RL.nil ?_
 refine SR ?_
 refine V (run_bld (vs := [(0, .string ⟨#[107]⟩)]) rfl (built_wdLs _)) ?_
 refine RL.new rfl hH28 (f := fun b => (.slice (some ⟨b, 0, none⟩) 1 1)) (run_mkL underlying58 rfl rfl (sz := 1) (vs := [.string ⟨#[120]⟩]) rfl rfl (by decide) (by decide) rfl rfl) ?_
 intro b31 w29 hH30
 (try simp only [List.flatMap_cons, List.flatMap_nil, clI, clB, clS, clP, clL, clA, List.append_nil, List.cons_append, List.nil_append] at hH30)
 refine RL.callR rfl hH30 (c_clearancelaw13_words _ [exX] (by decide) _ (hH30.slBlk (i := 0) (n := 1) (sz := 1) rfl rfl (by decide))) (run_call1 call17 rfl) ?_
 intro v34 w32 hH33
 obtain ⟨Z35, hz36, hv37, -⟩ := hH33.frz ((Kw w))
 have hH38 : Hp _ w32 (_ :: _ :: _ :: (Z35 ++ (Z17 ++ Z7))) := hz36.zin (L := [_, _, _]) (L' := (Z17 ++ Z7))
 have hc39 : CmdV (Kz (Kw w) Z35) (mkC 6 ⟨exK, 0⟩ v34 (wordsTo [exX] 1)) := mkC_v hv37
 refine V (run_bld (vs := [(0, I 6), (2, .agg (wdL ⟨exK, 0⟩).toArray), (3, v34)]) rfl (built_cmdN (one_slice hv37).2 6 ⟨exK, 0⟩ (wordsTo [exX] 1))) ?_
 refine RL.new rfl hH38 (f := fun b => (.pointer (some ⟨b, 0, none⟩))) (run_alloc Tryz.zeroValue34) ?_
 intro b42 w40 hH41
 refine RL.set hH41 (i := 0) rfl (run_stW (c' := (cmdL _).toArray) rfl rfl rfl (cmdL_one hc39) (hH41.blk (i := 0) rfl) rfl) ?_
 intro w43 hH44
 simp only [z0, z1] at hH44
 refine RL.nil ?_
 refine SR ?_
 refine V (run_ldA (cs := scpL _) underlying25 rfl rfl rfl (rangeAt_cells (hH44.blk (i := 2) rfl))) ?_
 refine V (run_ldA (cs := cmdL _) underlying34 rfl rfl rfl (rangeAt_cells (hH44.blk (i := 0) rfl))) ?_
 refine RL.callF rfl hH44 (c_scope_Add (Kz (Kw w) (Z35 ++ (Z17 ++ Z7))) q20 (mkC 6 ⟨exK, 0⟩ v34 (wordsTo [exX] 1)) (al_sm (qsc21.trans (al_1 _)) (by decide) _) _ (hH44.kz (Le.refl _) (fun x hx => (mT (mT (mT (mT hx)))))) (hq26.mono (Le.zz (fun x hx => (List.mem_append_right _ hx)))) (hc39.mono (Le.zz (fun x hx => (List.mem_append_left _ hx)))) (hT.hp hH44)) (run_call2 call11 rfl rfl) ?_
 intro v47 w48 Z50 hH49 hp51
 have hH52 : Hp _ w48 (_ :: _ :: _ :: _ :: (Z50 ++ (Z35 ++ (Z17 ++ Z7)))) := hH49.zin (L := [_, _, _, _]) (L' := (Z35 ++ (Z17 ++ Z7)))
 obtain ⟨q53, rfl, qsc54, qv55⟩ := hp51
 refine RL.new rfl hH52 (f := fun b => (.pointer (some ⟨b, 0, none⟩))) (run_alloc Tryz.zeroValue25) ?_
 intro b58 w56 hH57
 have hq59 := qv55.mono Le.kk
 obtain ⟨hl1, hl2, hl3, hl4, hl5⟩ := al_3 (qsc54.trans (al_2 (qsc21.trans (al_1 _)) _)) v34
 refine RL.set hH57 (i := 0) rfl (run_stW (c' := (scpL _).toArray) rfl rfl rfl (scpL_one hq59) (hH57.blk (i := 0) rfl) rfl) ?_
 intro w60 hH61
 simp only [z0, z1] at hH61
 refine RL.nil ?_
 refine SR ?_
 refine V (run_ldA (cs := scpL _) underlying25 rfl rfl rfl (rangeAt_cells (hH61.blk (i := 0) rfl))) ?_
 refine RL.callP rfl hH61 (c_scope_Find q53 exX _ ((hq59.mono (Le.zz (fun x hx => hx))).mono (hH61.kz (Le.refl _) (fun x hx => (mT (mT (mT (mT (mT hx))))))))) (run_call2 call18 rfl (show _ = Value.string ⟨#[120]⟩ from rfl)) ?_
 intro w62 hH63
 refine V (run_move (by conv => lhs; whnf)) ?_
 refine V (run_extract rfl (v := I _) rfl) ?_
 refine V (run_extract rfl (v := I _) rfl) ?_
 refine V (aV (I _) rfl) ?_
 refine V (aV (I _) rfl) ?_
 refine RL.nil ?_
 refine SR ?_
 refine V (fA underlying25 0 rfl sizeOf22 rfl) ?_
 refine V (run_ldV (hq59.lats.mono (hH63.kz (Le.refl _) (fun x hx => (mT (mT (mT (mT (mT hx)))))))).sl underlying22 rfl rfl (hH63.cell (i := 0) rfl rfl)) ?_
 refine V (run_lenSl (hq59.lats.mono (hH63.kz (Le.refl _) (fun x hx => (mT (mT (mT (mT (mT hx)))))))).sl rfl underlying22 rfl) ?_
 refine V (run_eql rfl rfl) ?_
 refine V (mV (B _) rfl) ?_
 refine RL.gT rfl (bT ((by omega))) ?_
 refine V (mV (I _) rfl) ?_
 refine RL.gT rfl (bT ((by omega))) ?_
 refine V (run_eql rfl rfl) ?_
 refine V (run_pickT (bT ((by omega))) (v := B _) rfl) ?_
 refine V (mV (B _) rfl) ?_
 refine RL.gT rfl (bT ((by rw [hl2]))) ?_
 refine V (mV (I _) rfl) ?_
 refine RL.gT rfl (bT ((by rw [hl2]))) ?_
 refine V (run_eql rfl rfl) ?_
 refine V (run_pickT (bT ((by rw [hl2]))) (v := B _) rfl) ?_
 refine V (mV (B _) rfl) ?_
 refine RL.gT rfl (bT ((by rw [hl3]))) ?_
 refine V (run_ldA (cs := scpL _) underlying25 rfl rfl rfl (rangeAt_cells (hH63.blk (i := 0) rfl))) ?_
 refine RL.gT rfl (bT ((by rw [hl3]))) ?_
 refine V (run_ldA (cs := cmdL _) underlying34 rfl rfl rfl (rangeAt_cells (hH63.blk (i := 1) rfl))) ?_
 refine RL.gT rfl (bT ((by rw [hl3]))) ?_
 refine RL.callP rfl hH63 (c_scope_Fault q53 (mkC 6 ⟨exK, 0⟩ v34 (wordsTo [exX] 1)) (al_sm (qsc54.trans (al_2 (qsc21.trans (al_1 _)) _)) (by decide) _) _ ((hq59.mono (Le.zz (fun x hx => hx))).mono (hH63.kz (Le.refl _) (fun x hx => (mT (mT (mT (mT (mT hx)))))))) ((hc39.mono (Le.zz (fun x hx => (List.mem_append_right _ (List.mem_append_left _ hx))))).mono (hH63.kz (Le.refl _) (fun x hx => (mT (mT (mT (mT (mT hx)))))))) (hT.hp hH63)) (run_call2 call19 rfl rfl) ?_
 intro w67 hH68
 refine RL.gT rfl (bT ((by rw [hl3]))) ?_
 refine V (run_bld (vs := [(0, I 3), (1, I 10)]) rfl (built_fltL _ _)) ?_
 refine RL.gT rfl (bT ((by rw [hl3]))) ?_
 refine V (run_eqlT (eq_flt _ _) rfl rfl) ?_
 refine V (run_pickT (bT ((by rw [hl3]))) (v := B _) rfl) ?_
 refine V (mV (B _) rfl) ?_
 refine RL.gT rfl (bT (hl4)) ?_
 refine V (run_ldA (cs := scpL _) underlying25 rfl rfl rfl (rangeAt_cells (hH68.blk (i := 0) rfl))) ?_
 refine RL.gT rfl (bT (hl4)) ?_
 refine RL.callP rfl hH68 (c_scope_Right q53 _ ((hq59.mono (Le.zz (fun x hx => hx))).mono (hH68.kz (Le.refl _) (fun x hx => (mT (mT (mT (mT (mT hx)))))))) (hT.hp hH68)) (run_call1 call13 rfl) ?_
 intro w70 hH71
 refine V (run_pickT (bT (hl4)) (v := B _) rfl) ?_
 refine V (aV (B _) rfl) ?_
 refine RL.nil ?_
 refine CW.ret ?_
 refine outP1 Tryz.results6 (congrArg B ?_) hH71.below
 first | rfl | exact hl5

theorem c_clearancelaw13_ScopeAdds (s : Scp) (c : CmdR) (w : World) (hs : ScpV (Kw w) s) (hc : CmdV (Kw w) c) (hT : Tab w) : Calls Tryz.prog 3 #[.agg (scpC s), .agg (cmdL c).toArray] w (Pure (B true) w) := by
 refine enter Tryz.func3 rfl Tryz.ntmps3 rfl ?_
 have hH := Hp.start w
 refine SR ?_
 refine RL.new rfl hH (f := fun b => (.pointer (some ⟨b, 0, none⟩))) (run_box (v := .agg _) rfl) ?_
 intro b3 w1 hH2
 refine RL.new rfl hH2 (f := fun b => (.pointer (some ⟨b, 0, none⟩))) (run_box (v := .agg _) rfl) ?_
 intro b6 w4 hH5
 refine V (aV (B false) rfl) ?_
 refine RL.nil ?_
 refine CW.seq ?_
 refine SR ?_
 refine V (run_ldA (cs := scpL _) underlying25 rfl rfl rfl (rangeAt_cells (hH5.blk (i := 1) rfl))) ?_
 refine RL.callP rfl hH5 (c_clearancelaw13_Big _  _ (hs.mono hH5.kw)) (run_call1 call4 rfl) ?_
 intro w7 hH8
 refine V (mV (B _) rfl) ?_
 refine RL.split (dj := 7) rfl (fun h10 => ?_) (fun h10 => ?_)
 ·refine RL.gF rfl rfl (bR (c := true) h10) rfl ?_
  refine RL.gF rfl rfl (bR (c := true) h10) rfl ?_
  refine V (run_pickT (bR (c := true) h10) (v := B true) rfl) ?_
  refine RL.nil ?_
  refine CW.condT rfl ?_
  refine SR ?_
  refine RL.callP rfl hH8 (c_clearancelaw13_alive   _ (hT.hp hH8)) (run_call0 call6) ?_
  intro w11 hH12
  refine V (aV (B _) rfl) ?_
  refine RL.nil ?_
  refine CW.ret ?_
  refine outP1 Tryz.results3 (congrArg B ?_) hH12.below
  first | rfl | exact beq_self_eq_true _
 ·refine RL.gT rfl (bR (c := false) h10) ?_
  refine V (run_ldA (cs := cmdL _) underlying34 rfl rfl rfl (rangeAt_cells (hH8.blk (i := 0) rfl))) ?_
  refine RL.gT rfl (bR (c := false) h10) ?_
  refine RL.callT rfl (c_clearancelaw12_Big _  _ (hc.mono hH8.kw)) (run_call1 call5 rfl) ?_
  rintro _ w16 ⟨⟨b19, rfl, hb20⟩, hb17⟩
  have hH18 := hH8.call hb17
  refine V (run_pickF (bR (c := false) h10) (v := B _) rfl) ?_
  refine RL.nil ?_
  refine CW.cond rfl (fun h22 => ?_) (fun h22 => ?_)
  ·refine SR ?_
   refine RL.callP rfl hH18 (c_clearancelaw13_alive   _ (hT.hp hH18)) (run_call0 call6) ?_
   intro w23 hH24
   refine V (aV (B _) rfl) ?_
   refine RL.nil ?_
   refine CW.ret ?_
   refine outP1 Tryz.results3 (congrArg B ?_) hH24.below
   first | rfl | exact beq_self_eq_true _
  ·refine CW.skip ?_
   refine CW.seq ?_
   refine CW.regionD (by kernel_rfl) hH18 ?_
   intro w26 hH27
   refine AT 0 rfl (hH27.sub sR) (fun w hS => run_ldA (cs := scpL _) underlying25 rfl rfl rfl (rangeAt_cells (hS.blk (i := 1) rfl))) ?_
   refine AT 1 rfl (hH27.sub sR) (fun w hS => run_ldA (cs := cmdL _) underlying34 rfl rfl rfl (rangeAt_cells (hS.blk (i := 0) rfl))) ?_
   refine AT 3 rfl (hH27.sub sR) (fun w hS => run_ldA (cs := scpL _) underlying25 rfl rfl rfl (rangeAt_cells (hS.blk (i := 1) rfl))) ?_
   refine AT 4 rfl (hH27.sub sR) (fun w hS => run_ldA (cs := cmdL _) underlying34 rfl rfl rfl (rangeAt_cells (hS.blk (i := 0) rfl))) ?_
   refine A1 2 ?_
   refine AO.callF rfl gnone rfl hH27 sR (c_scope_Shape (Kw w) s c (sm_of ‹bigScp s = false› (hb20 ‹_›)) _ hH27.kw hs hc) (run_call2 call8 rfl rfl) ?_
   intro v30 w31 Z33 hH32 hp34
   have hH35 : Hp _ w31 (_ :: _ :: Z33) := hH32.zin0 (L := [_, _])
   obtain ⟨p36, rfl, psh37, pv38⟩ := hp34
   refine A1 5 ?_
   refine AO.callF rfl gnone rfl hH35 (sP (sP (List.nil_sublist _))) (c_clearanceref13_Shape (Kw w) s c (sm_of ‹bigScp s = false› (hb20 ‹_›)) _ hH35.kw hs hc) (run_call2 call9 rfl rfl) ?_
   intro v41 w42 Z44 hH43 hp45
   have hH46 : Hp _ w42 (_ :: _ :: (Z44 ++ Z33)) := hH43.zin (L := [_, _]) (L' := Z33)
   obtain ⟨p47, rfl, psh48, pv49⟩ := hp45
   refine A1 6 ?_
   refine AO.callP rfl gnone rfl hH46 (sP (sP (List.nil_sublist _))) (c_clearanceref07_Same _ _  _ (pv38.mono (hH46.kz (Le.refl _) (fun x hx => (mT (mT (List.mem_append_right _ hx)))))) (pv49.mono (hH46.kz (Le.refl _) (fun x hx => (mT (mT (List.mem_append_left _ hx))))))) (run_call2 call7 rfl rfl) ?_
   intro w50 hH51
   refine AT 7 rfl (hH51.sub (sP (sP (List.nil_sublist _)))) (fun w hS => mV (B _) rfl) ?_
   refine AG 8 rfl rfl (bR (c := true) ((by rw [psh37, psh48]; exact sameS_refl _))) (hH51.sub (sP (sP (List.nil_sublist _)))) (fun w hS => run_ldA (cs := scpL _) underlying25 rfl rfl rfl (rangeAt_cells (hS.blk (i := 1) rfl))) ?_
   refine AG 9 rfl rfl (bR (c := true) ((by rw [psh37, psh48]; exact sameS_refl _))) (hH51.sub (sP (sP (List.nil_sublist _)))) (fun w hS => run_ldA (cs := cmdL _) underlying34 rfl rfl rfl (rangeAt_cells (hS.blk (i := 0) rfl))) ?_
   refine AG 11 rfl rfl (bR (c := true) ((by rw [psh37, psh48]; exact sameS_refl _))) (hH51.sub (sP (sP (List.nil_sublist _)))) (fun w hS => run_ldA (cs := scpL _) underlying25 rfl rfl rfl (rangeAt_cells (hS.blk (i := 1) rfl))) ?_
   refine AG 12 rfl rfl (bR (c := true) ((by rw [psh37, psh48]; exact sameS_refl _))) (hH51.sub (sP (sP (List.nil_sublist _)))) (fun w hS => run_ldA (cs := cmdL _) underlying34 rfl rfl rfl (rangeAt_cells (hS.blk (i := 0) rfl))) ?_
   refine A1 10 ?_
   refine AO.callF rfl (gsome rfl (bR (c := true) ((by rw [psh37, psh48]; exact sameS_refl _)))) rfl hH51 (sP (sP (List.nil_sublist _))) (c_scope_Add (Kw w) s c (sm_of ‹bigScp s = false› (hb20 ‹_›)) _ hH51.kw hs hc (hT.hp hH51)) (run_call2 call11 rfl rfl) ?_
   intro v55 w56 Z58 hH57 hp59
   have hH60 : Hp _ w56 (_ :: _ :: (Z58 ++ (Z44 ++ Z33))) := hH57.zin (L := [_, _]) (L' := (Z44 ++ Z33))
   obtain ⟨q61, rfl, qsc62, qv63⟩ := hp59
   refine A1 13 ?_
   refine AO.callF rfl (gsome rfl (bR (c := true) ((by rw [psh37, psh48]; exact sameS_refl _)))) rfl hH60 (sP (sP (List.nil_sublist _))) (c_clearanceref13_Add (Kw w) s c (sm_of ‹bigScp s = false› (hb20 ‹_›)) _ hH60.kw hs hc) (run_call2 call12 rfl rfl) ?_
   intro v66 w67 Z69 hH68 hp70
   have hH71 : Hp _ w67 (_ :: _ :: (Z69 ++ (Z58 ++ (Z44 ++ Z33)))) := hH68.zin (L := [_, _]) (L' := (Z58 ++ (Z44 ++ Z33)))
   obtain ⟨q72, rfl, qsc73, qv74⟩ := hp70
   refine A1 14 ?_
   refine AO.callP rfl (gsome rfl (bR (c := true) ((by rw [psh37, psh48]; exact sameS_refl _)))) rfl hH71 (sP (sP (List.nil_sublist _))) (c_clearanceref13_Same _ _  _ (qv63.mono (hH71.kz (Le.refl _) (fun x hx => (mT (mT (List.mem_append_right _ (List.mem_append_left _ hx))))))) (qv74.mono (hH71.kz (Le.refl _) (fun x hx => (mT (mT (List.mem_append_left _ hx))))))) (run_call2 call10 rfl rfl) ?_
   intro w75 hH76
   refine AT 15 rfl (hH76.sub (sP (sP (List.nil_sublist _)))) (fun w hS => run_pickT (bR (c := true) ((by rw [psh37, psh48]; exact sameS_refl _))) (v := B _) rfl) ?_
   refine AT 16 rfl (hH76.sub (sP (sP (List.nil_sublist _)))) (fun w hS => mV (B _) rfl) ?_
   refine AG 17 rfl rfl (bR (c := true) ((same_sc (qsc62.trans qsc73.symm)))) (hH76.sub (sP (sP (List.nil_sublist _)))) (fun w hS => run_ldA (cs := scpL _) underlying25 rfl rfl rfl (rangeAt_cells (hS.blk (i := 1) rfl))) ?_
   refine AG 19 rfl rfl (bR (c := true) ((same_sc (qsc62.trans qsc73.symm)))) (hH76.sub (sP (sP (List.nil_sublist _)))) (fun w hS => run_ldA (cs := scpL _) underlying25 rfl rfl rfl (rangeAt_cells (hS.blk (i := 1) rfl))) ?_
   refine A1 18 ?_
   refine AO.callP rfl (gsome rfl (bR (c := true) ((same_sc (qsc62.trans qsc73.symm))))) rfl hH76 (sP (sP (List.nil_sublist _))) (c_scope_Right _  _ (hs.mono hH76.kw) (hT.hp hH76)) (run_call1 call13 rfl) ?_
   intro w78 hH79
   refine A1 20 ?_
   refine AO.callP rfl (gsome rfl (bR (c := true) ((same_sc (qsc62.trans qsc73.symm))))) rfl hH79 (sP (sP (List.nil_sublist _))) (c_clearanceref13_Right _  _ (hs.mono hH79.kw)) (run_call1 call14 rfl) ?_
   intro w81 hH82
   refine AG 21 rfl rfl (bR (c := true) ((same_sc (qsc62.trans qsc73.symm)))) (hH82.sub (sP (sP (List.nil_sublist _)))) (fun w hS => run_eqlB underlying4 rfl rfl) ?_
   refine AT 22 rfl (hH82.sub (sP (sP (List.nil_sublist _)))) (fun w hS => run_pickT (bR (c := true) ((same_sc (qsc62.trans qsc73.symm)))) (v := B _) rfl) ?_
   refine AT 23 rfl (hH82.sub (sP (sP (List.nil_sublist _)))) (fun w hS => mV (B _) rfl) ?_
   refine A1 24 ?_
   refine AO.callP rfl (gsome rfl (bR (c := true) ((beq_self_eq_true _)))) rfl hH82 (sP (sP (List.nil_sublist _))) (c_clearancelaw13_alive   _ (hT.hp hH82)) (run_call0 call6) ?_
   intro w85 hH86
   refine AT 25 rfl (hH86.sub (sP (sP (List.nil_sublist _)))) (fun w hS => run_pickT (bR (c := true) ((beq_self_eq_true _))) (v := B _) rfl) ?_
   refine AT 26 rfl (hH86.sub (sP (sP (List.nil_sublist _)))) (fun w hS => aV (B _) rfl) ?_
   refine AD ?_
   refine CW.ret ?_
   refine outP1 Tryz.results3 (congrArg B ?_) hH86.below
   first | rfl | exact beq_self_eq_true _

end Go.Proofs.YtiaifdnlkdcbiaaGreatDoor.W
