/-
  The walks of the functions that the laws of this seat reach, part 2: each returns what its plain counterpart tells, and turns nothing that was there.
-/
import Derived.Test.YtningfhcklabmaaDoorProg
import Derived.Test.YtningfhcklabmaaDoorEnv
import Derived.Test.YtningfhcklabmaaDoorPlain
import Derived.Test.YtningfhcklabmaaDoorBase
import Derived.Test.YtningfhcklabmaaDoorOrd
import Derived.Test.YtningfhcklabmaaDoorRel
import Derived.Test.YtningfhcklabmaaDoorClo
import Derived.Test.YtningfhcklabmaaDoorCov
import Derived.Test.YtningfhcklabmaaDoorArr
import Derived.Test.YtningfhcklabmaaDoorHas
import Derived.Test.YtningfhcklabmaaDoorGrd
import Derived.Test.YtningfhcklabmaaDoorStr
import Derived.Test.YtningfhcklabmaaDoorVu
import Derived.Test.YtningfhcklabmaaDoorShp
import Derived.Test.YtningfhcklabmaaDoorShl
import Derived.Test.YtningfhcklabmaaDoorShq
import Derived.Test.YtningfhcklabmaaDoorShr
import Derived.Test.YtningfhcklabmaaDoorCut
import Derived.Test.YtningfhcklabmaaDoorRec
import Derived.Test.YtningfhcklabmaaDoorOut
import Derived.Test.YtningfhcklabmaaDoorScp
import Derived.Test.YtningfhcklabmaaDoorScq
import Derived.Test.YtningfhcklabmaaDoorByt
import Derived.Test.YtningfhcklabmaaDoorNod
import Derived.Test.YtningfhcklabmaaDoorSpl
import Derived.Test.YtningfhcklabmaaDoorSpb
import Derived.Test.YtningfhcklabmaaDoorSpt
import Derived.Test.YtningfhcklabmaaDoorSpn
import Derived.Test.YtningfhcklabmaaDoorSpx
import Derived.Test.YtningfhcklabmaaDoorSpy
import Derived.Test.YtningfhcklabmaaDoorMin
import Derived.Test.YtningfhcklabmaaDoorSpellBackPacesA
namespace Go.Proofs.YtningfhcklabmaaDoor.W
open Go Go.RowKit Go.Proofs.YtningfhcklabmaaDoor.E Go.Proofs.YtningfhcklabmaaDoor.M
set_option linter.unusedVariables false
set_option linter.unusedSimpArgs false
set_option maxRecDepth 100000
open Tryd

theorem c_spell_Elem (s : Shp) (n : NodeR) (w : World) (hs : ShpV (Kw w) s) (hn : NodeV (Kw w) n) (hT : Tab w) : Calls Tryd.prog 8 #[.agg (shpC s), .agg (nodeL n).toArray] w (Pure (.tuple #[.agg (elC (resE (elemG s.sh n.nd)).1), .agg (fltL (resE (elemG s.sh n.nd)).2).toArray]) w) := by
 have hsl := sh_len s
 have hm := hs.facs.sl.small
 unfold maxLen at hm
 have hnv := partsR_v (s := s) hn
 refine enter Tryd.func8 rfl Tryd.ntmps8 rfl ?_
 have hH := Hp.start w
 refine SR ?_
 refine RL.new rfl hH (f := fun b => (.pointer (some ⟨b, 0, none⟩))) (run_box (v := .agg _) rfl) ?_
 intro b3 w1 hH2
 refine RL.new rfl hH2 (f := fun b => (.pointer (some ⟨b, 0, none⟩))) (run_box (v := .agg _) rfl) ?_
 intro b6 w4 hH5
 refine RL.new rfl hH5 (f := fun b => (.pointer (some ⟨b, 0, none⟩))) (run_alloc zero_el) ?_
 intro b9 w7 hH8
 refine RL.new rfl hH8 (f := fun b => (.pointer (some ⟨b, 0, none⟩))) (run_alloc zero_flt) ?_
 intro b12 w10 hH11
 refine RL.nil ?_
 refine SR ?_
 refine RL.new rfl hH11 (f := fun b => (.pointer (some ⟨b, 0, none⟩))) (run_alloc zero_el) ?_
 intro b15 w13 hH14
 refine RL.nil ?_
 refine SR ?_
 refine V (run_ldA (cs := [B _, _]) underlying24 rfl rfl rfl (rangeAt_cells (hH14.blk (i := 4) rfl))) ?_
 refine V (run_ldA (cs := nodeL _) underlying34 rfl rfl rfl (rangeAt_cells (hH14.blk (i := 3) rfl))) ?_
 refine RL.callF rfl hH14 (c_spell_parts (Kw w) s n _ hH14.kw hs hn) (run_call2 call14 rfl rfl) ?_
 intro v18 w19 Z21 hH20 hp22
 have hH23 : Hp _ w19 (_ :: _ :: _ :: _ :: _ :: Z21) := hH20.zin0 (L := [_, _, _, _, _])
 obtain ⟨v24, rfl, hv25⟩ := hp22
 refine V (run_move (by conv => lhs; whnf)) ?_
 refine V (run_extract rfl rfl) ?_
 refine V (run_extract rfl (v := B _) rfl) ?_
 refine V (run_assign (by conv => lhs; whnf)) ?_
 refine V (aV (B _) rfl) ?_
 refine RL.nil ?_
 refine CW.seq ?_
 refine SR ?_
 refine V (mV (B _) rfl) ?_
 refine V (run_not rfl) ?_
 refine V (mV (B _) rfl) ?_
 refine RL.split (dj := 20) rfl (fun h28 => ?_) (fun h28 => ?_)
 ·refine RL.gF rfl rfl (bR (c := true) h28) rfl ?_
  refine RL.gF rfl rfl (bR (c := true) h28) rfl ?_
  refine RL.gF rfl rfl (bR (c := true) h28) rfl ?_
  refine V (run_pickT (bR (c := true) h28) (v := B true) rfl) ?_
  refine V (mV (B _) rfl) ?_
  refine RL.gF rfl rfl rfl rfl ?_
  refine RL.gF rfl rfl rfl rfl ?_
  refine RL.gF rfl rfl rfl rfl ?_
  refine V (run_pickT rfl (v := B true) rfl) ?_
  refine RL.nil ?_
  refine CW.condT rfl ?_
  refine CW.seq ?_
  refine CW.regionS (by kernel_rfl) hH23 (sP (sQ (sQ sR))) ?_
  intro w29 hH30
  refine AT 0 rfl (hH30.sub (sP (sQ (sQ sR)))) (fun w hS => run_ldEl underlying27 rfl rfl rfl (hS.blk (i := 0) rfl)) ?_
  refine AT 1 rfl (hH30.sub (sP (sQ (sQ sR)))) (fun w hS => fA underlying34 1 rfl sizeOf3 rfl) ?_
  refine AT 2 rfl (hH30.sub (sP (sQ (sQ sR)))) (fun w hS => run_ld underlying3 rfl rfl (hS.cell (i := 1) rfl (v := I _) rfl)) ?_
  refine AT 3 rfl (hH30.sub (sP (sQ (sQ sR)))) (fun w hS => run_bld (vs := [(0, I 4), (1, I _)]) rfl (built_fltL _ _)) ?_
  refine A1 4 ?_
  refine AO.set rfl gnone hH30 (j := 2) rfl (sP (sQ (sQ sR))) (run_stEl rfl rfl rfl (hH30.blk (i := 2) rfl)) ?_
  intro w33 hH34
  simp only [z0, z1] at hH34
  refine A1 5 ?_
  refine AO.set rfl gnone hH34 (j := 1) rfl (sP (sQ (sQ sR))) (run_stW (c' := (fltL _).toArray) rfl rfl rfl (by simp [fltL, Value.oneCell']) (hH34.blk (i := 1) rfl) rfl) ?_
  intro w37 hH38
  simp only [z0, z1] at hH38
  refine AD ?_
  refine CW.ret ?_
  refine outCC Tryd.results8 rfl rfl hH38 (i := 2) (j := 1) rfl rfl underlying27 rfl (by rw [elC_size]; rfl) underlying37 rfl rfl ⟨?_, hH38.below⟩
  first | exact res_er (el_no1 (nt ‹(!partB s n) = true›)) | exact res_er (el_no2 (nt ‹(!shR s.sh) = true›)) | exact res_er (el_no3 (nt ‹(!constB n.nd) = true›)) | exact res_er ((el_yes hP hR (nf ‹(!constB n.nd) = false›)).trans (ei_er hm ‹s1.1 = true›)) | exact res_ok ((el_yes hP hR (nf ‹(!constB n.nd) = false›)).trans (ei_ok (by omega) hm (by simp [*])))
 ·refine RL.gT rfl (bR (c := false) h28) ?_
  refine V (run_ldA (cs := [B _, _]) underlying24 rfl rfl rfl (rangeAt_cells (hH23.blk (i := 4) rfl))) ?_
  refine RL.gT rfl (bR (c := false) h28) ?_
  refine RL.callP rfl hH23 (c_shape_Right _  _ (hs.mono hH23.kw) (hT.hp hH23)) (run_call1 call11 rfl) ?_
  intro w39 hH40
  refine RL.gT rfl (bR (c := false) h28) ?_
  refine V (run_not rfl) ?_
  refine V (run_pickF (bR (c := false) h28) (v := B _) rfl) ?_
  refine V (mV (B _) rfl) ?_
  refine RL.split (dj := 25) rfl (fun h43 => ?_) (fun h43 => ?_)
  ·refine RL.gF rfl rfl (bR (c := true) h43) rfl ?_
   refine RL.gF rfl rfl (bR (c := true) h43) rfl ?_
   refine RL.gF rfl rfl (bR (c := true) h43) rfl ?_
   refine V (run_pickT (bR (c := true) h43) (v := B true) rfl) ?_
   refine RL.nil ?_
   refine CW.condT rfl ?_
   refine CW.seq ?_
   refine CW.regionS (by kernel_rfl) hH40 (sP (sQ (sQ sR))) ?_
   intro w44 hH45
   refine AT 0 rfl (hH45.sub (sP (sQ (sQ sR)))) (fun w hS => run_ldEl underlying27 rfl rfl rfl (hS.blk (i := 0) rfl)) ?_
   refine AT 1 rfl (hH45.sub (sP (sQ (sQ sR)))) (fun w hS => fA underlying34 1 rfl sizeOf3 rfl) ?_
   refine AT 2 rfl (hH45.sub (sP (sQ (sQ sR)))) (fun w hS => run_ld underlying3 rfl rfl (hS.cell (i := 1) rfl (v := I _) rfl)) ?_
   refine AT 3 rfl (hH45.sub (sP (sQ (sQ sR)))) (fun w hS => run_bld (vs := [(0, I 4), (1, I _)]) rfl (built_fltL _ _)) ?_
   refine A1 4 ?_
   refine AO.set rfl gnone hH45 (j := 2) rfl (sP (sQ (sQ sR))) (run_stEl rfl rfl rfl (hH45.blk (i := 2) rfl)) ?_
   intro w48 hH49
   simp only [z0, z1] at hH49
   refine A1 5 ?_
   refine AO.set rfl gnone hH49 (j := 1) rfl (sP (sQ (sQ sR))) (run_stW (c' := (fltL _).toArray) rfl rfl rfl (by simp [fltL, Value.oneCell']) (hH49.blk (i := 1) rfl) rfl) ?_
   intro w52 hH53
   simp only [z0, z1] at hH53
   refine AD ?_
   refine CW.ret ?_
   refine outCC Tryd.results8 rfl rfl hH53 (i := 2) (j := 1) rfl rfl underlying27 rfl (by rw [elC_size]; rfl) underlying37 rfl rfl ⟨?_, hH53.below⟩
   first | exact res_er (el_no1 (nt ‹(!partB s n) = true›)) | exact res_er (el_no2 (nt ‹(!shR s.sh) = true›)) | exact res_er (el_no3 (nt ‹(!constB n.nd) = true›)) | exact res_er ((el_yes hP hR (nf ‹(!constB n.nd) = false›)).trans (ei_er hm ‹s1.1 = true›)) | exact res_ok ((el_yes hP hR (nf ‹(!constB n.nd) = false›)).trans (ei_ok (by omega) hm (by simp [*])))
  ·refine RL.gT rfl (bR (c := false) h43) ?_
   refine V (run_ldA (cs := nodeL _) underlying34 rfl rfl rfl (rangeAt_cells (hH40.blk (i := 3) rfl))) ?_
   refine RL.gT rfl (bR (c := false) h43) ?_
   refine RL.callP rfl hH40 (c_term_IsConst _  _ (hn.mono hH40.kw)) (run_call1 call9 rfl) ?_
   intro w54 hH55
   refine RL.gT rfl (bR (c := false) h43) ?_
   refine V (run_not rfl) ?_
   refine V (run_pickF (bR (c := false) h43) (v := B _) rfl) ?_
   refine RL.nil ?_
   refine CW.cond rfl (fun h58 => ?_) (fun h58 => ?_)
   ·refine CW.seq ?_
    refine CW.regionS (by kernel_rfl) hH55 (sP (sQ (sQ sR))) ?_
    intro w59 hH60
    refine AT 0 rfl (hH60.sub (sP (sQ (sQ sR)))) (fun w hS => run_ldEl underlying27 rfl rfl rfl (hS.blk (i := 0) rfl)) ?_
    refine AT 1 rfl (hH60.sub (sP (sQ (sQ sR)))) (fun w hS => fA underlying34 1 rfl sizeOf3 rfl) ?_
    refine AT 2 rfl (hH60.sub (sP (sQ (sQ sR)))) (fun w hS => run_ld underlying3 rfl rfl (hS.cell (i := 1) rfl (v := I _) rfl)) ?_
    refine AT 3 rfl (hH60.sub (sP (sQ (sQ sR)))) (fun w hS => run_bld (vs := [(0, I 4), (1, I _)]) rfl (built_fltL _ _)) ?_
    refine A1 4 ?_
    refine AO.set rfl gnone hH60 (j := 2) rfl (sP (sQ (sQ sR))) (run_stEl rfl rfl rfl (hH60.blk (i := 2) rfl)) ?_
    intro w63 hH64
    simp only [z0, z1] at hH64
    refine A1 5 ?_
    refine AO.set rfl gnone hH64 (j := 1) rfl (sP (sQ (sQ sR))) (run_stW (c' := (fltL _).toArray) rfl rfl rfl (by simp [fltL, Value.oneCell']) (hH64.blk (i := 1) rfl) rfl) ?_
    intro w67 hH68
    simp only [z0, z1] at hH68
    refine AD ?_
    refine CW.ret ?_
    refine outCC Tryd.results8 rfl rfl hH68 (i := 2) (j := 1) rfl rfl underlying27 rfl (by rw [elC_size]; rfl) underlying37 rfl rfl ⟨?_, hH68.below⟩
    first | exact res_er (el_no1 (nt ‹(!partB s n) = true›)) | exact res_er (el_no2 (nt ‹(!shR s.sh) = true›)) | exact res_er (el_no3 (nt ‹(!constB n.nd) = true›)) | exact res_er ((el_yes hP hR (nf ‹(!constB n.nd) = false›)).trans (ei_er hm ‹s1.1 = true›)) | exact res_ok ((el_yes hP hR (nf ‹(!constB n.nd) = false›)).trans (ei_ok (by omega) hm (by simp [*])))
   ·refine CW.skip ?_
    refine SR ?_
    refine V (run_bld (vs := []) rfl built_rdrL0) ?_
    refine RL.new rfl hH55 (f := fun b => (.pointer (some ⟨b, 0, none⟩))) (run_box (v := .agg _) rfl) ?_
    intro b71 w69 hH70
    refine V (aV (Pn _ _) rfl) ?_
    refine RL.nil ?_
    refine CW.seq ?_
    refine SR ?_
    refine V (fA underlying24 1 rfl sizeOf22 rfl) ?_
    refine V (run_ld underlying22 rfl rfl (hH70.cell (i := 5) rfl rfl)) ?_
    refine V (run_lenSl (hs.facs.sl.hp hH70) rfl underlying22 rfl) ?_
    refine V (mV (I 0) rfl) ?_
    refine RL.nil ?_
    refine CW.block ?_
    have hP := nf ‹(!partB s n) = false›
    have hR := nf ‹(!shR s.sh) = false›
    have hpl := parts_len hP hR
    have hzl := zip_len hpl
    have h8 := (sh_spec hR).1
    refine CW.loop (G := (Int) × (El) × (RS)) (fun (⟨k, e1, s1⟩ : (Int) × (El) × (RS)) s' w' => (Fr [10, 11, 39, 40, 41, 42, 43, 44, 45, 46, 47, 48, 49, 50, 51, 52, 53] _ s') ∧ (Hp w w' (.blk b71 (.cells (#[B s1.1, I s1.2]) 57 (0, 0)) :: .blk b15 (.cells (elC e1) 27 (0, 0)) :: _)) ∧ (s' 39 = I k) ∧ (0 ≤ k) ∧ (k ≤ s.facs.length) ∧ (EInv (zipF s n) k e1 s1)) (fun (⟨k, e1, s1⟩ : (Int) × (El) × (RS)) => (s.facs.length - k).toNat) ((0, el0, (false, 0))) ⟨Fr.refl _ _, hH70, rfl, (by omega), (by omega), ei_0⟩ ?_
    rintro ⟨k, e1, s1⟩ sg72 w72 ⟨fr72, hH72, e39_72, h0, hk, hm⟩
    have e4_72 : sg72 4 = Pn _ _ := (fr72 4 rfl).trans rfl
    have e5_72 : sg72 5 = Pn _ _ := (fr72 5 rfl).trans rfl
    have e6_72 : sg72 6 = Pn _ _ := (fr72 6 rfl).trans rfl
    have e7_72 := (fr72 7 rfl).trans (by conv => lhs; whnf)
    have e9_72 : sg72 9 = Pn _ _ := (fr72 9 rfl).trans rfl
    have e37_72 := (fr72 37 rfl).trans (by conv => lhs; whnf)
    have e38_72 : sg72 38 = I _ := (fr72 38 rfl).trans rfl
    refine SR ?_
    refine V (run_lss e39_72 e38_72) ?_
    refine RL.nil ?_
    refine CW.seq ?_
    refine CW.condP rfl (fun h74 => ?_) (fun h74 => ?_)
    ·refine CW.skip ?_
     refine CW.seq ?_
     refine CW.block ?_
     refine SR ?_
     refine V (run_move e39_72) ?_
     refine V (run_indexAddrS (hs.facs.sl.hp hH72) underlying22 sizeOf48 e37_72 e39_72 (by omega)) ?_
     refine V (run_ldE (dv := fac0) facL_len (hs.facs.sl.hp hH72) underlying48 rfl rfl rfl (by omega)) ?_
     refine RL.new rfl hH72 (f := fun b => (.pointer (some ⟨b, 0, none⟩))) (run_alloc zero_fac) ?_
     intro b77 w75 hH76
     refine V (aV (I _) rfl) ?_
     refine RL.set hH76 (i := 0) rfl (run_stFac (hs.at (by omega) (by omega)) rfl rfl rfl (hH76.blk (i := 0) rfl)) ?_
     intro w78 hH79
     simp only [z0, z1] at hH79
     refine RL.nil ?_
     refine CW.regionS (by kernel_rfl) hH79 (sP (sQ (sQ sR))) ?_
     intro w80 hH81
     refine AT 0 rfl (hH81.sub (sP (sQ (sQ sR)))) (fun w hS => mV (I _) rfl) ?_
     refine AT 1 rfl (hH81.sub (sP (sQ (sQ sR)))) (fun w hS => run_move e9_72) ?_
     refine AT 2 rfl (hH81.sub (sP (sQ (sQ sR)))) (fun w hS => run_ldFac underlying48 rfl rfl rfl (hS.blk (i := 0) rfl)) ?_
     refine AT 3 rfl (hH81.sub (sP (sQ (sQ sR)))) (fun w hS => run_move e7_72) ?_
     refine AT 4 rfl (hH81.sub (sP (sQ (sQ sR)))) (fun w hS => mV (I _) rfl) ?_
     refine AT 5 rfl (hH81.sub (sP (sQ (sQ sR)))) (fun w hS => run_indexAddrS (hv25.mono (hS.kz (Le.refl _) (fun x hx => (mT (mT (mT (mT (mT hx)))))))).sl underlying32 sizeOf34 rfl rfl (by omega)) ?_
     refine AT 6 rfl (hH81.sub (sP (sQ (sQ sR)))) (fun w hS => run_ldE (dv := node0) nodeL_len (hv25.mono (hS.kz (Le.refl _) (fun x hx => (mT (mT (mT (mT (mT hx)))))))).sl underlying34 rfl rfl rfl (by omega)) ?_
     refine A1 7 ?_
     refine AO.callT rfl gnone rfl (c_spell_reader_word _ _ _ _ _ _ _ hT (hs.at h0 ‹k < _›) (hnv.at h0 (by omega)) (hH81.perm (((pC pR).trans pS).trans (pC pR)))) (run_call3 call15 rfl rfl rfl) (fun u w' ⟨_, _, _, _, h⟩ => (h.sub (sQ (sP (sQ sR))))) ?_
     rintro _ w87 ⟨y84, s85, rfl, e86, h88⟩
     have hH89 := h88.perm (((pC pR).trans pS).trans (pC pR))
     refine AT 8 rfl (hH89.sub (sP (sQ (sQ sR)))) (fun w hS => run_indexAddrA underlying27 sizeOf25 e6_72 rfl (by omega)) ?_
     refine A1 9 ?_
     refine AO.set rfl gnone hH89 (j := 2) rfl (sP (sQ (sQ sR))) (run_st rfl rfl (v := U _) rfl rfl rfl (hH89.blk (i := 2) rfl) (by rw [elC_size]; omega)) ?_
     intro w92 hH93
     simp only [z0, z1] at hH93
     rw [elC_put] at hH93
     refine AD ?_
     refine CW.region ?_
     refine V (run_add e39_72 rfl (by omega)) ?_
     refine V (mV (I _) rfl) ?_
     refine RL.nil ?_
     refine ⟨(k + 1, _, _), ?_, fr72.u4.u4.u4.u4.u1, (hH93.sub (sQ sR)), (congrArg I (by first | rfl | omega)), ?_, ?_, ?_⟩
     ·((try dsimp only); omega)
     ·omega
     ·omega
     ·exact ei_next h0 (by omega) hm (by rw [zip_get hpl h0 ‹k < _›]; exact ‹okR _ _ _ _›)
    ·refine CW.exit (id := 0) rfl ?_
     refine CW.seq ?_
     refine SR ?_
     refine V (run_move e9_72) ?_
     refine V (run_nilCheck rfl) ?_
     refine V (fA underlying57 0 rfl sizeOf4 rfl) ?_
     refine V (run_ld underlying4 rfl rfl (hH72.cell (i := 0) rfl (v := B _) rfl)) ?_
     refine RL.nil ?_
     refine CW.cond rfl (fun h95 => ?_) (fun h95 => ?_)
     ·refine CW.seq ?_
      refine CW.regionS (by kernel_rfl) hH72 (sP (sP (sQ (sQ sR)))) ?_
      intro w96 hH97
      refine AT 0 rfl (hH97.sub (sP (sP (sQ (sQ sR))))) (fun w hS => run_bld (vs := []) rfl (built_el0)) ?_
      refine AT 1 rfl (hH97.sub (sP (sP (sQ (sQ sR))))) (fun w hS => run_move e9_72) ?_
      refine AT 2 rfl (hH97.sub (sP (sP (sQ (sQ sR))))) (fun w hS => run_nilCheck rfl) ?_
      refine AT 3 rfl (hH97.sub (sP (sP (sQ (sQ sR))))) (fun w hS => fA underlying57 1 rfl sizeOf3 rfl) ?_
      refine AT 4 rfl (hH97.sub (sP (sP (sQ (sQ sR))))) (fun w hS => run_ld underlying3 rfl rfl (hS.cell (i := 0) rfl (v := I _) rfl)) ?_
      refine AT 5 rfl (hH97.sub (sP (sP (sQ (sQ sR))))) (fun w hS => run_bld (vs := [(0, I 4), (1, I _)]) rfl (built_fltL _ _)) ?_
      refine A1 6 ?_
      refine AO.set rfl gnone hH97 (j := 3) rfl (sP (sP (sQ (sQ sR)))) (run_stEl rfl e4_72 rfl (hH97.blk (i := 3) rfl)) ?_
      intro w100 hH101
      simp only [z0, z1] at hH101
      refine A1 7 ?_
      refine AO.set rfl gnone hH101 (j := 2) rfl (sP (sP (sQ (sQ sR)))) (run_stW (c' := (fltL _).toArray) rfl e5_72 rfl (by simp [fltL, Value.oneCell']) (hH101.blk (i := 2) rfl) rfl) ?_
      intro w104 hH105
      simp only [z0, z1] at hH105
      refine AD ?_
      refine CW.ret ?_
      refine outCC Tryd.results8 e4_72 e5_72 hH105 (i := 3) (j := 2) rfl rfl underlying27 rfl (by rw [elC_size]; rfl) underlying37 rfl rfl ⟨?_, hH105.below⟩
      first | exact res_er (el_no1 (nt ‹(!partB s n) = true›)) | exact res_er (el_no2 (nt ‹(!shR s.sh) = true›)) | exact res_er (el_no3 (nt ‹(!constB n.nd) = true›)) | exact res_er ((el_yes hP hR (nf ‹(!constB n.nd) = false›)).trans (ei_er hm ‹s1.1 = true›)) | exact res_ok ((el_yes hP hR (nf ‹(!constB n.nd) = false›)).trans (ei_ok (by omega) hm (by simp [*])))
     ·refine CW.skip ?_
      refine SR ?_
      refine V (run_ldEl underlying27 rfl rfl e6_72 (hH72.blk (i := 1) rfl)) ?_
      refine V (run_bld (vs := []) rfl (built_fltL0)) ?_
      refine RL.set hH72 (i := 3) rfl (run_stEl rfl e4_72 rfl (hH72.blk (i := 3) rfl)) ?_
      intro w106 hH107
      simp only [z0, z1] at hH107
      refine RL.set hH107 (i := 2) rfl (run_stW (c' := (fltL _).toArray) rfl e5_72 rfl (by simp [fltL, Value.oneCell']) (hH107.blk (i := 2) rfl) rfl) ?_
      intro w108 hH109
      simp only [z0, z1] at hH109
      refine RL.nil ?_
      refine CW.ret ?_
      refine outCC Tryd.results8 e4_72 e5_72 hH109 (i := 3) (j := 2) rfl rfl underlying27 rfl (by rw [elC_size]; rfl) underlying37 rfl rfl ⟨?_, hH109.below⟩
      first | exact res_er (el_no1 (nt ‹(!partB s n) = true›)) | exact res_er (el_no2 (nt ‹(!shR s.sh) = true›)) | exact res_er (el_no3 (nt ‹(!constB n.nd) = true›)) | exact res_er ((el_yes hP hR (nf ‹(!constB n.nd) = false›)).trans (ei_er hm ‹s1.1 = true›)) | exact res_ok ((el_yes hP hR (nf ‹(!constB n.nd) = false›)).trans (ei_ok (by omega) hm (by simp [*])))

theorem c_spell_constant_1_1 (W0 : World) (b c : Nat) (v : Value) (l : List Int) (f : Fac) (i : Int) (hi : 0 ≤ i ∧ i < f.names.length) (w : World) (hH : Hp W0 w [.row v 51 2 l.length ((l.map (wdN f.names)).flatMap wdL), .blk b (.cells #[v] 31 (0, 0))]) (hlen : l.length ≤ 64) (hf : FacV (Kw W0) f) (hc : W0.heap[c]? = some (.cells (facC f) 48 (0, 0))) : Calls Tryd.prog 30 #[I i, .pointer (some ⟨b, 0, none⟩), .pointer (some ⟨c, 0, none⟩)] w (Ret fun u w' => u = B true ∧ ∃ v', Hp W0 w' [.row v' 51 2 (l ++ [i]).length (((l ++ [i]).map (wdN f.names)).flatMap wdL), .blk b (.cells #[v'] 31 (0, 0))]) := by
 refine enter Tryd.func30 rfl Tryd.ntmps30 rfl ?_
 refine SR ?_
 refine V (aV (B false) rfl) ?_
 refine RL.nil ?_
 refine CW.seq ?_
 refine CW.regionS (by kernel_rfl) hH (sQ (sQ sR)) ?_
 intro w1 hH2
 refine AT 1 rfl (hH2.sub (sQ (sQ sR))) (fun w hS => fA underlying48 1 rfl sizeOf43 rfl) ?_
 refine AT 2 rfl (hH2.sub (sQ (sQ sR))) (fun w hS => run_ld underlying43 rfl rfl (hS.extCell hc rfl)) ?_
 refine AT 3 rfl (hH2.sub (sQ (sQ sR))) (fun w hS => mV (I _) rfl) ?_
 refine AT 4 rfl (hH2.sub (sQ (sQ sR))) (fun w hS => run_indexAddrS (hf.names.sl.hp hS) underlying43 sizeOf9 rfl rfl (by omega)) ?_
 refine AT 5 rfl (hH2.sub (sQ (sQ sR))) (fun w hS => run_ld underlying9 rfl rfl ((hf.names.sl.hp hS).cell _ _ (txL_at (by omega)))) ?_
 refine AT 6 rfl (hH2.sub (sQ (sQ sR))) (fun w hS => run_bld (vs := [(0, S _)]) rfl (built_wdLs _)) ?_
 refine AN.two 0 7 (by kernel_rfl) ?_ ?_
 ·refine AO.read rfl gnone rfl hH2 (sQ (sQ sR)) (run_ld underlying31 rfl rfl (hH2.cell (i := 1) rfl rfl)) ?_
  refine A1 7 ?_
  refine AO.new rfl gnone rfl hH2 (sQ (sQ sR)) (f := fun b => .slice (some ⟨b, 0, none⟩) 1 1) (run_mkRecs wdL_len underlying31 rfl rfl rfl (l := [_]) rfl (by decide) (by decide) rfl) ?_
  intro b7 w5 hH6
  refine A1 8 ?_
  refine AO.app rfl gnone rfl hH6 (j := 1) rfl (fun _ => (sQ (sQ (sQ sR)))) (Hp.slFlat wdL_len hH6 (i := 0) (l := [_]) rfl (by simp [maxLen])) rfl rfl underlying31 rfl rfl (size := 2) (bytes := 24) rfl rfl rfl (by decide) (by simp [wdL, Value.oneCell']) (by simp only [List.length_cons, List.length_nil]; omega) (by simp only [maxLen, List.length_cons, List.length_nil]; omega) ?_
  intro v10 w8 hH9
  simp only [z0, z1] at hH9
  refine A1 9 ?_
  refine AO.set rfl gnone hH9 (j := 2) rfl (sQ (sQ (sQ sR))) (run_st rfl rfl (v := v10) rfl (row_cells (hH9.get (i := 1) rfl)).1 (row_cells (hH9.get (i := 1) rfl)).2 (hH9.blk (i := 2) rfl) (by first | decide | simp)) ?_
  intro w11 hH12
  simp only [z0, z1] at hH12
  refine AD ?_
  refine SR ?_
  refine V (aV (B true) rfl) ?_
  refine RL.nil ?_
  refine CW.ret ?_
  exact out1 Tryd.results30 rfl ⟨rfl, (v10 : Value), Hp.conv hH12.tail (by simp [wdN])⟩
 ·refine AO.new rfl gnone rfl hH2 (sQ (sQ sR)) (f := fun b => .slice (some ⟨b, 0, none⟩) 1 1) (run_mkRecs wdL_len underlying31 rfl rfl rfl (l := [_]) rfl (by decide) (by decide) rfl) ?_
  intro b15 w13 hH14
  refine A1 0 ?_
  refine AO.read rfl gnone rfl hH14 (sQ (sQ (sQ sR))) (run_ld underlying31 rfl rfl (hH14.cell (i := 2) rfl rfl)) ?_
  refine A1 8 ?_
  refine AO.app rfl gnone rfl hH14 (j := 1) rfl (fun _ => (sQ (sQ (sQ sR)))) (Hp.slFlat wdL_len hH14 (i := 0) (l := [_]) rfl (by simp [maxLen])) rfl rfl underlying31 rfl rfl (size := 2) (bytes := 24) rfl rfl rfl (by decide) (by simp [wdL, Value.oneCell']) (by simp only [List.length_cons, List.length_nil]; omega) (by simp only [maxLen, List.length_cons, List.length_nil]; omega) ?_
  intro v20 w18 hH19
  simp only [z0, z1] at hH19
  refine A1 9 ?_
  refine AO.set rfl gnone hH19 (j := 2) rfl (sQ (sQ (sQ sR))) (run_st rfl rfl (v := v20) rfl (row_cells (hH19.get (i := 1) rfl)).1 (row_cells (hH19.get (i := 1) rfl)).2 (hH19.blk (i := 2) rfl) (by first | decide | simp)) ?_
  intro w21 hH22
  simp only [z0, z1] at hH22
  refine AD ?_
  refine SR ?_
  refine V (aV (B true) rfl) ?_
  refine RL.nil ?_
  refine CW.ret ?_
  exact out1 Tryd.results30 rfl ⟨rfl, (v20 : Value), Hp.conv hH22.tail (by simp [wdN])⟩

theorem c_spell_constant_1 (K : Vu) (c : Nat) (f : Fac) (s : BitVec 64) (hw : subB s (below f.names.length) = true) (w : World) (hK : Le K (Kw w)) (hf : FacV (Kw w) f) (hc : w.heap[c]? = some (.cells (facC f) 48 (0, 0))) (hT : Tab w) : Calls Tryd.prog 28 #[U s, .pointer (some ⟨c, 0, none⟩)] w (PureF K (fun K' u => SlV K' u 2 (namesOf f.names s).length ((namesOf f.names s).flatMap wdL)) w) := by
 refine enter Tryd.func28 rfl Tryd.ntmps28 rfl ?_
 have hH := Hp.start w
 refine SR ?_
 refine V (aV (.slice none 0 0) rfl) ?_
 refine RL.nil ?_
 refine SR ?_
 refine RL.new rfl hH (f := fun b => (.pointer (some ⟨b, 0, none⟩))) (run_alloc Tryd.zeroValue31) ?_
 intro b3 w1 hH2
 have hH4 := hH2.nilRow 51 2
 refine RL.nil ?_
 refine SR ?_
 refine V (mV (U _) rfl) ?_
 refine V (run_mkF2 (by conv => lhs; whnf) (by conv => lhs; whnf)) ?_
 refine RL.call rfl (run_call2 call29 (v1 := U s) rfl (v2 := .func (.func 30) #[] #[.pointer (some ⟨b3, 0, none⟩), .pointer (some ⟨c, 0, none⟩)]) rfl) (c_mask_Each 30 _ (fun l w' => ∃ v, Hp w w' [.row v 51 2 l.length ((l.map (wdN f.names)).flatMap wdL), .blk b3 (.cells #[v] 31 (0, 0))]) (fun _ _ => False) s _ call30 (fun l w' w'' h hb => h.imp fun v h => h.call hb) (fun l w' h => h.elim fun v h => hT.hp h) (fun l i r w' he h => h.elim fun v h => by
   have hl64 : l.length ≤ 64 := by have := lst_len s; rw [he] at this; simp at this; omega
   have hi : 0 ≤ i ∧ i < f.names.length := lst_in hw (by rw [he]; simp)
   refine Ret.calls (c_spell_constant_1_1 w b3 c v l f i hi w' h hl64 hf hc) ?_
   intro u w2 hq
   exact ⟨true, hq.1, fun _ => hq.2, fun h => by cases h⟩) ⟨.slice none 0 0, hH4⟩) ?_
 rintro u w5 ⟨rfl, hor⟩
 obtain ⟨v7, hH6⟩ := hor.resolve_right (fun ⟨_, _, _, _, h⟩ => h)
 refine RL.nil ?_
 refine SR ?_
 refine V (run_ld underlying31 rfl rfl (hH6.cell (i := 1) rfl rfl)) ?_
 refine V (run_assign (by conv => lhs; whnf)) ?_
 refine RL.nil ?_
 refine CW.ret ?_
 obtain ⟨Z8, hz9, hv10, -⟩ := hH6.frz (K)
 have hH11 : Hp _ w5 (_ :: Z8) := hz9.zin0 (L := [_])
 refine out1 Tryd.results28 rfl ⟨Z8, (hH11.sub (sQ sR)), ?_⟩
 rw [namesOf_def, List.length_map]; exact hv10

theorem c_spell_constant (K : Vu) (f : Fac) (s : BitVec 64) (hR : factorR f.fc = true) (hw : wordF f.fc s = true) (w : World) (hK : Le K (Kw w)) (hf : FacV K f) (hT : Tab w) : Calls Tryd.prog 13 #[.agg (facC f), U s] w (PureF K (fun K' u => ∃ n : NodeR, u = .agg (nodeL n).toArray ∧ n.nd = constF f.fc s ∧ NodeV K' n) w) := by
 have hm1 := hf.names.small
 unfold maxLen at hm1
 have hno := (named_spec (fac_named hR)).1
 refine enter Tryd.func13 rfl Tryd.ntmps13 rfl ?_
 have hH := Hp.start w
 refine SR ?_
 refine RL.new rfl hH (f := fun b => (.pointer (some ⟨b, 0, none⟩))) (run_box (v := .agg _) rfl) ?_
 intro b3 w1 hH2
 refine RL.new rfl hH2 (f := fun b => (.pointer (some ⟨b, 0, none⟩))) (run_alloc Tryd.zeroValue34) ?_
 intro b6 w4 hH5
 refine RL.nil ?_
 refine SR ?_
 refine V (run_mkF1 (by conv => lhs; whnf)) ?_
 refine V (aV (.func _ _ _) rfl) ?_
 refine RL.nil ?_
 refine SR ?_
 refine V (run_ldFac underlying48 rfl rfl rfl (hH5.blk (i := 1) rfl)) ?_
 refine RL.callP rfl hH5 (c_spell_kind _  _) (run_call1 call31 rfl) ?_
 intro w7 hH8
 refine V (run_bld (vs := [(0, I (kindN f.fc))]) rfl (built_nodeK (kindN f.fc))) ?_
 refine RL.new rfl hH8 (f := fun b => (.pointer (some ⟨b, 0, none⟩))) (run_alloc Tryd.zeroValue34) ?_
 intro b11 w9 hH10
 refine RL.set hH10 (i := 0) rfl (run_stW (c' := (nodeL (kindR (kindN f.fc) tx0 (.slice none 0 0) [])).toArray) rfl rfl rfl (nodeL_one (kindR_v (SlV.nil (Kw w) _))) (hH10.blk (i := 0) rfl) rfl) ?_
 intro w12 hH13
 simp only [z0, z1] at hH13
 have hH14 := hH13.nilRow 34 5
 refine RL.nil ?_
 refine CW.seq ?_
 refine SR ?_
 refine V (fA underlying48 0 rfl sizeOf3 rfl) ?_
 refine V (run_ld underlying3 rfl rfl (hH14.cell (i := 3) rfl (v := I _) rfl)) ?_
 refine RL.nil ?_
 refine CW.block ?_
 refine SR ?_
 refine V (run_eql rfl rfl) ?_
 refine V (aV (B _) rfl) ?_
 refine RL.nil ?_
 refine CW.condP rfl (fun h16 => ?_) (fun h16 => ?_)
 ·refine CW.region ?_
  refine V (mV (.func _ _ _) rfl) ?_
  refine V (mV (U _) rfl) ?_
  refine RL.callF rfl hH14 (c_spell_constant_1 K b3 f s (sub_2 (f := f.fc) ‹f.kind = 2› hw) _ (hK.trans hH14.kw) (hf.mono (hK.trans hH14.kw)) (hH14.blk (i := 3) rfl) (hT.hp hH14)) (run_callC1 call28 (cs := [.pointer (some ⟨b3, 0, none⟩)]) rfl rfl) ?_
  intro v19 w20 Z22 hH21 hp23
  have hH24 : Hp _ w20 (_ :: _ :: _ :: _ :: Z22) := hH21.zin0 (L := [_, _, _, _])
  have hv25 := hp23
  refine V (fA underlying34 3 rfl sizeOf31 rfl) ?_
  refine RL.set hH24 (i := 1) rfl (run_st rfl rfl (v := v19) rfl (one_slv hv25).2 (one_slv hv25).1 (hH24.blk (i := 1) rfl) (by first | (show 3 < 5; decide) | decide | (simp only [List.size_toArray, nodeL_len]; decide) | simp)) ?_
  intro w26 hH27
  simp only [z0, z1] at hH27
  refine RL.nil ?_
  refine SR ?_
  have hN28 : NodeV (Kz K Z22) ((kindR (kindN f.fc) tx0 v19 (namesOf f.names s))) := kindR_v hv25
  refine V (run_ldA (cs := nodeL ((kindR (kindN f.fc) tx0 v19 (namesOf f.names s)))) underlying34 rfl rfl rfl (rangeAt_cells (hH27.blk (i := 1) rfl))) ?_
  refine RL.set hH27 (i := 2) rfl (run_stW (c' := (nodeL ((kindR (kindN f.fc) tx0 v19 (namesOf f.names s)))).toArray) rfl rfl rfl (nodeL_one hN28) (hH27.blk (i := 2) rfl) rfl) ?_
  intro w29 hH30
  simp only [z0, z1] at hH30
  refine RL.nil ?_
  refine CW.ret ?_
  refine outCg Tryd.results13 rfl hH30 (i := 2) rfl underlying34 rfl rfl ⟨Z22, (hH30.sub (sQ (sQ (sQ (sQ sR))))), (kindR (kindN f.fc) tx0 v19 (namesOf f.names s)), rfl, ?_, hN28⟩
  exact nd_2 ‹_›
 ·refine SR ?_
  refine V (run_eql rfl rfl) ?_
  refine V (aV (B _) rfl) ?_
  refine RL.nil ?_
  refine CW.condP rfl (fun h32 => ?_) (fun h32 => ?_)
  ·refine SR ?_
   refine V (fA underlying48 2 rfl sizeOf46 rfl) ?_
   refine V (run_ldBR underlying46 rfl rfl rfl (hH14.blk (i := 3) rfl)) ?_
   refine V (mV (U _) rfl) ?_
   refine RL.callP rfl hH14 (c_grid_Owners _ _  _) (run_call2 call33 rfl rfl) ?_
   intro w33 hH34
   refine RL.callR rfl hH34 (c_mask_List _  _ (hT.hp hH34)) (run_call1 call32 rfl) ?_
   intro v37 w35 hH36
   refine V (run_lenSl (hH36.sl (i := 0) rfl) rfl underlying73 rfl) ?_
   refine V (mV (I 0) rfl) ?_
   refine RL.nil ?_
   refine CW.block ?_
   refine CW.loop (G := (Int) × (Value) × (List NodeR) × (List Ent)) (fun (⟨k, kv, gs, Z⟩ : (Int) × (Value) × (List NodeR) × (List Ent)) s' w' => (Fr [8, 47, 48, 49, 50, 51, 52, 53, 54, 55, 56, 57, 58, 59, 60, 61, 62, 63, 64, 65, 66, 67, 68, 69] _ s') ∧ (Hp w w' (_ :: .row kv 34 5 (gs.length) (gs.flatMap nodeL) :: .blk b11 (.cells ((nodeL (kidsR (kindN f.fc) kv gs)).toArray) 34 (0, 0)) :: _ :: _ :: Z)) ∧ (s' 47 = I k) ∧ (0 ≤ k) ∧ (k ≤ (lst (ownersG f.rel s)).length) ∧ (gs.map NodeR.nd = rulesTo f.fc s k) ∧ (NodesV (Kz K Z) gs) ∧ ((gs.length : Int) = k)) (fun (⟨k, kv, gs, Z⟩ : (Int) × (Value) × (List NodeR) × (List Ent)) => ((lst (ownersG f.rel s)).length - k).toNat) ((0, (.slice none 0 0 : Value), [], [])) ⟨Fr.refl _ _, hH36, rfl, (by omega), (by omega), rfl, NodesV.nil _, rfl⟩ ?_
   rintro ⟨k, kv, gs, Z⟩ sg38 w38 ⟨fr38, hH38, e47_38, h0, hk, hm, hF, hb⟩
   have e1_38 : sg38 1 = U _ := (fr38 1 rfl).trans rfl
   have e2_38 : sg38 2 = Pn _ _ := (fr38 2 rfl).trans rfl
   have e4_38 : sg38 4 = Pn _ _ := (fr38 4 rfl).trans rfl
   have e5_38 : sg38 5 = .func _ _ _ := (fr38 5 rfl).trans rfl
   have e6_38 : sg38 6 = Pn _ _ := (fr38 6 rfl).trans rfl
   have e45_38 := (fr38 45 rfl).trans (by conv => lhs; whnf)
   have e46_38 : sg38 46 = I _ := (fr38 46 rfl).trans rfl
   have hl64 := lst_len (ownersG f.rel s)
   refine SR ?_
   refine V (run_lss e47_38 e46_38) ?_
   refine RL.nil ?_
   refine CW.seq ?_
   refine CW.condP rfl (fun h40 => ?_) (fun h40 => ?_)
   ·refine CW.skip ?_
    refine CW.seq ?_
    refine CW.block ?_
    refine SR ?_
    refine V (run_indexAddrS (hH38.sl (i := 0) rfl) underlying73 sizeOf3 e45_38 e47_38 (by first | omega | exact own_at (f := f.fc) hR ‹f.kind = 3› s h0 ‹k < _› | exact pt_in (f := f.fc) hR ‹f.kind = 4› hw | exact lv_in (f := f.fc) (kind_cases hR ‹_› ‹_› ‹_›) hw)) ?_
    refine V (run_ld underlying3 rfl rfl ((hH38.sl (i := 0) rfl).cell _ _ (map_at (by omega)))) ?_
    refine V (aV (I _) rfl) ?_
    refine RL.nil ?_
    refine CW.regionS (by kernel_rfl) hH38 (sP (sQ (sQ sR))) ?_
    intro w41 hH42
    refine AT 0 rfl (hH42.sub (sP (sQ (sQ sR)))) (fun w hS => fA underlying34 4 rfl sizeOf32 e6_38) ?_
    refine AT 2 rfl (hH42.sub (sP (sQ (sQ sR)))) (fun w hS => fA underlying48 1 rfl sizeOf43 e2_38) ?_
    refine AT 3 rfl (hH42.sub (sP (sQ (sQ sR)))) (fun w hS => run_ld underlying43 rfl rfl (hS.cell (i := 2) rfl rfl)) ?_
    refine AT 4 rfl (hH42.sub (sP (sQ (sQ sR)))) (fun w hS => mV (I _) rfl) ?_
    refine AT 5 rfl (hH42.sub (sP (sQ (sQ sR)))) (fun w hS => run_indexAddrS ((hf.mono hK).names.sl.hp hS) underlying43 sizeOf9 rfl rfl (by first | omega | exact own_at (f := f.fc) hR ‹f.kind = 3› s h0 ‹k < _› | exact pt_in (f := f.fc) hR ‹f.kind = 4› hw | exact lv_in (f := f.fc) (kind_cases hR ‹_› ‹_› ‹_›) hw)) ?_
    refine AT 6 rfl (hH42.sub (sP (sQ (sQ sR)))) (fun w hS => run_ld underlying9 rfl rfl (((hf.mono hK).names.sl.hp hS).cell _ _ (txL_at (by first | omega | exact own_at (f := f.fc) hR ‹f.kind = 3› s h0 ‹k < _› | exact pt_in (f := f.fc) hR ‹f.kind = 4› hw | exact lv_in (f := f.fc) (kind_cases hR ‹_› ‹_› ‹_›) hw)))) ?_
    refine AT 7 rfl (hH42.sub (sP (sQ (sQ sR)))) (fun w hS => run_move e5_38) ?_
    refine AT 8 rfl (hH42.sub (sP (sQ (sQ sR)))) (fun w hS => fA underlying48 2 rfl sizeOf46 e2_38) ?_
    refine AT 9 rfl (hH42.sub (sP (sQ (sQ sR)))) (fun w hS => run_ldBR underlying46 rfl rfl rfl (hS.blk (i := 2) rfl)) ?_
    refine AT 10 rfl (hH42.sub (sP (sQ (sQ sR)))) (fun w hS => run_move e1_38) ?_
    refine AT 11 rfl (hH42.sub (sP (sQ (sQ sR)))) (fun w hS => mV (I _) rfl) ?_
    refine AN.two 1 12 (by kernel_rfl) ?_ ?_
    ·refine AO.read rfl gnone rfl hH42 (sP (sQ (sQ sR))) (run_ld underlying32 rfl rfl (hH42.cell (i := 2) rfl rfl)) ?_
     refine A1 12 ?_
     refine AO.callP rfl gnone rfl hH42 (sP (sQ (sQ sR))) (c_grid_Readers _ _ _  _) (run_call3 call34 rfl rfl rfl) ?_
     intro w45 hH46
     refine A1 13 ?_
     refine AO.callF rfl gnone rfl hH46 (sP (sQ (sQ sR))) (c_spell_constant_1 K b3 f (readersG f.rel s ((lst (ownersG f.rel s)).getD k.toNat 0)) (sub_r (f := f.fc) hR ‹f.kind = 3› _ _) _ (hK.trans hH46.kw) (hf.mono (hK.trans hH46.kw)) (hH46.blk (i := 4) rfl) (hT.hp hH46)) (run_callC1 call28 (cs := [.pointer (some ⟨b3, 0, none⟩)]) rfl rfl) ?_
     intro v49 w50 Z52 hH51 hp53
     have hH54 : Hp _ w50 (_ :: _ :: _ :: _ :: _ :: (Z52 ++ Z)) := hH51.zin (L := [_, _, _, _, _]) (L' := Z)
     have hv55 := hp53
     refine AT 14 rfl (hH54.sub (sP (sQ (sQ (sP (sP (sA sR))))))) (fun w hS => run_bld (vs := [(0, I 6), (2, S (f.names.getD ((lst (ownersG f.rel s)).getD k.toNat 0).toNat tx0)), (3, v49)]) rfl (built_nodeTN (one_slv hv55).2 6 (f.names.getD ((lst (ownersG f.rel s)).getD k.toNat 0).toNat tx0) (namesOf f.names (readersG f.rel s ((lst (ownersG f.rel s)).getD k.toNat 0))))) ?_
     refine A1 15 ?_
     refine AO.new rfl gnone rfl hH54 (sP (sQ (sQ (sP (sP (sA sR)))))) (f := fun b => .slice (some ⟨b, 0, none⟩) 1 1) (run_mkRecs nodeL_len underlying32 rfl rfl rfl (l := [(kindR 6 (f.names.getD ((lst (ownersG f.rel s)).getD k.toNat 0).toNat tx0) v49 (namesOf f.names (readersG f.rel s ((lst (ownersG f.rel s)).getD k.toNat 0))))]) rfl (by decide) (by decide) rfl) ?_
     intro b58 w56 hH57
     refine A1 16 ?_
     refine AO.app rfl gnone rfl hH57 (j := 2) rfl (fun _ => (sQ (sP (sQ (sQ (sP (sP (sA sR)))))))) (Hp.slFlat nodeL_len hH57 (i := 0) (l := [(kindR 6 (f.names.getD ((lst (ownersG f.rel s)).getD k.toNat 0).toNat tx0) v49 (namesOf f.names (readersG f.rel s ((lst (ownersG f.rel s)).getD k.toNat 0))))]) rfl (by simp [maxLen])) rfl rfl underlying32 rfl rfl (size := 5) (bytes := 80) rfl rfl rfl (by decide) (node1_one (kindR_v hv55)) (by simp only [List.length_cons, List.length_nil]; omega) (by simp only [maxLen, List.length_cons, List.length_nil]; omega) ?_
     intro v61 w59 hH60
     simp only [z0, z1] at hH60
     refine AT 17 rfl (hH60.sub (sQ (sP (sQ (sQ (sP (sP (sA sR)))))))) (fun w hS => fA underlying34 4 rfl sizeOf32 e6_38) ?_
     refine A1 18 ?_
     refine AO.set rfl gnone hH60 (j := 3) rfl (sQ (sP (sQ (sQ (sP (sP (sA sR))))))) (run_st rfl rfl (v := v61) rfl (row_cells (hH60.get (i := 2) rfl)).1 (row_cells (hH60.get (i := 2) rfl)).2 (hH60.blk (i := 3) rfl) (by first | (show 4 < 5; decide) | decide | (simp only [List.size_toArray, nodeL_len]; decide) | simp)) ?_
     intro w64 hH65
     simp only [z0, z1] at hH65
     refine AD ?_
     refine CW.region ?_
     refine V (run_add e47_38 rfl (by omega)) ?_
     refine V (mV (I _) rfl) ?_
     refine RL.nil ?_
     refine ⟨(k + 1, v61, (gs ++ [(kindR 6 (f.names.getD ((lst (ownersG f.rel s)).getD k.toNat 0).toNat tx0) v49 (namesOf f.names (readersG f.rel s ((lst (ownersG f.rel s)).getD k.toNat 0))))]), (Z52 ++ Z)), ?_, fr38.u4.u4.u4.u4.u4.u4, (Hp.conv (hH65.sub (sQ sR)) (by first | rfl | (simp; done) | (simp [nodeL, kidsR, kindR, NodeR.kind, NodeR.place, NodeR.text, NodeR.nv, NodeR.kv]; done))), (congrArg I (by first | rfl | omega)), ?_, ?_, ?_, ?_, ?_⟩
     ·((try dsimp only); omega)
     ·omega
     ·omega
     ·rw [rules_next (f := f.fc) h0 ‹k < _›, List.map_append, hm]; exact congrArg (_ ++ [·]) (rule_nd (f := f.fc) (w := s) (o := ((lst (ownersG f.rel s)).getD k.toNat 0)))
     ·exact (hF.mono (Le.zz fun y hy => List.mem_append_right _ hy)).snoc (NodeV.mono (Le.zz fun y hy => List.mem_append_left _ hy) (kindR_v hv55))
     ·simp only [List.length_append, List.length_singleton]; omega
    ·refine AO.callP rfl gnone rfl hH42 (sP (sQ (sQ sR))) (c_grid_Readers _ _ _  _) (run_call3 call34 rfl rfl rfl) ?_
     intro w66 hH67
     refine AN.two 1 13 (by kernel_rfl) ?_ ?_
     ·refine AO.read rfl gnone rfl hH67 (sP (sQ (sQ sR))) (run_ld underlying32 rfl rfl (hH67.cell (i := 2) rfl rfl)) ?_
      refine A1 13 ?_
      refine AO.callF rfl gnone rfl hH67 (sP (sQ (sQ sR))) (c_spell_constant_1 K b3 f (readersG f.rel s ((lst (ownersG f.rel s)).getD k.toNat 0)) (sub_r (f := f.fc) hR ‹f.kind = 3› _ _) _ (hK.trans hH67.kw) (hf.mono (hK.trans hH67.kw)) (hH67.blk (i := 4) rfl) (hT.hp hH67)) (run_callC1 call28 (cs := [.pointer (some ⟨b3, 0, none⟩)]) rfl rfl) ?_
      intro v72 w73 Z75 hH74 hp76
      have hH77 : Hp _ w73 (_ :: _ :: _ :: _ :: _ :: (Z75 ++ Z)) := hH74.zin (L := [_, _, _, _, _]) (L' := Z)
      have hv78 := hp76
      refine AT 14 rfl (hH77.sub (sP (sQ (sQ (sP (sP (sA sR))))))) (fun w hS => run_bld (vs := [(0, I 6), (2, S (f.names.getD ((lst (ownersG f.rel s)).getD k.toNat 0).toNat tx0)), (3, v72)]) rfl (built_nodeTN (one_slv hv78).2 6 (f.names.getD ((lst (ownersG f.rel s)).getD k.toNat 0).toNat tx0) (namesOf f.names (readersG f.rel s ((lst (ownersG f.rel s)).getD k.toNat 0))))) ?_
      refine A1 15 ?_
      refine AO.new rfl gnone rfl hH77 (sP (sQ (sQ (sP (sP (sA sR)))))) (f := fun b => .slice (some ⟨b, 0, none⟩) 1 1) (run_mkRecs nodeL_len underlying32 rfl rfl rfl (l := [(kindR 6 (f.names.getD ((lst (ownersG f.rel s)).getD k.toNat 0).toNat tx0) v72 (namesOf f.names (readersG f.rel s ((lst (ownersG f.rel s)).getD k.toNat 0))))]) rfl (by decide) (by decide) rfl) ?_
      intro b81 w79 hH80
      refine A1 16 ?_
      refine AO.app rfl gnone rfl hH80 (j := 2) rfl (fun _ => (sQ (sP (sQ (sQ (sP (sP (sA sR)))))))) (Hp.slFlat nodeL_len hH80 (i := 0) (l := [(kindR 6 (f.names.getD ((lst (ownersG f.rel s)).getD k.toNat 0).toNat tx0) v72 (namesOf f.names (readersG f.rel s ((lst (ownersG f.rel s)).getD k.toNat 0))))]) rfl (by simp [maxLen])) rfl rfl underlying32 rfl rfl (size := 5) (bytes := 80) rfl rfl rfl (by decide) (node1_one (kindR_v hv78)) (by simp only [List.length_cons, List.length_nil]; omega) (by simp only [maxLen, List.length_cons, List.length_nil]; omega) ?_
      intro v84 w82 hH83
      simp only [z0, z1] at hH83
      refine AT 17 rfl (hH83.sub (sQ (sP (sQ (sQ (sP (sP (sA sR)))))))) (fun w hS => fA underlying34 4 rfl sizeOf32 e6_38) ?_
      refine A1 18 ?_
      refine AO.set rfl gnone hH83 (j := 3) rfl (sQ (sP (sQ (sQ (sP (sP (sA sR))))))) (run_st rfl rfl (v := v84) rfl (row_cells (hH83.get (i := 2) rfl)).1 (row_cells (hH83.get (i := 2) rfl)).2 (hH83.blk (i := 3) rfl) (by first | (show 4 < 5; decide) | decide | (simp only [List.size_toArray, nodeL_len]; decide) | simp)) ?_
      intro w87 hH88
      simp only [z0, z1] at hH88
      refine AD ?_
      refine CW.region ?_
      refine V (run_add e47_38 rfl (by omega)) ?_
      refine V (mV (I _) rfl) ?_
      refine RL.nil ?_
      refine ⟨(k + 1, v84, (gs ++ [(kindR 6 (f.names.getD ((lst (ownersG f.rel s)).getD k.toNat 0).toNat tx0) v72 (namesOf f.names (readersG f.rel s ((lst (ownersG f.rel s)).getD k.toNat 0))))]), (Z75 ++ Z)), ?_, fr38.u4.u4.u4.u4.u4.u4, (Hp.conv (hH88.sub (sQ sR)) (by first | rfl | (simp; done) | (simp [nodeL, kidsR, kindR, NodeR.kind, NodeR.place, NodeR.text, NodeR.nv, NodeR.kv]; done))), (congrArg I (by first | rfl | omega)), ?_, ?_, ?_, ?_, ?_⟩
      ·((try dsimp only); omega)
      ·omega
      ·omega
      ·rw [rules_next (f := f.fc) h0 ‹k < _›, List.map_append, hm]; exact congrArg (_ ++ [·]) (rule_nd (f := f.fc) (w := s) (o := ((lst (ownersG f.rel s)).getD k.toNat 0)))
      ·exact (hF.mono (Le.zz fun y hy => List.mem_append_right _ hy)).snoc (NodeV.mono (Le.zz fun y hy => List.mem_append_left _ hy) (kindR_v hv78))
      ·simp only [List.length_append, List.length_singleton]; omega
     ·refine AO.callF rfl gnone rfl hH67 (sP (sQ (sQ sR))) (c_spell_constant_1 K b3 f (readersG f.rel s ((lst (ownersG f.rel s)).getD k.toNat 0)) (sub_r (f := f.fc) hR ‹f.kind = 3› _ _) _ (hK.trans hH67.kw) (hf.mono (hK.trans hH67.kw)) (hH67.blk (i := 4) rfl) (hT.hp hH67)) (run_callC1 call28 (cs := [.pointer (some ⟨b3, 0, none⟩)]) rfl rfl) ?_
      intro v91 w92 Z94 hH93 hp95
      have hH96 : Hp _ w92 (_ :: _ :: _ :: _ :: _ :: (Z94 ++ Z)) := hH93.zin (L := [_, _, _, _, _]) (L' := Z)
      have hv97 := hp95
      refine AT 14 rfl (hH96.sub (sP (sQ (sQ (sP (sP (sA sR))))))) (fun w hS => run_bld (vs := [(0, I 6), (2, S (f.names.getD ((lst (ownersG f.rel s)).getD k.toNat 0).toNat tx0)), (3, v91)]) rfl (built_nodeTN (one_slv hv97).2 6 (f.names.getD ((lst (ownersG f.rel s)).getD k.toNat 0).toNat tx0) (namesOf f.names (readersG f.rel s ((lst (ownersG f.rel s)).getD k.toNat 0))))) ?_
      refine AN.two 1 15 (by kernel_rfl) ?_ ?_
      ·refine AO.read rfl gnone rfl hH96 (sP (sQ (sQ (sP (sP (sA sR)))))) (run_ld underlying32 rfl rfl (hH96.cell (i := 2) rfl rfl)) ?_
       refine A1 15 ?_
       refine AO.new rfl gnone rfl hH96 (sP (sQ (sQ (sP (sP (sA sR)))))) (f := fun b => .slice (some ⟨b, 0, none⟩) 1 1) (run_mkRecs nodeL_len underlying32 rfl rfl rfl (l := [(kindR 6 (f.names.getD ((lst (ownersG f.rel s)).getD k.toNat 0).toNat tx0) v91 (namesOf f.names (readersG f.rel s ((lst (ownersG f.rel s)).getD k.toNat 0))))]) rfl (by decide) (by decide) rfl) ?_
       intro b102 w100 hH101
       refine A1 16 ?_
       refine AO.app rfl gnone rfl hH101 (j := 2) rfl (fun _ => (sQ (sP (sQ (sQ (sP (sP (sA sR)))))))) (Hp.slFlat nodeL_len hH101 (i := 0) (l := [(kindR 6 (f.names.getD ((lst (ownersG f.rel s)).getD k.toNat 0).toNat tx0) v91 (namesOf f.names (readersG f.rel s ((lst (ownersG f.rel s)).getD k.toNat 0))))]) rfl (by simp [maxLen])) rfl rfl underlying32 rfl rfl (size := 5) (bytes := 80) rfl rfl rfl (by decide) (node1_one (kindR_v hv97)) (by simp only [List.length_cons, List.length_nil]; omega) (by simp only [maxLen, List.length_cons, List.length_nil]; omega) ?_
       intro v105 w103 hH104
       simp only [z0, z1] at hH104
       refine AT 17 rfl (hH104.sub (sQ (sP (sQ (sQ (sP (sP (sA sR)))))))) (fun w hS => fA underlying34 4 rfl sizeOf32 e6_38) ?_
       refine A1 18 ?_
       refine AO.set rfl gnone hH104 (j := 3) rfl (sQ (sP (sQ (sQ (sP (sP (sA sR))))))) (run_st rfl rfl (v := v105) rfl (row_cells (hH104.get (i := 2) rfl)).1 (row_cells (hH104.get (i := 2) rfl)).2 (hH104.blk (i := 3) rfl) (by first | (show 4 < 5; decide) | decide | (simp only [List.size_toArray, nodeL_len]; decide) | simp)) ?_
       intro w108 hH109
       simp only [z0, z1] at hH109
       refine AD ?_
       refine CW.region ?_
       refine V (run_add e47_38 rfl (by omega)) ?_
       refine V (mV (I _) rfl) ?_
       refine RL.nil ?_
       refine ⟨(k + 1, v105, (gs ++ [(kindR 6 (f.names.getD ((lst (ownersG f.rel s)).getD k.toNat 0).toNat tx0) v91 (namesOf f.names (readersG f.rel s ((lst (ownersG f.rel s)).getD k.toNat 0))))]), (Z94 ++ Z)), ?_, fr38.u4.u4.u4.u4.u4.u4, (Hp.conv (hH109.sub (sQ sR)) (by first | rfl | (simp; done) | (simp [nodeL, kidsR, kindR, NodeR.kind, NodeR.place, NodeR.text, NodeR.nv, NodeR.kv]; done))), (congrArg I (by first | rfl | omega)), ?_, ?_, ?_, ?_, ?_⟩
       ·((try dsimp only); omega)
       ·omega
       ·omega
       ·rw [rules_next (f := f.fc) h0 ‹k < _›, List.map_append, hm]; exact congrArg (_ ++ [·]) (rule_nd (f := f.fc) (w := s) (o := ((lst (ownersG f.rel s)).getD k.toNat 0)))
       ·exact (hF.mono (Le.zz fun y hy => List.mem_append_right _ hy)).snoc (NodeV.mono (Le.zz fun y hy => List.mem_append_left _ hy) (kindR_v hv97))
       ·simp only [List.length_append, List.length_singleton]; omega
      ·refine AO.new rfl gnone rfl hH96 (sP (sQ (sQ (sP (sP (sA sR)))))) (f := fun b => .slice (some ⟨b, 0, none⟩) 1 1) (run_mkRecs nodeL_len underlying32 rfl rfl rfl (l := [(kindR 6 (f.names.getD ((lst (ownersG f.rel s)).getD k.toNat 0).toNat tx0) v91 (namesOf f.names (readersG f.rel s ((lst (ownersG f.rel s)).getD k.toNat 0))))]) rfl (by decide) (by decide) rfl) ?_
       intro b112 w110 hH111
       refine A1 1 ?_
       refine AO.read rfl gnone rfl hH111 (sQ (sP (sQ (sQ (sP (sP (sA sR))))))) (run_ld underlying32 rfl rfl (hH111.cell (i := 3) rfl rfl)) ?_
       refine A1 16 ?_
       refine AO.app rfl gnone rfl hH111 (j := 2) rfl (fun _ => (sQ (sP (sQ (sQ (sP (sP (sA sR)))))))) (Hp.slFlat nodeL_len hH111 (i := 0) (l := [(kindR 6 (f.names.getD ((lst (ownersG f.rel s)).getD k.toNat 0).toNat tx0) v91 (namesOf f.names (readersG f.rel s ((lst (ownersG f.rel s)).getD k.toNat 0))))]) rfl (by simp [maxLen])) rfl rfl underlying32 rfl rfl (size := 5) (bytes := 80) rfl rfl rfl (by decide) (node1_one (kindR_v hv97)) (by simp only [List.length_cons, List.length_nil]; omega) (by simp only [maxLen, List.length_cons, List.length_nil]; omega) ?_
       intro v117 w115 hH116
       simp only [z0, z1] at hH116
       refine AT 17 rfl (hH116.sub (sQ (sP (sQ (sQ (sP (sP (sA sR)))))))) (fun w hS => fA underlying34 4 rfl sizeOf32 e6_38) ?_
       refine A1 18 ?_
       refine AO.set rfl gnone hH116 (j := 3) rfl (sQ (sP (sQ (sQ (sP (sP (sA sR))))))) (run_st rfl rfl (v := v117) rfl (row_cells (hH116.get (i := 2) rfl)).1 (row_cells (hH116.get (i := 2) rfl)).2 (hH116.blk (i := 3) rfl) (by first | (show 4 < 5; decide) | decide | (simp only [List.size_toArray, nodeL_len]; decide) | simp)) ?_
       intro w120 hH121
       simp only [z0, z1] at hH121
       refine AD ?_
       refine CW.region ?_
       refine V (run_add e47_38 rfl (by omega)) ?_
       refine V (mV (I _) rfl) ?_
       refine RL.nil ?_
       refine ⟨(k + 1, v117, (gs ++ [(kindR 6 (f.names.getD ((lst (ownersG f.rel s)).getD k.toNat 0).toNat tx0) v91 (namesOf f.names (readersG f.rel s ((lst (ownersG f.rel s)).getD k.toNat 0))))]), (Z94 ++ Z)), ?_, fr38.u4.u4.u4.u4.u4.u4, (Hp.conv (hH121.sub (sQ sR)) (by first | rfl | (simp; done) | (simp [nodeL, kidsR, kindR, NodeR.kind, NodeR.place, NodeR.text, NodeR.nv, NodeR.kv]; done))), (congrArg I (by first | rfl | omega)), ?_, ?_, ?_, ?_, ?_⟩
       ·((try dsimp only); omega)
       ·omega
       ·omega
       ·rw [rules_next (f := f.fc) h0 ‹k < _›, List.map_append, hm]; exact congrArg (_ ++ [·]) (rule_nd (f := f.fc) (w := s) (o := ((lst (ownersG f.rel s)).getD k.toNat 0)))
       ·exact (hF.mono (Le.zz fun y hy => List.mem_append_right _ hy)).snoc (NodeV.mono (Le.zz fun y hy => List.mem_append_left _ hy) (kindR_v hv97))
       ·simp only [List.length_append, List.length_singleton]; omega
   ·refine CW.exit (id := 1) rfl ?_
    refine SR ?_
    obtain ⟨Z122, hz123, hv124, -⟩ := (hH38.perm (((pC pR).trans pS).trans (pC pR))).frz (K)
    have hH125 : Hp _ w38 (_ :: _ :: _ :: _ :: (Z122 ++ Z)) := hz123.zin (L := [_, _, _, _]) (L' := Z)
    have hN126 : NodeV (Kz K (Z122 ++ Z)) ((kidsR (kindN f.fc) kv gs)) := kidsR_v (hv124.mono (Le.zz fun x hx => List.mem_append_left _ hx)) (hF.mono (Le.zz fun x hx => List.mem_append_right _ hx))
    refine V (run_ldA (cs := nodeL ((kidsR (kindN f.fc) kv gs))) underlying34 rfl rfl e6_38 (rangeAt_cells (hH125.blk (i := 1) rfl))) ?_
    refine RL.set hH125 (i := 2) rfl (run_stW (c' := (nodeL ((kidsR (kindN f.fc) kv gs))).toArray) rfl e4_38 rfl (nodeL_one hN126) (hH125.blk (i := 2) rfl) rfl) ?_
    intro w127 hH128
    simp only [z0, z1] at hH128
    refine RL.nil ?_
    refine CW.ret ?_
    refine outCg Tryd.results13 e4_38 hH128 (i := 2) rfl underlying34 rfl rfl ⟨(Z122 ++ Z), (hH128.sub (sQ (sQ (sQ (sQ sR))))), (kidsR (kindN f.fc) kv gs), rfl, ?_, hN126⟩
    exact nd_3 ‹_› (hm.trans (rules_all ‹_›))
  ·refine SR ?_
   refine V (run_eql rfl rfl) ?_
   refine V (aV (B _) rfl) ?_
   refine RL.nil ?_
   refine CW.condP rfl (fun h130 => ?_) (fun h130 => ?_)
   ·refine SR ?_
    refine V (fA underlying48 2 rfl sizeOf46 rfl) ?_
    refine V (run_ldBR underlying46 rfl rfl rfl (hH14.blk (i := 3) rfl)) ?_
    refine V (mV (U _) rfl) ?_
    refine RL.callP rfl hH14 (c_hasse_Point _ _  _ (hT.hp hH14)) (run_call2 call27 rfl rfl) ?_
    intro w131 hH132
    refine V (run_move (by conv => lhs; whnf)) ?_
    refine V (run_extract rfl (v := I _) rfl) ?_
    refine V (run_extract rfl (v := B _) rfl) ?_
    refine V (aV (I _) rfl) ?_
    refine V (aV (B _) rfl) ?_
    refine RL.nil ?_
    refine CW.region ?_
    refine V (fA underlying48 1 rfl sizeOf43 rfl) ?_
    refine V (run_ld underlying43 rfl rfl (hH132.cell (i := 3) rfl rfl)) ?_
    refine V (mV (I _) rfl) ?_
    refine V (run_indexAddrS ((hf.mono hK).names.sl.hp hH132) underlying43 sizeOf9 rfl rfl (by first | omega | exact own_at (f := f.fc) hR ‹f.kind = 3› s h0 ‹k < _› | exact pt_in (f := f.fc) hR ‹f.kind = 4› hw | exact lv_in (f := f.fc) (kind_cases hR ‹_› ‹_› ‹_›) hw)) ?_
    refine V (run_ld underlying9 rfl rfl (((hf.mono hK).names.sl.hp hH132).cell _ _ (txL_at (by first | omega | exact own_at (f := f.fc) hR ‹f.kind = 3› s h0 ‹k < _› | exact pt_in (f := f.fc) hR ‹f.kind = 4› hw | exact lv_in (f := f.fc) (kind_cases hR ‹_› ‹_› ‹_›) hw)))) ?_
    refine V (fA underlying34 2 rfl sizeOf9 rfl) ?_
    refine RL.set hH132 (i := 1) rfl (run_st rfl rfl (v := .string _) rfl rfl rfl (hH132.blk (i := 1) rfl) (by first | (show 2 < 5; decide) | decide | (simp only [List.size_toArray, nodeL_len]; decide) | simp)) ?_
    intro w134 hH135
    simp only [z0, z1] at hH135
    refine RL.nil ?_
    refine SR ?_
    have hN136 : NodeV (Kz K []) ((kindR (kindN f.fc) (f.names.getD (pointV f.rel s).1.toNat tx0) (.slice none 0 0) [])) := kindR_v (SlV.nil _ _)
    refine V (run_ldA (cs := nodeL ((kindR (kindN f.fc) (f.names.getD (pointV f.rel s).1.toNat tx0) (.slice none 0 0) []))) underlying34 rfl rfl rfl (rangeAt_cells (hH135.blk (i := 1) rfl))) ?_
    refine RL.set hH135 (i := 2) rfl (run_stW (c' := (nodeL ((kindR (kindN f.fc) (f.names.getD (pointV f.rel s).1.toNat tx0) (.slice none 0 0) []))).toArray) rfl rfl rfl (nodeL_one hN136) (hH135.blk (i := 2) rfl) rfl) ?_
    intro w137 hH138
    simp only [z0, z1] at hH138
    refine RL.nil ?_
    refine CW.ret ?_
    refine outCg Tryd.results13 rfl hH138 (i := 2) rfl underlying34 rfl rfl ⟨[], (hH138.sub (sQ (sQ (sQ (sQ sR))))), (kindR (kindN f.fc) (f.names.getD (pointV f.rel s).1.toNat tx0) (.slice none 0 0) []), rfl, ?_, hN136⟩
    exact nd_4 ‹_›
   ·refine SR ?_
    refine V (fA underlying48 1 rfl sizeOf43 rfl) ?_
    refine V (run_ld underlying43 rfl rfl (hH14.cell (i := 3) rfl rfl)) ?_
    refine V (run_lenSl ((hf.mono hK).names.sl.hp hH14) rfl underlying43 rfl) ?_
    refine V (mV (U _) rfl) ?_
    refine RL.callP rfl hH14 (c_rung_Level _ _  _) (run_call2 call35 rfl rfl) ?_
    intro w139 hH140
    refine V (run_move (by conv => lhs; whnf)) ?_
    refine V (run_extract rfl (v := I _) rfl) ?_
    refine V (run_extract rfl (v := B _) rfl) ?_
    refine V (aV (I _) rfl) ?_
    refine V (aV (B _) rfl) ?_
    refine RL.nil ?_
    refine CW.region ?_
    refine V (fA underlying48 1 rfl sizeOf43 rfl) ?_
    refine V (run_ld underlying43 rfl rfl (hH140.cell (i := 3) rfl rfl)) ?_
    refine V (mV (I _) rfl) ?_
    refine V (run_indexAddrS ((hf.mono hK).names.sl.hp hH140) underlying43 sizeOf9 rfl rfl (by first | omega | exact own_at (f := f.fc) hR ‹f.kind = 3› s h0 ‹k < _› | exact pt_in (f := f.fc) hR ‹f.kind = 4› hw | exact lv_in (f := f.fc) (kind_cases hR ‹_› ‹_› ‹_›) hw)) ?_
    refine V (run_ld underlying9 rfl rfl (((hf.mono hK).names.sl.hp hH140).cell _ _ (txL_at (by first | omega | exact own_at (f := f.fc) hR ‹f.kind = 3› s h0 ‹k < _› | exact pt_in (f := f.fc) hR ‹f.kind = 4› hw | exact lv_in (f := f.fc) (kind_cases hR ‹_› ‹_› ‹_›) hw)))) ?_
    refine V (fA underlying34 2 rfl sizeOf9 rfl) ?_
    refine RL.set hH140 (i := 1) rfl (run_st rfl rfl (v := .string _) rfl rfl rfl (hH140.blk (i := 1) rfl) (by first | (show 2 < 5; decide) | decide | (simp only [List.size_toArray, nodeL_len]; decide) | simp)) ?_
    intro w142 hH143
    simp only [z0, z1] at hH143
    refine RL.nil ?_
    refine SR ?_
    have hN144 : NodeV (Kz K []) ((kindR (kindN f.fc) (f.names.getD (level f.names.length s).1.toNat tx0) (.slice none 0 0) [])) := kindR_v (SlV.nil _ _)
    refine V (run_ldA (cs := nodeL ((kindR (kindN f.fc) (f.names.getD (level f.names.length s).1.toNat tx0) (.slice none 0 0) []))) underlying34 rfl rfl rfl (rangeAt_cells (hH143.blk (i := 1) rfl))) ?_
    refine RL.set hH143 (i := 2) rfl (run_stW (c' := (nodeL ((kindR (kindN f.fc) (f.names.getD (level f.names.length s).1.toNat tx0) (.slice none 0 0) []))).toArray) rfl rfl rfl (nodeL_one hN144) (hH143.blk (i := 2) rfl) rfl) ?_
    intro w145 hH146
    simp only [z0, z1] at hH146
    refine RL.nil ?_
    refine CW.ret ?_
    refine outCg Tryd.results13 rfl hH146 (i := 2) rfl underlying34 rfl rfl ⟨[], (hH146.sub (sQ (sQ (sQ (sQ sR))))), (kindR (kindN f.fc) (f.names.getD (level f.names.length s).1.toNat tx0) (.slice none 0 0) []), rfl, ?_, hN144⟩
    exact nd_1 ‹_› ‹_› ‹_›

theorem c_spell_Node (K : Vu) (s : Shp) (e : El) (w : World) (hK : Le K (Kw w)) (hs : ShpV K s) (hT : Tab w) : Calls Tryd.prog 7 #[.agg (shpC s), .agg (elC e)] w (PureF K (fun K' u => ∃ n : NodeR, u = .agg (nodeL n).toArray ∧ n.nd = nodeF s.sh e ∧ NodeV K' n) w) := by
 have hsl := sh_len s
 have hm := hs.facs.small
 unfold maxLen at hm
 refine enter Tryd.func7 rfl Tryd.ntmps7 rfl ?_
 have hH := Hp.start w
 refine SR ?_
 refine RL.new rfl hH (f := fun b => (.pointer (some ⟨b, 0, none⟩))) (run_box (v := .agg _) rfl) ?_
 intro b3 w1 hH2
 refine RL.new rfl hH2 (f := fun b => (.pointer (some ⟨b, 0, none⟩))) (run_box (v := .agg _) rfl) ?_
 intro b6 w4 hH5
 refine RL.new rfl hH5 (f := fun b => (.pointer (some ⟨b, 0, none⟩))) (run_alloc Tryd.zeroValue34) ?_
 intro b9 w7 hH8
 refine RL.nil ?_
 refine CW.seq ?_
 refine SR ?_
 refine V (run_ldA (cs := [B _, _]) underlying24 rfl rfl rfl (rangeAt_cells (hH8.blk (i := 2) rfl))) ?_
 refine V (run_ldEl underlying27 rfl rfl rfl (hH8.blk (i := 1) rfl)) ?_
 refine RL.callP rfl hH8 (c_shape_Fits _ _  _ ((hs.mono hK).mono hH8.kw) (hT.hp hH8)) (run_call2 call5 rfl rfl) ?_
 intro w10 hH11
 refine V (run_not rfl) ?_
 refine RL.nil ?_
 refine CW.cond rfl (fun h14 => ?_) (fun h14 => ?_)
 ·refine SR ?_
  refine V (run_bld (vs := []) rfl built_node0) ?_
  refine RL.set hH11 (i := 0) rfl (run_stW (c' := (nodeL node0).toArray) rfl rfl rfl (nodeL_one (node0_v (K := Kw w))) (hH11.blk (i := 0) rfl) rfl) ?_
  intro w15 hH16
  simp only [z0, z1] at hH16
  refine RL.nil ?_
  refine CW.ret ?_
  refine outCg Tryd.results7 rfl hH16 (i := 0) rfl underlying34 rfl rfl ⟨[], (hH16.sub (sQ (sQ (sQ sR)))), node0, rfl, ?_, node0_v⟩
  rw [nodeF_no (nt ‹(!fitsS s.sh e) = true›)]; exact node0_nd
 ·refine CW.skip ?_
  refine CW.seq ?_
  refine SR ?_
  refine V (fA underlying24 0 rfl sizeOf4 rfl) ?_
  refine V (run_ld underlying4 rfl rfl (hH11.cell (i := 2) rfl (v := B _) rfl)) ?_
  refine V (run_not rfl) ?_
  refine RL.nil ?_
  refine CW.cond rfl (fun h19 => ?_) (fun h19 => ?_)
  ·refine CW.seq ?_
   have hfit := nf ‹(!fitsS s.sh e) = false›
   have hfl := fit_len hfit
   refine CW.regionS (by kernel_rfl) hH11 (sQ sR) ?_
   intro w20 hH21
   refine AT 0 rfl (hH21.sub (sQ sR)) (fun w hS => fA underlying24 1 rfl sizeOf22 rfl) ?_
   refine AT 1 rfl (hH21.sub (sQ sR)) (fun w hS => run_ld underlying22 rfl rfl (hS.cell (i := 1) rfl rfl)) ?_
   refine AT 2 rfl (hH21.sub (sQ sR)) (fun w hS => run_indexAddrS ((hs.mono hK).facs.sl.hp hS) underlying22 sizeOf48 rfl rfl (by omega)) ?_
   refine AT 3 rfl (hH21.sub (sQ sR)) (fun w hS => run_ldE (dv := fac0) facL_len ((hs.mono hK).facs.sl.hp hS) underlying48 rfl rfl rfl (by omega)) ?_
   refine AT 4 rfl (hH21.sub (sQ sR)) (fun w hS => run_indexAddrA underlying27 sizeOf25 rfl rfl (by omega)) ?_
   refine AT 5 rfl (hH21.sub (sQ sR)) (fun w hS => run_ld underlying25 rfl rfl (hS.cell (i := 0) rfl (elC_at _ (by omega)))) ?_
   refine A1 6 ?_
   refine AO.callF rfl gnone rfl hH21 (sQ sR) (c_spell_constant K (s.facs.getD (0 : Int).toNat fac0) (e (0 : Int).toNat) (fitR hfit (k := 0) (by omega) (by omega)).1 (fitR hfit (k := 0) (by omega) (by omega)).2 _ (hK.trans hH21.kw) (hs.at (k := 0) (by omega) (by omega)) (hT.hp hH21)) (run_call2 call13 rfl rfl) ?_
   intro v24 w25 Z27 hH26 hp28
   have hH29 : Hp _ w25 (_ :: _ :: _ :: Z27) := hH26.zin0 (L := [_, _, _])
   obtain ⟨n30, rfl, nd31, nv32⟩ := hp28
   refine A1 7 ?_
   refine AO.set rfl gnone hH29 (j := 0) rfl (sQ (sP (sP (List.nil_sublist _)))) (run_stW (c' := (nodeL n30).toArray) rfl rfl rfl (nodeL_one nv32) (hH29.blk (i := 0) rfl) rfl) ?_
   intro w35 hH36
   simp only [z0, z1] at hH36
   refine AD ?_
   refine CW.ret ?_
   refine outCg Tryd.results7 rfl hH36 (i := 0) rfl underlying34 rfl rfl ⟨Z27, (hH36.sub (sQ (sQ (sQ sR)))), n30, rfl, ?_, nv32⟩
   rw [nodeF_1 (nf ‹(!fitsS s.sh e) = false›) (nt ‹(!s.tuple) = true›)]; exact nd31
  ·refine CW.skip ?_
   refine SR ?_
   refine V (run_bld (vs := [(0, I 4)]) rfl (built_nodeK 4)) ?_
   refine RL.new rfl hH11 (f := fun b => (.pointer (some ⟨b, 0, none⟩))) (run_alloc Tryd.zeroValue34) ?_
   intro b39 w37 hH38
   refine RL.set hH38 (i := 0) rfl (run_stW (c' := (nodeL (kindR 4 tx0 (.slice none 0 0) [])).toArray) rfl rfl rfl (nodeL_one (kindR_v (SlV.nil (Kw w) _))) (hH38.blk (i := 0) rfl) rfl) ?_
   intro w40 hH41
   simp only [z0, z1] at hH41
   have hH42 := hH41.nilRow 34 5
   refine RL.nil ?_
   refine CW.seq ?_
   refine SR ?_
   refine V (fA underlying24 1 rfl sizeOf22 rfl) ?_
   refine V (run_ld underlying22 rfl rfl (hH42.cell (i := 4) rfl rfl)) ?_
   refine V (run_lenSl ((hs.mono hK).facs.sl.hp hH42) rfl underlying22 rfl) ?_
   refine V (mV (I 0) rfl) ?_
   refine RL.nil ?_
   refine CW.block ?_
   have hfit := nf ‹(!fitsS s.sh e) = false›
   have hfl := fit_len hfit
   refine CW.loop (G := (Int) × (Value) × (List NodeR) × (List Ent)) (fun (⟨k, kv, gs, Z⟩ : (Int) × (Value) × (List NodeR) × (List Ent)) s' w' => (Fr [6, 7, 27, 28, 29, 30, 31, 32, 33, 34, 35, 36, 37, 38, 39, 40, 41, 42] _ s') ∧ (Hp w w' (.row kv 34 5 (gs.length) (gs.flatMap nodeL) :: .blk b39 (.cells ((nodeL (kidsR 4 kv gs)).toArray) 34 (0, 0)) :: _ :: _ :: _ :: Z)) ∧ (s' 27 = I k) ∧ (0 ≤ k) ∧ (k ≤ s.facs.length) ∧ (gs.map NodeR.nd = constsTo s.sh e k) ∧ (NodesV (Kz K Z) gs) ∧ ((gs.length : Int) = k)) (fun (⟨k, kv, gs, Z⟩ : (Int) × (Value) × (List NodeR) × (List Ent)) => (s.facs.length - k).toNat) ((0, (.slice none 0 0 : Value), [], [])) ⟨Fr.refl _ _, hH42, rfl, (by omega), (by omega), rfl, NodesV.nil _, rfl⟩ ?_
   rintro ⟨k, kv, gs, Z⟩ sg43 w43 ⟨fr43, hH43, e27_43, h0, hk, hm, hF, hb⟩
   have e3_43 : sg43 3 = Pn _ _ := (fr43 3 rfl).trans rfl
   have e4_43 : sg43 4 = Pn _ _ := (fr43 4 rfl).trans rfl
   have e5_43 : sg43 5 = Pn _ _ := (fr43 5 rfl).trans rfl
   have e25_43 := (fr43 25 rfl).trans (by conv => lhs; whnf)
   have e26_43 : sg43 26 = I _ := (fr43 26 rfl).trans rfl
   refine SR ?_
   refine V (run_lss e27_43 e26_43) ?_
   refine RL.nil ?_
   refine CW.seq ?_
   refine CW.condP rfl (fun h45 => ?_) (fun h45 => ?_)
   ·refine CW.skip ?_
    refine CW.seq ?_
    refine CW.block ?_
    refine SR ?_
    refine V (run_move e27_43) ?_
    refine V (run_indexAddrS ((hs.mono hK).facs.sl.hp hH43) underlying22 sizeOf48 e25_43 e27_43 (by omega)) ?_
    refine V (run_ldE (dv := fac0) facL_len ((hs.mono hK).facs.sl.hp hH43) underlying48 rfl rfl rfl (by omega)) ?_
    refine RL.new rfl hH43 (f := fun b => (.pointer (some ⟨b, 0, none⟩))) (run_alloc zero_fac) ?_
    intro b48 w46 hH47
    refine V (aV (I _) rfl) ?_
    refine RL.set hH47 (i := 0) rfl (run_stFac ((hs.mono hK).at (by omega) (by omega)) rfl rfl rfl (hH47.blk (i := 0) rfl)) ?_
    intro w49 hH50
    simp only [z0, z1] at hH50
    refine RL.nil ?_
    refine CW.regionS (by kernel_rfl) hH50 (sP (sQ (sQ sR))) ?_
    intro w51 hH52
    refine AT 0 rfl (hH52.sub (sP (sQ (sQ sR)))) (fun w hS => fA underlying34 4 rfl sizeOf32 e5_43) ?_
    refine AT 2 rfl (hH52.sub (sP (sQ (sQ sR)))) (fun w hS => run_ldFac underlying48 rfl rfl rfl (hS.blk (i := 0) rfl)) ?_
    refine AT 3 rfl (hH52.sub (sP (sQ (sQ sR)))) (fun w hS => mV (I _) rfl) ?_
    refine AT 4 rfl (hH52.sub (sP (sQ (sQ sR)))) (fun w hS => run_indexAddrA underlying27 sizeOf25 e3_43 rfl (by omega)) ?_
    refine AT 5 rfl (hH52.sub (sP (sQ (sQ sR)))) (fun w hS => run_ld underlying25 rfl rfl (hS.cell (i := 2) rfl (elC_at _ (by omega)))) ?_
    refine AN.two 1 6 (by kernel_rfl) ?_ ?_
    ·refine AO.read rfl gnone rfl hH52 (sP (sQ (sQ sR))) (run_ld underlying32 rfl rfl (hH52.cell (i := 2) rfl rfl)) ?_
     refine A1 6 ?_
     refine AO.callF rfl gnone rfl hH52 (sP (sQ (sQ sR))) (c_spell_constant K (s.facs.getD k.toNat fac0) (e k.toNat) (fitR hfit h0 (by omega)).1 (fitR hfit h0 (by omega)).2 _ (hK.trans hH52.kw) (hs.at h0 (by omega)) (hT.hp hH52)) (run_call2 call13 rfl rfl) ?_
     intro v57 w58 Z60 hH59 hp61
     have hH62 : Hp _ w58 (_ :: _ :: _ :: _ :: _ :: _ :: (Z60 ++ Z)) := hH59.zin (L := [_, _, _, _, _, _]) (L' := Z)
     obtain ⟨n63, rfl, nd64, nv65⟩ := hp61
     refine A1 7 ?_
     refine AO.new rfl gnone rfl hH62 (sP (sQ (sQ (sP (sP (sP (sA sR))))))) (f := fun b => .slice (some ⟨b, 0, none⟩) 1 1) (run_mkRecs nodeL_len underlying32 rfl rfl rfl (l := [n63]) rfl (by decide) (by decide) rfl) ?_
     intro b68 w66 hH67
     refine A1 8 ?_
     refine AO.app rfl gnone rfl hH67 (j := 2) rfl (fun _ => (sQ (sP (sQ (sQ (sP (sP (sP (sA sR))))))))) (Hp.slFlat nodeL_len hH67 (i := 0) (l := [n63]) rfl (by simp [maxLen])) rfl rfl underlying32 rfl rfl (size := 5) (bytes := 80) rfl rfl rfl (by decide) (node1_one nv65) (by simp only [List.length_cons, List.length_nil]; omega) (by simp only [maxLen, List.length_cons, List.length_nil]; omega) ?_
     intro v71 w69 hH70
     simp only [z0, z1] at hH70
     refine AT 9 rfl (hH70.sub (sQ (sP (sQ (sQ (sP (sP (sP (sA sR))))))))) (fun w hS => fA underlying34 4 rfl sizeOf32 e5_43) ?_
     refine A1 10 ?_
     refine AO.set rfl gnone hH70 (j := 3) rfl (sQ (sP (sQ (sQ (sP (sP (sP (sA sR)))))))) (run_st rfl rfl (v := v71) rfl (row_cells (hH70.get (i := 2) rfl)).1 (row_cells (hH70.get (i := 2) rfl)).2 (hH70.blk (i := 3) rfl) (by first | (show 4 < 5; decide) | decide | (simp only [List.size_toArray, nodeL_len]; decide) | simp)) ?_
     intro w74 hH75
     simp only [z0, z1] at hH75
     refine AD ?_
     refine CW.region ?_
     refine V (run_add e27_43 rfl (by omega)) ?_
     refine V (mV (I _) rfl) ?_
     refine RL.nil ?_
     refine ⟨(k + 1, v71, (gs ++ [n63]), (Z60 ++ Z)), ?_, fr43.u4.u4.u4.u4.u1.u1, (Hp.conv (hH75.sub (sQ (sQ sR))) (by first | rfl | (simp; done) | (simp [nodeL, kidsR, kindR, NodeR.kind, NodeR.place, NodeR.text, NodeR.nv, NodeR.kv]; done))), (congrArg I (by first | rfl | omega)), ?_, ?_, ?_, ?_, ?_⟩
     ·((try dsimp only); omega)
     ·omega
     ·omega
     ·rw [consts_nextR h0, List.map_append, hm]; exact congrArg (_ ++ [·]) nd64
     ·exact (hF.mono (Le.zz fun y hy => List.mem_append_right _ hy)).snoc (NodeV.mono (Le.zz fun y hy => List.mem_append_left _ hy) nv65)
     ·simp only [List.length_append, List.length_singleton]; omega
    ·refine AO.callF rfl gnone rfl hH52 (sP (sQ (sQ sR))) (c_spell_constant K (s.facs.getD k.toNat fac0) (e k.toNat) (fitR hfit h0 (by omega)).1 (fitR hfit h0 (by omega)).2 _ (hK.trans hH52.kw) (hs.at h0 (by omega)) (hT.hp hH52)) (run_call2 call13 rfl rfl) ?_
     intro v78 w79 Z81 hH80 hp82
     have hH83 : Hp _ w79 (_ :: _ :: _ :: _ :: _ :: _ :: (Z81 ++ Z)) := hH80.zin (L := [_, _, _, _, _, _]) (L' := Z)
     obtain ⟨n84, rfl, nd85, nv86⟩ := hp82
     refine AN.two 1 7 (by kernel_rfl) ?_ ?_
     ·refine AO.read rfl gnone rfl hH83 (sP (sQ (sQ (sP (sP (sP (sA sR))))))) (run_ld underlying32 rfl rfl (hH83.cell (i := 2) rfl rfl)) ?_
      refine A1 7 ?_
      refine AO.new rfl gnone rfl hH83 (sP (sQ (sQ (sP (sP (sP (sA sR))))))) (f := fun b => .slice (some ⟨b, 0, none⟩) 1 1) (run_mkRecs nodeL_len underlying32 rfl rfl rfl (l := [n84]) rfl (by decide) (by decide) rfl) ?_
      intro b91 w89 hH90
      refine A1 8 ?_
      refine AO.app rfl gnone rfl hH90 (j := 2) rfl (fun _ => (sQ (sP (sQ (sQ (sP (sP (sP (sA sR))))))))) (Hp.slFlat nodeL_len hH90 (i := 0) (l := [n84]) rfl (by simp [maxLen])) rfl rfl underlying32 rfl rfl (size := 5) (bytes := 80) rfl rfl rfl (by decide) (node1_one nv86) (by simp only [List.length_cons, List.length_nil]; omega) (by simp only [maxLen, List.length_cons, List.length_nil]; omega) ?_
      intro v94 w92 hH93
      simp only [z0, z1] at hH93
      refine AT 9 rfl (hH93.sub (sQ (sP (sQ (sQ (sP (sP (sP (sA sR))))))))) (fun w hS => fA underlying34 4 rfl sizeOf32 e5_43) ?_
      refine A1 10 ?_
      refine AO.set rfl gnone hH93 (j := 3) rfl (sQ (sP (sQ (sQ (sP (sP (sP (sA sR)))))))) (run_st rfl rfl (v := v94) rfl (row_cells (hH93.get (i := 2) rfl)).1 (row_cells (hH93.get (i := 2) rfl)).2 (hH93.blk (i := 3) rfl) (by first | (show 4 < 5; decide) | decide | (simp only [List.size_toArray, nodeL_len]; decide) | simp)) ?_
      intro w97 hH98
      simp only [z0, z1] at hH98
      refine AD ?_
      refine CW.region ?_
      refine V (run_add e27_43 rfl (by omega)) ?_
      refine V (mV (I _) rfl) ?_
      refine RL.nil ?_
      refine ⟨(k + 1, v94, (gs ++ [n84]), (Z81 ++ Z)), ?_, fr43.u4.u4.u4.u4.u1.u1, (Hp.conv (hH98.sub (sQ (sQ sR))) (by first | rfl | (simp; done) | (simp [nodeL, kidsR, kindR, NodeR.kind, NodeR.place, NodeR.text, NodeR.nv, NodeR.kv]; done))), (congrArg I (by first | rfl | omega)), ?_, ?_, ?_, ?_, ?_⟩
      ·((try dsimp only); omega)
      ·omega
      ·omega
      ·rw [consts_nextR h0, List.map_append, hm]; exact congrArg (_ ++ [·]) nd85
      ·exact (hF.mono (Le.zz fun y hy => List.mem_append_right _ hy)).snoc (NodeV.mono (Le.zz fun y hy => List.mem_append_left _ hy) nv86)
      ·simp only [List.length_append, List.length_singleton]; omega
     ·refine AO.new rfl gnone rfl hH83 (sP (sQ (sQ (sP (sP (sP (sA sR))))))) (f := fun b => .slice (some ⟨b, 0, none⟩) 1 1) (run_mkRecs nodeL_len underlying32 rfl rfl rfl (l := [n84]) rfl (by decide) (by decide) rfl) ?_
      intro b101 w99 hH100
      refine A1 1 ?_
      refine AO.read rfl gnone rfl hH100 (sQ (sP (sQ (sQ (sP (sP (sP (sA sR)))))))) (run_ld underlying32 rfl rfl (hH100.cell (i := 3) rfl rfl)) ?_
      refine A1 8 ?_
      refine AO.app rfl gnone rfl hH100 (j := 2) rfl (fun _ => (sQ (sP (sQ (sQ (sP (sP (sP (sA sR))))))))) (Hp.slFlat nodeL_len hH100 (i := 0) (l := [n84]) rfl (by simp [maxLen])) rfl rfl underlying32 rfl rfl (size := 5) (bytes := 80) rfl rfl rfl (by decide) (node1_one nv86) (by simp only [List.length_cons, List.length_nil]; omega) (by simp only [maxLen, List.length_cons, List.length_nil]; omega) ?_
      intro v106 w104 hH105
      simp only [z0, z1] at hH105
      refine AT 9 rfl (hH105.sub (sQ (sP (sQ (sQ (sP (sP (sP (sA sR))))))))) (fun w hS => fA underlying34 4 rfl sizeOf32 e5_43) ?_
      refine A1 10 ?_
      refine AO.set rfl gnone hH105 (j := 3) rfl (sQ (sP (sQ (sQ (sP (sP (sP (sA sR)))))))) (run_st rfl rfl (v := v106) rfl (row_cells (hH105.get (i := 2) rfl)).1 (row_cells (hH105.get (i := 2) rfl)).2 (hH105.blk (i := 3) rfl) (by first | (show 4 < 5; decide) | decide | (simp only [List.size_toArray, nodeL_len]; decide) | simp)) ?_
      intro w109 hH110
      simp only [z0, z1] at hH110
      refine AD ?_
      refine CW.region ?_
      refine V (run_add e27_43 rfl (by omega)) ?_
      refine V (mV (I _) rfl) ?_
      refine RL.nil ?_
      refine ⟨(k + 1, v106, (gs ++ [n84]), (Z81 ++ Z)), ?_, fr43.u4.u4.u4.u4.u1.u1, (Hp.conv (hH110.sub (sQ (sQ sR))) (by first | rfl | (simp; done) | (simp [nodeL, kidsR, kindR, NodeR.kind, NodeR.place, NodeR.text, NodeR.nv, NodeR.kv]; done))), (congrArg I (by first | rfl | omega)), ?_, ?_, ?_, ?_, ?_⟩
      ·((try dsimp only); omega)
      ·omega
      ·omega
      ·rw [consts_nextR h0, List.map_append, hm]; exact congrArg (_ ++ [·]) nd85
      ·exact (hF.mono (Le.zz fun y hy => List.mem_append_right _ hy)).snoc (NodeV.mono (Le.zz fun y hy => List.mem_append_left _ hy) nv86)
      ·simp only [List.length_append, List.length_singleton]; omega
   ·refine CW.exit (id := 0) rfl ?_
    refine SR ?_
    obtain ⟨Z111, hz112, hv113, -⟩ := hH43.frz (K)
    have hH114 : Hp _ w43 (_ :: _ :: _ :: _ :: (Z111 ++ Z)) := hz112.zin (L := [_, _, _, _]) (L' := Z)
    have hN115 : NodeV (Kz K (Z111 ++ Z)) ((kidsR 4 kv gs)) := kidsR_v (hv113.mono (Le.zz fun x hx => List.mem_append_left _ hx)) (hF.mono (Le.zz fun x hx => List.mem_append_right _ hx))
    refine V (run_ldA (cs := nodeL ((kidsR 4 kv gs))) underlying34 rfl rfl e5_43 (rangeAt_cells (hH114.blk (i := 0) rfl))) ?_
    refine RL.set hH114 (i := 1) rfl (run_stW (c' := (nodeL ((kidsR 4 kv gs))).toArray) rfl e4_43 rfl (nodeL_one hN115) (hH114.blk (i := 1) rfl) rfl) ?_
    intro w116 hH117
    simp only [z0, z1] at hH117
    refine RL.nil ?_
    refine CW.ret ?_
    refine outCg Tryd.results7 e4_43 hH117 (i := 1) rfl underlying34 rfl rfl ⟨(Z111 ++ Z), (hH117.sub (sQ (sQ (sQ (sQ sR))))), (kidsR 4 kv gs), rfl, ?_, hN115⟩
    exact nodeF_t hfit (nf ‹(!s.tuple) = false›) (by omega) hm

theorem c_term_commas (n : Int) (f : FuncId) (cs : List Value) (T : Int → Tx) (hn : 0 ≤ n ∧ n ≤ 9223372036854775807) (hsz : ((upto n).map fun i => (T i).size + 1).sum ≤ 999999996) (w : World) (hf : ∀ args w, (callFunc f args).run Tryd.prog w = .ok (.enter f args) w) (go : ∀ i w', Below w.heap.size w w' → 0 ≤ i → i < n → Calls Tryd.prog f (I i :: cs).toArray w' (Pure (S (T i)) w')) : Calls Tryd.prog 63 #[I n, .func (.func f) #[] cs.toArray] w (Pure (S (commasTo T n)) w) := by
 refine enter Tryd.func63 rfl Tryd.ntmps63 rfl ?_
 have hH := Hp.start w
 refine SR ?_
 refine V (aV (.string ⟨#[]⟩) rfl) ?_
 refine RL.nil ?_
 refine SR ?_
 refine V (aV (.slice none 0 0) rfl) ?_
 have hH1 := hH.nilRow 5 1
 refine RL.nil ?_
 refine CW.seq ?_
 refine SR ?_
 refine V (mV (I _) rfl) ?_
 refine V (mV (I 0) rfl) ?_
 refine RL.nil ?_
 refine CW.block ?_
 refine CW.loop (G := (Int) × (Tx) × (Value)) (fun (⟨k, m, v5⟩ : (Int) × (Tx) × (Value)) s' w' => (Fr [5, 6, 8, 9, 10, 11, 12, 13, 14, 15, 16, 17, 18, 19, 20, 21] _ s') ∧ (Hp w w' (.row v5 5 1 (m.size) (byL m) :: _)) ∧ (s' 5 = v5) ∧ (s' 8 = I k) ∧ (0 ≤ k) ∧ (k ≤ n) ∧ (m = commasTo T k)) (fun (⟨k, m, v5⟩ : (Int) × (Tx) × (Value)) => (n - k).toNat) ((0, tx0, (.slice none 0 0 : Value))) ⟨Fr.refl _ _, hH1, rfl, rfl, (by omega), (by omega), rfl⟩ ?_
 rintro ⟨k, m, v5⟩ sg2 w2 ⟨fr2, hH2, e5_2, e8_2, h0, hk, hm⟩
 have e1_2 : sg2 1 = .func _ _ _ := (fr2 1 rfl).trans rfl
 have e4_2 : sg2 4 = .string _ := (fr2 4 rfl).trans rfl
 have e7_2 : sg2 7 = I _ := (fr2 7 rfl).trans rfl
 subst hm
 refine SR ?_
 refine V (run_lss e8_2 e7_2) ?_
 refine RL.nil ?_
 refine CW.seq ?_
 refine CW.condP rfl (fun h4 => ?_) (fun h4 => ?_)
 ·refine CW.skip ?_
  refine CW.seq ?_
  refine CW.block ?_
  refine SR ?_
  refine V (run_move e8_2) ?_
  refine V (aV (I _) rfl) ?_
  refine RL.nil ?_
  refine CW.seq ?_
  refine SR ?_
  refine V (mV (I _) rfl) ?_
  refine V (run_gtr rfl rfl) ?_
  refine RL.nil ?_
  refine CW.condP rfl (fun h6 => ?_) (fun h6 => ?_)
  ·refine CW.region ?_
   refine V (run_move e5_2) ?_
   refine RL.new rfl hH2 (f := fun b => (.slice (some ⟨b, 0, none⟩) 1 1)) (run_mkL underlying104 rfl rfl (sz := 1) (vs := [.int .u8 44]) rfl rfl (by decide) (by decide) rfl rfl) ?_
   intro b9 w7 hH8
   (try simp only [List.flatMap_cons, List.flatMap_nil, clI, clB, clS, clP, clL, clA, List.append_nil, List.cons_append, List.nil_append] at hH8)
   refine RL.app rfl hH8 (i := 1) rfl (hH8.slBlk (i := 0) (n := 1) (sz := 1) rfl rfl (by decide)) rfl rfl underlying104 rfl rfl (size := 1) (bytes := 1) rfl rfl rfl (by decide) (by simp [Value.oneCell']) (by have := T_sz T h0 ‹k < n›; omega) (by have := T_sz T h0 ‹k < n›; simp only [maxLen]; omega) ?_
   intro v10 w11 hH12
   simp only [z0, z1] at hH12
   refine V (run_assign (by conv => lhs; whnf)) ?_
   refine RL.nil ?_
   refine CW.region ?_
   refine V (run_move (by conv => lhs; whnf)) ?_
   refine V (run_move e1_2) ?_
   refine V (mV (I _) rfl) ?_
   refine RL.callP rfl hH12 (go _ _ hH12.below (by omega) (by omega)) (run_callC1 hf (cs := cs) rfl rfl) ?_
   intro w13 hH14
   refine RL.appS rfl hH14 (i := 1) rfl rfl rfl underlying104 underlying9 rfl rfl rfl rfl (by have := T_sz T h0 ‹k < n›; (try simp only [List.length_cons, List.length_nil]); omega) ?_
   intro v15 w16 hH17
   simp only [z0, z1] at hH17
   refine V (run_assign (by conv => lhs; whnf)) ?_
   refine RL.nil ?_
   refine CW.region ?_
   refine V (run_add e8_2 rfl (by omega)) ?_
   refine V (mV (I _) rfl) ?_
   refine RL.nil ?_
   refine ⟨(k + 1, commasTo T (k + 1), v15), ?_, fr2.u4.u4.u4.u4.u1, (Hp.conv (hH17.sub (sQ sR)) (by first | (rw [← commas_2 ‹0 < k›, tx_size_app, tx_size_app, byL_app, byL_app]; rfl) | (rw [← commas_1 (show k = 0 by omega), tx_size_app, byL_app]))), rfl, (congrArg I (by first | rfl | omega)), ?_, ?_, ?_⟩
   ·((try dsimp only); omega)
   ·omega
   ·omega
   ·rfl
  ·refine CW.skip ?_
   refine CW.region ?_
   refine V (run_move e5_2) ?_
   refine V (run_move e1_2) ?_
   refine V (mV (I _) rfl) ?_
   refine RL.callP rfl hH2 (go _ _ hH2.below (by omega) (by omega)) (run_callC1 hf (cs := cs) rfl rfl) ?_
   intro w18 hH19
   refine RL.appS rfl hH19 (i := 0) rfl rfl rfl underlying104 underlying9 rfl rfl rfl rfl (by have := T_sz T h0 ‹k < n›; (try simp only [List.length_cons, List.length_nil]); omega) ?_
   intro v20 w21 hH22
   simp only [z0, z1] at hH22
   refine V (run_assign (by conv => lhs; whnf)) ?_
   refine RL.nil ?_
   refine CW.region ?_
   refine V (run_add e8_2 rfl (by omega)) ?_
   refine V (mV (I _) rfl) ?_
   refine RL.nil ?_
   refine ⟨(k + 1, commasTo T (k + 1), v20), ?_, fr2.u4.u4.u4.u1, (Hp.conv hH22 (by first | (rw [← commas_2 ‹0 < k›, tx_size_app, tx_size_app, byL_app, byL_app]; rfl) | (rw [← commas_1 (show k = 0 by omega), tx_size_app, byL_app]))), rfl, (congrArg I (by first | rfl | omega)), ?_, ?_, ?_⟩
   ·((try dsimp only); omega)
   ·omega
   ·omega
   ·rfl
 ·refine CW.exit (id := 0) rfl ?_
  refine SR ?_
  refine V (run_move e5_2) ?_
  refine V (run_convBS (s := (commasTo T k)) (hH2.sl (i := 0) rfl) underlying104 underlying5 underlying9 rfl) ?_
  refine V (aV (.string _) rfl) ?_
  refine RL.nil ?_
  refine CW.ret ?_
  refine outP1 Tryd.results63 ?_ hH2.below
  exact congrArg S (by rw [show n = k by omega])

theorem c_term_names_1 (b : Nat) (n : NodeR) (i : Int) (hi : 0 ≤ i ∧ i < n.names.length) (w : World) (hn : NodeV (Kw w) n) (hb : w.heap[b]? = some (.cells (nodeL n).toArray 34 (0, 0))) : Calls Tryd.prog 64 #[I i, .pointer (some ⟨b, 0, none⟩)] w (Pure (S (n.names.getD i.toNat wd0).text) w) := by
 refine enter Tryd.func64 rfl Tryd.ntmps64 rfl ?_
 have hH := Hp.start w
 refine SR ?_
 refine V (aV (.string ⟨#[]⟩) rfl) ?_
 refine RL.nil ?_
 refine SR ?_
 refine V (fA underlying34 3 rfl sizeOf31 rfl) ?_
 refine V (run_ldV (hn.names_.sl.hp hH) underlying31 rfl rfl (hH.extCell hb rfl)) ?_
 refine V (mV (I _) rfl) ?_
 refine V (run_indexAddrS (hn.names_.sl.hp hH) underlying31 sizeOf51 rfl rfl (by omega)) ?_
 refine V (fA underlying51 0 rfl sizeOf9 rfl) ?_
 refine V (run_ldE1 (dv := wd0) (off := 0) wdL_len (hn.names_.sl.hp hH) underlying9 rfl rfl (by omega) rfl) ?_
 refine V (aV (.string _) rfl) ?_
 refine RL.nil ?_
 refine CW.ret ?_
 refine outP1 Tryd.results64 ?_ hH.below
 rfl

theorem c_term_kids_1 (b : Nat) (n : NodeR) (i : Int) (hi : 0 ≤ i ∧ i < n.kids.length) (htx : TxN n.nd) (w : World) (hn : NodeV (Kw w) n) (hb : w.heap[b]? = some (.cells (nodeL n).toArray 34 (0, 0))) (ih : ∀ x ∈ n.kids, TxN x.nd → ∀ w, NodeV (Kw w) x → Calls Tryd.prog 21 #[.agg (nodeL x).toArray] w (Pure (S (textF x.nd)) w)) : Calls Tryd.prog 65 #[I i, .pointer (some ⟨b, 0, none⟩)] w (Pure (S (textF (n.kids.getD i.toNat node0).nd)) w) := by
 refine enter Tryd.func65 rfl Tryd.ntmps65 rfl ?_
 have hH := Hp.start w
 refine SR ?_
 refine V (aV (.string ⟨#[]⟩) rfl) ?_
 refine RL.nil ?_
 refine SR ?_
 refine V (fA underlying34 4 rfl sizeOf32 rfl) ?_
 refine V (run_ldV (hn.kids_.sl.hp hH) underlying32 rfl rfl (hH.extCell hb rfl)) ?_
 refine V (mV (I _) rfl) ?_
 refine V (run_indexAddrS (hn.kids_.sl.hp hH) underlying32 sizeOf34 rfl rfl (by omega)) ?_
 refine V (run_ldE (dv := node0) nodeL_len (hn.kids_.sl.hp hH) underlying34 rfl rfl rfl (by omega)) ?_
 refine RL.callP rfl hH (ih _ (List.mem_of_getElem? (getD_at (d := node0) hi.1 hi.2)) (htx.kidR (List.mem_of_getElem? (getD_at (d := node0) hi.1 hi.2))) _ (NodeV.mono hH.kw (hn.at hi.1 hi.2))) (run_call1 call21 rfl) ?_
 intro w1 hH2
 refine V (aV (.string _) rfl) ?_
 refine RL.nil ?_
 refine CW.ret ?_
 refine outP1 Tryd.results65 ?_ hH2.below
 rfl

theorem c_term_names (n : NodeR) (htx : TxN n.nd) (w : World) (hn : NodeV (Kw w) n) : Calls Tryd.prog 41 #[.agg (nodeL n).toArray] w (Pure (S (namesT n.nd.names)) w) := by
 have hm1 := hn.kids_.small
 have hm2 := hn.names_.small
 unfold maxLen at hm1 hm2
 refine enter Tryd.func41 rfl Tryd.ntmps41 rfl ?_
 have hH := Hp.start w
 refine SR ?_
 refine RL.new rfl hH (f := fun b => (.pointer (some ⟨b, 0, none⟩))) (run_box (v := .agg _) rfl) ?_
 intro b3 w1 hH2
 refine V (aV (.string ⟨#[]⟩) rfl) ?_
 refine RL.nil ?_
 refine SR ?_
 refine V (fA underlying34 3 rfl sizeOf31 rfl) ?_
 refine V (run_ldV (hn.names_.sl.hp hH2) underlying31 rfl rfl (hH2.cell (i := 0) rfl rfl)) ?_
 refine V (run_lenSl (hn.names_.sl.hp hH2) rfl underlying31 rfl) ?_
 refine V (run_mkF1 (by conv => lhs; whnf)) ?_
 refine RL.callP rfl hH2 (c_term_commas _ 64 [.pointer (some ⟨b3, 0, none⟩)] (fun i => (n.names.getD i.toNat wd0).text) (by omega) (names_bd htx) _ call64 (fun i w h h0 h1 => c_term_names_1 b3 n i ⟨h0, h1⟩ w (NodeV.mono (hH2.kw.trans (Kw.below h)) hn) (keep h (hH2.blk (i := 0) rfl)))) (run_call2 call63 rfl rfl) ?_
 intro w4 hH5
 refine V (aV (.string _) rfl) ?_
 refine RL.nil ?_
 refine CW.ret ?_
 refine outP1 Tryd.results41 ?_ hH5.below
 exact congrArg S (names_commas n)

theorem c_term_kids (n : NodeR) (htx : TxN n.nd) (w : World) (hn : NodeV (Kw w) n) (ih : ∀ x ∈ n.kids, TxN x.nd → ∀ w, NodeV (Kw w) x → Calls Tryd.prog 21 #[.agg (nodeL x).toArray] w (Pure (S (textF x.nd)) w)) : Calls Tryd.prog 42 #[.agg (nodeL n).toArray] w (Pure (S (commasF (n.nd.kids.map textF))) w) := by
 have hm1 := hn.kids_.small
 have hm2 := hn.names_.small
 unfold maxLen at hm1 hm2
 refine enter Tryd.func42 rfl Tryd.ntmps42 rfl ?_
 have hH := Hp.start w
 refine SR ?_
 refine RL.new rfl hH (f := fun b => (.pointer (some ⟨b, 0, none⟩))) (run_box (v := .agg _) rfl) ?_
 intro b3 w1 hH2
 refine V (aV (.string ⟨#[]⟩) rfl) ?_
 refine RL.nil ?_
 refine SR ?_
 refine V (fA underlying34 4 rfl sizeOf32 rfl) ?_
 refine V (run_ldV (hn.kids_.sl.hp hH2) underlying32 rfl rfl (hH2.cell (i := 0) rfl rfl)) ?_
 refine V (run_lenSl (hn.kids_.sl.hp hH2) rfl underlying32 rfl) ?_
 refine V (run_mkF1 (by conv => lhs; whnf)) ?_
 refine RL.callP rfl hH2 (c_term_commas _ 65 [.pointer (some ⟨b3, 0, none⟩)] (fun i => textF (n.kids.getD i.toNat node0).nd) (by omega) (kids_bd htx) _ call65 (fun i w h h0 h1 => c_term_kids_1 b3 n i ⟨h0, h1⟩ htx w (NodeV.mono (hH2.kw.trans (Kw.below h)) hn) (keep h (hH2.blk (i := 0) rfl)) ih)) (run_call2 call63 rfl rfl) ?_
 intro w4 hH5
 refine V (aV (.string _) rfl) ?_
 refine RL.nil ?_
 refine CW.ret ?_
 refine outP1 Tryd.results42 ?_ hH5.below
 exact congrArg S (kids_commas n)

theorem s_text (n : NodeR) (htx : TxN n.nd) (w : World) (hn : NodeV (Kw w) n) (ih : ∀ x ∈ n.kids, TxN x.nd → ∀ w, NodeV (Kw w) x → Calls Tryd.prog 21 #[.agg (nodeL x).toArray] w (Pure (S (textF x.nd)) w)) : Calls Tryd.prog 21 #[.agg (nodeL n).toArray] w (Pure (S (textF n.nd)) w) := by
 have hm1 := hn.kids_.small
 have hm2 := hn.names_.small
 unfold maxLen at hm1 hm2
 have hkd := htx.kind
 rw [nd_kind] at hkd
 refine enter Tryd.func21 rfl Tryd.ntmps21 rfl ?_
 have hH := Hp.start w
 refine SR ?_
 refine RL.new rfl hH (f := fun b => (.pointer (some ⟨b, 0, none⟩))) (run_box (v := .agg _) rfl) ?_
 intro b3 w1 hH2
 refine V (aV (.string ⟨#[]⟩) rfl) ?_
 refine RL.nil ?_
 refine CW.seq ?_
 refine SR ?_
 refine V (fA underlying34 0 rfl sizeOf3 rfl) ?_
 refine V (run_ld underlying3 rfl rfl (hH2.cell (i := 0) rfl (v := I _) rfl)) ?_
 refine RL.nil ?_
 refine CW.block ?_
 refine CW.seq ?_
 refine SR ?_
 refine V (run_eql rfl rfl) ?_
 refine V (aV (B _) rfl) ?_
 refine RL.nil ?_
 refine CW.condP rfl (fun h5 => ?_) (fun h5 => ?_)
 ·refine CW.skip ?_
  refine CW.condT (bT h5) ?_
  refine SR ?_
  refine V (fA underlying34 2 rfl sizeOf9 rfl) ?_
  refine V (run_ld underlying9 rfl rfl (hH2.cell (i := 0) rfl (v := .string _) rfl)) ?_
  refine V (aV (.string _) rfl) ?_
  refine RL.nil ?_
  refine CW.ret ?_
  refine outP1 Tryd.results21 ?_ hH2.below
  (refine congrArg S ?_; first | (rw [text_eq, nd_kind, if_pos (.inl ‹n.kind = 1›), nd_text]; done) | (rw [text_eq, nd_kind, if_pos (.inr ‹n.kind = 2›), nd_text]; done) | (rw [text_eq, nd_kind, if_neg (by omega), if_pos ‹n.kind = 3›]; rfl) | (rw [text_eq, nd_kind, if_neg (by omega), if_neg (by omega), if_pos ‹n.kind = 4›]; rfl) | (rw [text_eq, nd_kind, if_neg (by omega), if_neg (by omega), if_neg (by omega), if_pos ‹n.kind = 5›]; rfl) | (rw [text_eq, nd_kind, if_neg (by omega), if_neg (by omega), if_neg (by omega), if_neg (by omega), if_pos ‹n.kind = 6›, nd_text]; rfl) | (rw [text_eq, nd_kind, if_neg (by omega), if_neg (by omega), if_neg (by omega), if_neg (by omega), if_neg (by omega)]))
 ·refine CW.region ?_
  refine V (run_eql rfl rfl) ?_
  refine V (aV (B _) rfl) ?_
  refine RL.nil ?_
  refine CW.condP rfl (fun h7 => ?_) (fun h7 => ?_)
  ·refine SR ?_
   refine V (fA underlying34 2 rfl sizeOf9 rfl) ?_
   refine V (run_ld underlying9 rfl rfl (hH2.cell (i := 0) rfl (v := .string _) rfl)) ?_
   refine V (aV (.string _) rfl) ?_
   refine RL.nil ?_
   refine CW.ret ?_
   refine outP1 Tryd.results21 ?_ hH2.below
   (refine congrArg S ?_; first | (rw [text_eq, nd_kind, if_pos (.inl ‹n.kind = 1›), nd_text]; done) | (rw [text_eq, nd_kind, if_pos (.inr ‹n.kind = 2›), nd_text]; done) | (rw [text_eq, nd_kind, if_neg (by omega), if_pos ‹n.kind = 3›]; rfl) | (rw [text_eq, nd_kind, if_neg (by omega), if_neg (by omega), if_pos ‹n.kind = 4›]; rfl) | (rw [text_eq, nd_kind, if_neg (by omega), if_neg (by omega), if_neg (by omega), if_pos ‹n.kind = 5›]; rfl) | (rw [text_eq, nd_kind, if_neg (by omega), if_neg (by omega), if_neg (by omega), if_neg (by omega), if_pos ‹n.kind = 6›, nd_text]; rfl) | (rw [text_eq, nd_kind, if_neg (by omega), if_neg (by omega), if_neg (by omega), if_neg (by omega), if_neg (by omega)]))
  ·refine SR ?_
   refine V (run_eql rfl rfl) ?_
   refine V (aV (B _) rfl) ?_
   refine RL.nil ?_
   refine CW.condP rfl (fun h9 => ?_) (fun h9 => ?_)
   ·refine SR ?_
    refine V (run_ldA (cs := nodeL _) underlying34 rfl rfl rfl (rangeAt_cells (hH2.blk (i := 0) rfl))) ?_
    refine RL.callP rfl hH2 (c_term_names n htx _ (NodeV.mono hH2.kw hn)) (run_call1 call41 rfl) ?_
    intro w10 hH11
    refine V (run_addS rfl rfl (by have ha := htx.nmT; have hb := htx.kdT; have hc := htx.txT; rw [nd_text] at hc; (try simp only [tx_size_app]); (try simp only [tsz1, tsz2]); omega)) ?_
    refine V (run_addS rfl rfl (by have ha := htx.nmT; have hb := htx.kdT; have hc := htx.txT; rw [nd_text] at hc; (try simp only [tx_size_app]); (try simp only [tsz1, tsz2]); omega)) ?_
    refine V (aV (.string _) rfl) ?_
    refine RL.nil ?_
    refine CW.ret ?_
    refine outP1 Tryd.results21 ?_ hH11.below
    (refine congrArg S ?_; first | (rw [text_eq, nd_kind, if_pos (.inl ‹n.kind = 1›), nd_text]; done) | (rw [text_eq, nd_kind, if_pos (.inr ‹n.kind = 2›), nd_text]; done) | (rw [text_eq, nd_kind, if_neg (by omega), if_pos ‹n.kind = 3›]; rfl) | (rw [text_eq, nd_kind, if_neg (by omega), if_neg (by omega), if_pos ‹n.kind = 4›]; rfl) | (rw [text_eq, nd_kind, if_neg (by omega), if_neg (by omega), if_neg (by omega), if_pos ‹n.kind = 5›]; rfl) | (rw [text_eq, nd_kind, if_neg (by omega), if_neg (by omega), if_neg (by omega), if_neg (by omega), if_pos ‹n.kind = 6›, nd_text]; rfl) | (rw [text_eq, nd_kind, if_neg (by omega), if_neg (by omega), if_neg (by omega), if_neg (by omega), if_neg (by omega)]))
   ·refine SR ?_
    refine V (run_eql rfl rfl) ?_
    refine V (aV (B _) rfl) ?_
    refine RL.nil ?_
    refine CW.condP rfl (fun h13 => ?_) (fun h13 => ?_)
    ·refine SR ?_
     refine V (run_ldA (cs := nodeL _) underlying34 rfl rfl rfl (rangeAt_cells (hH2.blk (i := 0) rfl))) ?_
     refine RL.callP rfl hH2 (c_term_kids n htx _ (NodeV.mono hH2.kw hn) ih) (run_call1 call42 rfl) ?_
     intro w14 hH15
     refine V (run_addS rfl rfl (by have ha := htx.nmT; have hb := htx.kdT; have hc := htx.txT; rw [nd_text] at hc; (try simp only [tx_size_app]); (try simp only [tsz1, tsz2]); omega)) ?_
     refine V (run_addS rfl rfl (by have ha := htx.nmT; have hb := htx.kdT; have hc := htx.txT; rw [nd_text] at hc; (try simp only [tx_size_app]); (try simp only [tsz1, tsz2]); omega)) ?_
     refine V (aV (.string _) rfl) ?_
     refine RL.nil ?_
     refine CW.ret ?_
     refine outP1 Tryd.results21 ?_ hH15.below
     (refine congrArg S ?_; first | (rw [text_eq, nd_kind, if_pos (.inl ‹n.kind = 1›), nd_text]; done) | (rw [text_eq, nd_kind, if_pos (.inr ‹n.kind = 2›), nd_text]; done) | (rw [text_eq, nd_kind, if_neg (by omega), if_pos ‹n.kind = 3›]; rfl) | (rw [text_eq, nd_kind, if_neg (by omega), if_neg (by omega), if_pos ‹n.kind = 4›]; rfl) | (rw [text_eq, nd_kind, if_neg (by omega), if_neg (by omega), if_neg (by omega), if_pos ‹n.kind = 5›]; rfl) | (rw [text_eq, nd_kind, if_neg (by omega), if_neg (by omega), if_neg (by omega), if_neg (by omega), if_pos ‹n.kind = 6›, nd_text]; rfl) | (rw [text_eq, nd_kind, if_neg (by omega), if_neg (by omega), if_neg (by omega), if_neg (by omega), if_neg (by omega)]))
    ·refine SR ?_
     refine V (run_eql rfl rfl) ?_
     refine V (aV (B _) rfl) ?_
     refine RL.nil ?_
     refine CW.condP rfl (fun h17 => ?_) (fun h17 => ?_)
     ·refine SR ?_
      refine V (run_ldA (cs := nodeL _) underlying34 rfl rfl rfl (rangeAt_cells (hH2.blk (i := 0) rfl))) ?_
      refine RL.callP rfl hH2 (c_term_kids n htx _ (NodeV.mono hH2.kw hn) ih) (run_call1 call42 rfl) ?_
      intro w18 hH19
      refine V (run_addS rfl rfl (by have ha := htx.nmT; have hb := htx.kdT; have hc := htx.txT; rw [nd_text] at hc; (try simp only [tx_size_app]); (try simp only [tsz1, tsz2]); omega)) ?_
      refine V (run_addS rfl rfl (by have ha := htx.nmT; have hb := htx.kdT; have hc := htx.txT; rw [nd_text] at hc; (try simp only [tx_size_app]); (try simp only [tsz1, tsz2]); omega)) ?_
      refine V (aV (.string _) rfl) ?_
      refine RL.nil ?_
      refine CW.ret ?_
      refine outP1 Tryd.results21 ?_ hH19.below
      (refine congrArg S ?_; first | (rw [text_eq, nd_kind, if_pos (.inl ‹n.kind = 1›), nd_text]; done) | (rw [text_eq, nd_kind, if_pos (.inr ‹n.kind = 2›), nd_text]; done) | (rw [text_eq, nd_kind, if_neg (by omega), if_pos ‹n.kind = 3›]; rfl) | (rw [text_eq, nd_kind, if_neg (by omega), if_neg (by omega), if_pos ‹n.kind = 4›]; rfl) | (rw [text_eq, nd_kind, if_neg (by omega), if_neg (by omega), if_neg (by omega), if_pos ‹n.kind = 5›]; rfl) | (rw [text_eq, nd_kind, if_neg (by omega), if_neg (by omega), if_neg (by omega), if_neg (by omega), if_pos ‹n.kind = 6›, nd_text]; rfl) | (rw [text_eq, nd_kind, if_neg (by omega), if_neg (by omega), if_neg (by omega), if_neg (by omega), if_neg (by omega)]))
     ·refine SR ?_
      refine V (run_eql rfl rfl) ?_
      refine V (aV (B _) rfl) ?_
      refine RL.nil ?_
      refine CW.condP rfl (fun h21 => ?_) (fun h21 => ?_)
      ·refine CW.seq ?_
       refine CW.regionD (by kernel_rfl) hH2 ?_
       intro w22 hH23
       refine AT 0 rfl (hH23.sub sR) (fun w hS => fA underlying34 2 rfl sizeOf9 rfl) ?_
       refine AT 1 rfl (hH23.sub sR) (fun w hS => run_ld underlying9 rfl rfl (hS.cell (i := 0) rfl (v := .string _) rfl)) ?_
       refine AT 2 rfl (hH23.sub sR) (fun w hS => run_addS rfl rfl (by have ha := htx.nmT; have hb := htx.kdT; have hc := htx.txT; rw [nd_text] at hc; (try simp only [tx_size_app]); (try simp only [tsz1, tsz2]); omega)) ?_
       refine AT 3 rfl (hH23.sub sR) (fun w hS => run_ldA (cs := nodeL _) underlying34 rfl rfl rfl (rangeAt_cells (hS.blk (i := 0) rfl))) ?_
       refine A1 4 ?_
       refine AO.callP rfl gnone rfl hH23 sR (c_term_names n htx _ (NodeV.mono hH23.kw hn)) (run_call1 call41 rfl) ?_
       intro w24 hH25
       refine AT 5 rfl (hH25.sub sR) (fun w hS => run_addS rfl rfl (by have ha := htx.nmT; have hb := htx.kdT; have hc := htx.txT; rw [nd_text] at hc; (try simp only [tx_size_app]); (try simp only [tsz1, tsz2]); omega)) ?_
       refine AT 6 rfl (hH25.sub sR) (fun w hS => run_addS rfl rfl (by have ha := htx.nmT; have hb := htx.kdT; have hc := htx.txT; rw [nd_text] at hc; (try simp only [tx_size_app]); (try simp only [tsz1, tsz2]); omega)) ?_
       refine AT 7 rfl (hH25.sub sR) (fun w hS => aV (.string _) rfl) ?_
       refine AD ?_
       refine CW.ret ?_
       refine outP1 Tryd.results21 ?_ hH25.below
       (refine congrArg S ?_; first | (rw [text_eq, nd_kind, if_pos (.inl ‹n.kind = 1›), nd_text]; done) | (rw [text_eq, nd_kind, if_pos (.inr ‹n.kind = 2›), nd_text]; done) | (rw [text_eq, nd_kind, if_neg (by omega), if_pos ‹n.kind = 3›]; rfl) | (rw [text_eq, nd_kind, if_neg (by omega), if_neg (by omega), if_pos ‹n.kind = 4›]; rfl) | (rw [text_eq, nd_kind, if_neg (by omega), if_neg (by omega), if_neg (by omega), if_pos ‹n.kind = 5›]; rfl) | (rw [text_eq, nd_kind, if_neg (by omega), if_neg (by omega), if_neg (by omega), if_neg (by omega), if_pos ‹n.kind = 6›, nd_text]; rfl) | (rw [text_eq, nd_kind, if_neg (by omega), if_neg (by omega), if_neg (by omega), if_neg (by omega), if_neg (by omega)]))
      ·refine SR ?_
       refine V (run_eql rfl rfl) ?_
       refine V (aV (B _) rfl) ?_
       refine RL.nil ?_
       refine CW.condF (bF ((by omega))) ?_
       refine SR ?_
       refine V (run_eql rfl rfl) ?_
       refine V (aV (B _) rfl) ?_
       refine RL.nil ?_
       refine CW.condF (bF ((by omega))) ?_
       refine SR ?_
       refine V (run_eql rfl rfl) ?_
       refine V (aV (B _) rfl) ?_
       refine RL.nil ?_
       refine CW.condF (bF ((by omega))) ?_
       refine SR ?_
       refine V (run_eql rfl rfl) ?_
       refine V (aV (B _) rfl) ?_
       refine RL.nil ?_
       refine CW.condF (bF ((by omega))) ?_
       refine SR ?_
       refine V (run_eql rfl rfl) ?_
       refine V (aV (B _) rfl) ?_
       refine RL.nil ?_
       refine CW.condF (bF ((by omega))) ?_
       refine CW.skip ?_
       refine SR ?_
       refine V (aV (.string ⟨#[]⟩) rfl) ?_
       refine RL.nil ?_
       refine CW.ret ?_
       refine outP1 Tryd.results21 ?_ hH2.below
       (refine congrArg S ?_; first | (rw [text_eq, nd_kind, if_pos (.inl ‹n.kind = 1›), nd_text]; done) | (rw [text_eq, nd_kind, if_pos (.inr ‹n.kind = 2›), nd_text]; done) | (rw [text_eq, nd_kind, if_neg (by omega), if_pos ‹n.kind = 3›]; rfl) | (rw [text_eq, nd_kind, if_neg (by omega), if_neg (by omega), if_pos ‹n.kind = 4›]; rfl) | (rw [text_eq, nd_kind, if_neg (by omega), if_neg (by omega), if_neg (by omega), if_pos ‹n.kind = 5›]; rfl) | (rw [text_eq, nd_kind, if_neg (by omega), if_neg (by omega), if_neg (by omega), if_neg (by omega), if_pos ‹n.kind = 6›, nd_text]; rfl) | (rw [text_eq, nd_kind, if_neg (by omega), if_neg (by omega), if_neg (by omega), if_neg (by omega), if_neg (by omega)]))
theorem c_term_Text (n : NodeR) : TxN n.nd → ∀ w, NodeV (Kw w) n → Calls Tryd.prog 21 #[.agg (nodeL n).toArray] w (Pure (S (textF n.nd)) w) := node_ind (C := fun n => TxN n.nd → ∀ w, NodeV (Kw w) n → Calls Tryd.prog 21 #[.agg (nodeL n).toArray] w (Pure (S (textF n.nd)) w)) (fun n ih htx w hn => s_text n htx w hn ih) n

theorem c_spell_Text (s : Shp) (e : El) (w : World) (hs : ShpV (Kw w) s) (hT : Tab w) : Calls Tryd.prog 10 #[.agg (shpC s), .agg (elC e)] w (Pure (S (spellF s.sh e)) w) := by
 refine enter Tryd.func10 rfl Tryd.ntmps10 rfl ?_
 have hH := Hp.start w
 refine SR ?_
 refine RL.new rfl hH (f := fun b => (.pointer (some ⟨b, 0, none⟩))) (run_box (v := .agg _) rfl) ?_
 intro b3 w1 hH2
 refine RL.new rfl hH2 (f := fun b => (.pointer (some ⟨b, 0, none⟩))) (run_box (v := .agg _) rfl) ?_
 intro b6 w4 hH5
 refine V (aV (.string ⟨#[]⟩) rfl) ?_
 refine RL.nil ?_
 refine SR ?_
 refine V (run_ldA (cs := [B _, _]) underlying24 rfl rfl rfl (rangeAt_cells (hH5.blk (i := 1) rfl))) ?_
 refine V (run_ldEl underlying27 rfl rfl rfl (hH5.blk (i := 0) rfl)) ?_
 refine RL.callF rfl hH5 (c_spell_Node (Kw w) s e _ hH5.kw hs (hT.hp hH5)) (run_call2 call7 rfl rfl) ?_
 intro v9 w10 Z12 hH11 hp13
 have hH14 : Hp _ w10 (_ :: _ :: Z12) := hH11.zin0 (L := [_, _])
 obtain ⟨n15, rfl, nd16, nv17⟩ := hp13
 refine RL.callP rfl hH14 (c_term_Text n15 (by rw [nd16]; exact node_tx _ _) _ (NodeV.mono (hH14.kz (Le.refl _) (fun x hx => (mT (mT hx)))) nv17)) (run_call1 call21 rfl) ?_
 intro w18 hH19
 refine V (run_addS rfl rfl (by rw [nd16]; have hq := (node_tx s.sh e).text; (try simp only [tx_size_app]); (try simp only [tsz1, tsz2, *]); omega)) ?_
 refine V (aV (.string _) rfl) ?_
 refine RL.nil ?_
 refine CW.ret ?_
 refine outP1 Tryd.results10 ?_ hH19.below
 (rw [nd16]; rfl)

theorem c_clearancelaw11_alive  (w : World) (hT : Tab w) : Calls Tryd.prog 6 #[] w (Pure (B true) w) := by
 refine enter Tryd.func6 rfl Tryd.ntmps6 rfl ?_
 have hH := Hp.start w
 refine SR ?_
 refine V (aV (B false) rfl) ?_
 refine RL.nil ?_
 refine SR ?_
 refine RL.new rfl hH (f := fun b => (.slice (some ⟨b, 0, none⟩) 2 2)) (run_mkL underlying43 rfl rfl (sz := 1) (vs := [.string ⟨#[112]⟩, .string ⟨#[113]⟩]) rfl rfl (by decide) (by decide) rfl rfl) ?_
 intro b3 w1 hH2
 (try simp only [List.flatMap_cons, List.flatMap_nil, clI, clB, clS, clP, clL, clA, List.append_nil, List.cons_append, List.nil_append] at hH2)
 have hH4 : Hp _ w1 ([Ent.blk b3 (.cells (txL exPQ).toArray 9 (0, 0))]) := Hp.zin0 (Z := [Ent.blk b3 (.cells (txL exPQ).toArray 9 (0, 0))]) (L := []) hH2
 have hv5 : SlV (Kz (Kw w) [Ent.blk b3 (.cells (txL exPQ).toArray 9 (0, 0))]) (.slice (some ⟨b3, 0, none⟩) 2 2) 1 2 (txL exPQ) := slv_blk (List.mem_cons_self ..) rfl (by simp [maxLen])
 refine V (run_bld (vs := [(0, U 3#64), (1, U 2#64)]) rfl built_up2) ?_
 refine V (run_bld (vs := [(0, I 2), (1, .agg ((relL twoR).drop 1).toArray)]) rfl built_relA) ?_
 refine V (run_bld (vs := [(0, I 3), (1, .slice (some ⟨b3, 0, none⟩) 2 2), (2, .agg (relC twoR))]) rfl (built_facR 3 b3 2 exPQ)) ?_
 refine RL.new rfl hH4 (f := fun b => (.slice (some ⟨b, 0, none⟩) 1 1)) (run_mkFacs underlying22 rfl rfl rfl (l := [_]) rfl (by decide) (by decide) rfl) ?_
 intro b8 w6 hH7
 have hH9 : Hp _ w6 (([Ent.blk b8 (.cells ([(⟨3, .slice (some ⟨b3, 0, none⟩) 2 2, exPQ, twoR⟩ : Fac)].flatMap facL).toArray 48 (0, 0))] ++ [Ent.blk b3 (.cells (txL exPQ).toArray 9 (0, 0))])) := Hp.zin (Z := [Ent.blk b8 (.cells ([(⟨3, .slice (some ⟨b3, 0, none⟩) 2 2, exPQ, twoR⟩ : Fac)].flatMap facL).toArray 48 (0, 0))]) (L := []) (L' := [Ent.blk b3 (.cells (txL exPQ).toArray 9 (0, 0))]) hH7
 have hv10 : SlV (Kz (Kw w) ([Ent.blk b8 (.cells ([(⟨3, .slice (some ⟨b3, 0, none⟩) 2 2, exPQ, twoR⟩ : Fac)].flatMap facL).toArray 48 (0, 0))] ++ [Ent.blk b3 (.cells (txL exPQ).toArray 9 (0, 0))])) (.slice (some ⟨b8, 0, none⟩) 1 1) 67 1 ([(⟨3, .slice (some ⟨b3, 0, none⟩) 2 2, exPQ, twoR⟩ : Fac)].flatMap facL) := slv_blk (List.mem_cons_self ..) (flat_length facL_len [_]) (by simp [maxLen])
 refine V (run_bld (vs := [(1, .slice (some ⟨b8, 0, none⟩) 1 1)]) rfl (built_shp1 rfl)) ?_
 have hs11 : ShpV (Kz (Kw w) (([Ent.blk b8 (.cells ([(⟨3, .slice (some ⟨b3, 0, none⟩) 2 2, exPQ, twoR⟩ : Fac)].flatMap facL).toArray 48 (0, 0))] ++ [Ent.blk b3 (.cells (txL exPQ).toArray 9 (0, 0))]))) (⟨false, .slice (some ⟨b8, 0, none⟩) 1 1, [(⟨3, .slice (some ⟨b3, 0, none⟩) 2 2, exPQ, twoR⟩ : Fac)]⟩ : Shp) := ⟨hv10, fun x hx => by rw [List.mem_singleton.1 hx]; exact ⟨hv5.mono (Le.zz fun y hy => List.mem_append_right _ hy)⟩⟩
 refine RL.new rfl hH9 (f := fun b => (.pointer (some ⟨b, 0, none⟩))) (run_alloc Tryd.zeroValue24) ?_
 intro b14 w12 hH13
 refine RL.set hH13 (i := 0) rfl (run_stW (c' := #[B false, .slice (some ⟨b8, 0, none⟩) 1 1]) rfl rfl rfl (by simp [Value.oneCell']) (hH13.blk (i := 0) rfl) rfl) ?_
 intro w15 hH16
 simp only [z0, z1] at hH16
 refine RL.nil ?_
 refine SR ?_
 refine V (run_bld (vs := [(0, .string ⟨#[113]⟩)]) rfl (built_wdLs _)) ?_
 refine RL.new rfl hH16 (f := fun b => (.slice (some ⟨b, 0, none⟩) 1 1)) (run_mkRecs wdL_len underlying31 rfl rfl rfl (l := [_]) rfl (by decide) (by decide) rfl) ?_
 intro b19 w17 hH18
 have hH20 : Hp _ w17 (_ :: ([Ent.blk b19 (.cells ([(⟨⟨#[113]⟩, 0⟩ : Wd)].flatMap wdL).toArray 51 (0, 0))] ++ ([Ent.blk b8 (.cells ([(⟨3, .slice (some ⟨b3, 0, none⟩) 2 2, exPQ, twoR⟩ : Fac)].flatMap facL).toArray 48 (0, 0))] ++ [Ent.blk b3 (.cells (txL exPQ).toArray 9 (0, 0))]))) := Hp.zin (Z := [Ent.blk b19 (.cells ([(⟨⟨#[113]⟩, 0⟩ : Wd)].flatMap wdL).toArray 51 (0, 0))]) (L := [_]) (L' := ([Ent.blk b8 (.cells ([(⟨3, .slice (some ⟨b3, 0, none⟩) 2 2, exPQ, twoR⟩ : Fac)].flatMap facL).toArray 48 (0, 0))] ++ [Ent.blk b3 (.cells (txL exPQ).toArray 9 (0, 0))])) hH18
 have hv21 : SlV (Kz (Kw w) ([Ent.blk b19 (.cells ([(⟨⟨#[113]⟩, 0⟩ : Wd)].flatMap wdL).toArray 51 (0, 0))] ++ ([Ent.blk b8 (.cells ([(⟨3, .slice (some ⟨b3, 0, none⟩) 2 2, exPQ, twoR⟩ : Fac)].flatMap facL).toArray 48 (0, 0))] ++ [Ent.blk b3 (.cells (txL exPQ).toArray 9 (0, 0))]))) (.slice (some ⟨b19, 0, none⟩) 1 1) 2 1 ([(⟨⟨#[113]⟩, 0⟩ : Wd)].flatMap wdL) := slv_blk (List.mem_cons_self ..) (flat_length wdL_len [_]) (by simp [maxLen])
 refine V (run_bld (vs := [(0, I 6), (2, S ⟨#[112]⟩), (3, .slice (some ⟨b19, 0, none⟩) 1 1)]) rfl (built_nodeTN rfl 6 ⟨#[112]⟩ [⟨⟨#[113]⟩, 0⟩])) ?_
 refine RL.new rfl hH20 (f := fun b => (.slice (some ⟨b, 0, none⟩) 1 1)) (run_mkRecs nodeL_len underlying32 rfl rfl rfl (l := [_]) rfl (by decide) (by decide) rfl) ?_
 intro b24 w22 hH23
 have hH25 : Hp _ w22 (_ :: ([Ent.blk b24 (.cells ([(kindR 6 ⟨#[112]⟩ (.slice (some ⟨b19, 0, none⟩) 1 1) [⟨⟨#[113]⟩, 0⟩])].flatMap nodeL).toArray 34 (0, 0))] ++ ([Ent.blk b19 (.cells ([(⟨⟨#[113]⟩, 0⟩ : Wd)].flatMap wdL).toArray 51 (0, 0))] ++ ([Ent.blk b8 (.cells ([(⟨3, .slice (some ⟨b3, 0, none⟩) 2 2, exPQ, twoR⟩ : Fac)].flatMap facL).toArray 48 (0, 0))] ++ [Ent.blk b3 (.cells (txL exPQ).toArray 9 (0, 0))])))) := Hp.zin (Z := [Ent.blk b24 (.cells ([(kindR 6 ⟨#[112]⟩ (.slice (some ⟨b19, 0, none⟩) 1 1) [⟨⟨#[113]⟩, 0⟩])].flatMap nodeL).toArray 34 (0, 0))]) (L := [_]) (L' := ([Ent.blk b19 (.cells ([(⟨⟨#[113]⟩, 0⟩ : Wd)].flatMap wdL).toArray 51 (0, 0))] ++ ([Ent.blk b8 (.cells ([(⟨3, .slice (some ⟨b3, 0, none⟩) 2 2, exPQ, twoR⟩ : Fac)].flatMap facL).toArray 48 (0, 0))] ++ [Ent.blk b3 (.cells (txL exPQ).toArray 9 (0, 0))]))) hH23
 have hv26 : SlV (Kz (Kw w) ([Ent.blk b24 (.cells ([(kindR 6 ⟨#[112]⟩ (.slice (some ⟨b19, 0, none⟩) 1 1) [⟨⟨#[113]⟩, 0⟩])].flatMap nodeL).toArray 34 (0, 0))] ++ ([Ent.blk b19 (.cells ([(⟨⟨#[113]⟩, 0⟩ : Wd)].flatMap wdL).toArray 51 (0, 0))] ++ ([Ent.blk b8 (.cells ([(⟨3, .slice (some ⟨b3, 0, none⟩) 2 2, exPQ, twoR⟩ : Fac)].flatMap facL).toArray 48 (0, 0))] ++ [Ent.blk b3 (.cells (txL exPQ).toArray 9 (0, 0))])))) (.slice (some ⟨b24, 0, none⟩) 1 1) 5 1 ([(kindR 6 ⟨#[112]⟩ (.slice (some ⟨b19, 0, none⟩) 1 1) [⟨⟨#[113]⟩, 0⟩])].flatMap nodeL) := slv_blk (List.mem_cons_self ..) (flat_length nodeL_len [_]) (by simp [maxLen])
 refine V (run_bld (vs := [(0, I 5), (4, .slice (some ⟨b24, 0, none⟩) 1 1)]) rfl (built_nodeKd 5 b24 1 [(kindR 6 ⟨#[112]⟩ (.slice (some ⟨b19, 0, none⟩) 1 1) [⟨⟨#[113]⟩, 0⟩])])) ?_
 have hn27 : NodeV (Kz (Kw w) (([Ent.blk b24 (.cells ([(kindR 6 ⟨#[112]⟩ (.slice (some ⟨b19, 0, none⟩) 1 1) [⟨⟨#[113]⟩, 0⟩])].flatMap nodeL).toArray 34 (0, 0))] ++ ([Ent.blk b19 (.cells ([(⟨⟨#[113]⟩, 0⟩ : Wd)].flatMap wdL).toArray 51 (0, 0))] ++ ([Ent.blk b8 (.cells ([(⟨3, .slice (some ⟨b3, 0, none⟩) 2 2, exPQ, twoR⟩ : Fac)].flatMap facL).toArray 48 (0, 0))] ++ [Ent.blk b3 (.cells (txL exPQ).toArray 9 (0, 0))]))))) (kidsR 5 (.slice (some ⟨b24, 0, none⟩) 1 1) [(kindR 6 ⟨#[112]⟩ (.slice (some ⟨b19, 0, none⟩) 1 1) [⟨⟨#[113]⟩, 0⟩])]) := kidsR_v hv26 ⟨fun x hx => by rw [List.mem_singleton.1 hx]; exact kindR_v (hv21.mono (Le.zz fun y hy => List.mem_append_right _ hy))⟩
 have hnd : (kidsR 5 (.slice (some ⟨b24, 0, none⟩) 1 1) [(kindR 6 ⟨#[112]⟩ (.slice (some ⟨b19, 0, none⟩) 1 1) [⟨⟨#[113]⟩, 0⟩])]).nd = exNd := by rw [kidsR_nd, List.map_cons, List.map_nil, kindR_nd]; rfl
 refine RL.new rfl hH25 (f := fun b => (.pointer (some ⟨b, 0, none⟩))) (run_alloc Tryd.zeroValue34) ?_
 intro b30 w28 hH29
 refine RL.set hH29 (i := 0) rfl (run_stW (c' := (nodeL (kidsR 5 (.slice (some ⟨b24, 0, none⟩) 1 1) [(kindR 6 ⟨#[112]⟩ (.slice (some ⟨b19, 0, none⟩) 1 1) [⟨⟨#[113]⟩, 0⟩])])).toArray) rfl rfl rfl (nodeL_one hn27) (hH29.blk (i := 0) rfl) rfl) ?_
 intro w31 hH32
 simp only [z0, z1] at hH32
 refine RL.nil ?_
 refine SR ?_
 refine V (run_ldA (cs := [B _, _]) underlying24 rfl rfl rfl (rangeAt_cells (hH32.blk (i := 1) rfl))) ?_
 refine V (run_ldA (cs := nodeL _) underlying34 rfl rfl rfl (rangeAt_cells (hH32.blk (i := 0) rfl))) ?_
 refine RL.callP rfl hH32 (c_spell_Elem (⟨false, .slice (some ⟨b8, 0, none⟩) 1 1, [(⟨3, .slice (some ⟨b3, 0, none⟩) 2 2, exPQ, twoR⟩ : Fac)]⟩ : Shp) (kidsR 5 (.slice (some ⟨b24, 0, none⟩) 1 1) [(kindR 6 ⟨#[112]⟩ (.slice (some ⟨b19, 0, none⟩) 1 1) [⟨⟨#[113]⟩, 0⟩])]) _ (hs11.mono (hH32.kz (Le.refl _) (fun x hx => (mT (mT (List.mem_append_right _ (List.mem_append_right _ hx))))))) (NodeV.mono (hH32.kz (Le.refl _) (fun x hx => (mT (mT hx)))) hn27) (hT.hp hH32)) (run_call2 call8 rfl rfl) ?_
 intro w33 hH34
 refine V (run_move (by conv => lhs; whnf)) ?_
 refine V (run_extract rfl (v := .agg _) rfl) ?_
 refine V (run_extract rfl (v := .agg _) rfl) ?_
 refine RL.new rfl hH34 (f := fun b => (.pointer (some ⟨b, 0, none⟩))) (run_alloc zero_el) ?_
 intro b37 w35 hH36
 refine RL.new rfl hH36 (f := fun b => (.pointer (some ⟨b, 0, none⟩))) (run_alloc zero_flt) ?_
 intro b40 w38 hH39
 refine RL.set hH39 (i := 1) rfl (run_stEl rfl rfl rfl (hH39.blk (i := 1) rfl)) ?_
 intro w41 hH42
 simp only [z0, z1] at hH42
 refine RL.set hH42 (i := 0) rfl (run_stW (c' := (fltL _).toArray) rfl rfl rfl (by simp [fltL, Value.oneCell']) (hH42.blk (i := 0) rfl) rfl) ?_
 intro w43 hH44
 simp only [z0, z1] at hH44
 refine RL.nil ?_
 refine SR ?_
 refine V (run_ldA (cs := fltL _) underlying37 rfl rfl rfl (rangeAt_cells (hH44.blk (i := 0) rfl))) ?_
 refine V (run_bld (vs := []) rfl (built_fltL0)) ?_
 refine V (run_eqlT (eq_flt _ _) rfl rfl) ?_
 refine V (mV (B _) rfl) ?_
 refine RL.gT rfl (bT ((by rw [hnd]; exact exG_E.1))) ?_
 refine V (run_ldEl underlying27 rfl rfl rfl (hH44.blk (i := 1) rfl)) ?_
 refine RL.gT rfl (bT ((by rw [hnd]; exact exG_E.1))) ?_
 refine V (run_bld (vs := [(0, U 1#64)]) rfl (built_el1 _)) ?_
 refine RL.gT rfl (bT ((by rw [hnd]; exact exG_E.1))) ?_
 refine V (run_eqlEl elT_fact rfl rfl) ?_
 refine V (run_pickT (bT ((by rw [hnd]; exact exG_E.1))) (v := B _) rfl) ?_
 refine V (mV (B _) rfl) ?_
 refine RL.gT rfl (bT ((by rw [hnd]; exact exG_E.2))) ?_
 refine V (run_ldA (cs := [B _, _]) underlying24 rfl rfl rfl (rangeAt_cells (hH44.blk (i := 3) rfl))) ?_
 refine RL.gT rfl (bT ((by rw [hnd]; exact exG_E.2))) ?_
 refine V (run_ldEl underlying27 rfl rfl rfl (hH44.blk (i := 1) rfl)) ?_
 refine RL.gT rfl (bT ((by rw [hnd]; exact exG_E.2))) ?_
 refine RL.callP rfl hH44 (c_spell_Text (⟨false, .slice (some ⟨b8, 0, none⟩) 1 1, [(⟨3, .slice (some ⟨b3, 0, none⟩) 2 2, exPQ, twoR⟩ : Fac)]⟩ : Shp) _ _ (hs11.mono (hH44.kz (Le.refl _) (fun x hx => (mT (mT (mT (mT (List.mem_append_right _ (List.mem_append_right _ hx))))))))) (hT.hp hH44)) (run_call2 call10 rfl rfl) ?_
 intro w47 hH48
 refine RL.gT rfl (bT ((by rw [hnd]; exact exG_E.2))) ?_
 refine V (run_eqlS rfl rfl) ?_
 refine V (run_pickT (bT ((by rw [hnd]; exact exG_E.2))) (v := B _) rfl) ?_
 refine V (aV (B _) rfl) ?_
 refine RL.nil ?_
 refine CW.ret ?_
 refine outP1 Tryd.results6 (congrArg B ?_) hH48.below
 exact decide_eq_true (by rw [hnd]; exact exG_S exG_E.2)

theorem c_clearancelaw11_SpellBack (s : Shp) (a c : El) (w : World) (hs : ShpV (Kw w) s) (hT : Tab w) : Calls Tryd.prog 3 #[.agg (shpC s), .agg (elC a), .agg (elC c)] w (Pure (B true) w) := by
 refine enter Tryd.func3 rfl Tryd.ntmps3 rfl ?_
 have hH := Hp.start w
 refine SR ?_
 refine RL.new rfl hH (f := fun b => (.pointer (some ⟨b, 0, none⟩))) (run_box (v := .agg _) rfl) ?_
 intro b3 w1 hH2
 refine RL.new rfl hH2 (f := fun b => (.pointer (some ⟨b, 0, none⟩))) (run_box (v := .agg _) rfl) ?_
 intro b6 w4 hH5
 refine RL.new rfl hH5 (f := fun b => (.pointer (some ⟨b, 0, none⟩))) (run_box (v := .agg _) rfl) ?_
 intro b9 w7 hH8
 refine V (aV (B false) rfl) ?_
 refine RL.nil ?_
 refine CW.seq ?_
 refine SR ?_
 refine V (run_ldA (cs := [B _, _]) underlying24 rfl rfl rfl (rangeAt_cells (hH8.blk (i := 2) rfl))) ?_
 refine RL.callP rfl hH8 (c_clearancelaw07_Big _  _ (hs.mono hH8.kw)) (run_call1 call4 rfl) ?_
 intro w10 hH11
 refine V (mV (B _) rfl) ?_
 refine RL.split (dj := 12) rfl (fun h13 => ?_) (fun h13 => ?_)
 ·refine RL.gF rfl rfl (bR (c := true) h13) rfl ?_
  refine RL.gF rfl rfl (bR (c := true) h13) rfl ?_
  refine RL.gF rfl rfl (bR (c := true) h13) rfl ?_
  refine RL.gF rfl rfl (bR (c := true) h13) rfl ?_
  refine V (run_pickT (bR (c := true) h13) (v := B true) rfl) ?_
  refine V (mV (B _) rfl) ?_
  refine RL.gF rfl rfl rfl rfl ?_
  refine RL.gF rfl rfl rfl rfl ?_
  refine RL.gF rfl rfl rfl rfl ?_
  refine RL.gF rfl rfl rfl rfl ?_
  refine V (run_pickT rfl (v := B true) rfl) ?_
  refine RL.nil ?_
  refine CW.condT rfl ?_
  refine SR ?_
  refine RL.callP rfl hH11 (c_clearancelaw11_alive   _ (hT.hp hH11)) (run_call0 call6) ?_
  intro w14 hH15
  refine V (aV (B _) rfl) ?_
  refine RL.nil ?_
  refine CW.ret ?_
  refine outP1 Tryd.results3 (congrArg B ?_) hH15.below
  rfl
 ·refine RL.gT rfl (bR (c := false) h13) ?_
  refine V (run_ldA (cs := [B _, _]) underlying24 rfl rfl rfl (rangeAt_cells (hH11.blk (i := 2) rfl))) ?_
  refine RL.gT rfl (bR (c := false) h13) ?_
  refine V (run_ldEl underlying27 rfl rfl rfl (hH11.blk (i := 1) rfl)) ?_
  refine RL.gT rfl (bR (c := false) h13) ?_
  refine RL.callP rfl hH11 (c_shape_Fits _ _  _ (hs.mono hH11.kw) (hT.hp hH11)) (run_call2 call5 rfl rfl) ?_
  intro w17 hH18
  refine RL.gT rfl (bR (c := false) h13) ?_
  refine V (run_not rfl) ?_
  refine V (run_pickF (bR (c := false) h13) (v := B _) rfl) ?_
  refine V (mV (B _) rfl) ?_
  refine RL.split (dj := 18) rfl (fun h21 => ?_) (fun h21 => ?_)
  ·refine RL.gF rfl rfl (bR (c := true) h21) rfl ?_
   refine RL.gF rfl rfl (bR (c := true) h21) rfl ?_
   refine RL.gF rfl rfl (bR (c := true) h21) rfl ?_
   refine RL.gF rfl rfl (bR (c := true) h21) rfl ?_
   refine V (run_pickT (bR (c := true) h21) (v := B true) rfl) ?_
   refine RL.nil ?_
   refine CW.condT rfl ?_
   refine SR ?_
   refine RL.callP rfl hH18 (c_clearancelaw11_alive   _ (hT.hp hH18)) (run_call0 call6) ?_
   intro w22 hH23
   refine V (aV (B _) rfl) ?_
   refine RL.nil ?_
   refine CW.ret ?_
   refine outP1 Tryd.results3 (congrArg B ?_) hH23.below
   rfl
  ·refine RL.gT rfl (bR (c := false) h21) ?_
   refine V (run_ldA (cs := [B _, _]) underlying24 rfl rfl rfl (rangeAt_cells (hH18.blk (i := 2) rfl))) ?_
   refine RL.gT rfl (bR (c := false) h21) ?_
   refine V (run_ldEl underlying27 rfl rfl rfl (hH18.blk (i := 0) rfl)) ?_
   refine RL.gT rfl (bR (c := false) h21) ?_
   refine RL.callP rfl hH18 (c_shape_Fits _ _  _ (hs.mono hH18.kw) (hT.hp hH18)) (run_call2 call5 rfl rfl) ?_
   intro w25 hH26
   refine RL.gT rfl (bR (c := false) h21) ?_
   refine V (run_not rfl) ?_
   refine V (run_pickF (bR (c := false) h21) (v := B _) rfl) ?_
   refine RL.nil ?_
   refine CW.cond rfl (fun h29 => ?_) (fun h29 => ?_)
   ·refine SR ?_
    refine RL.callP rfl hH26 (c_clearancelaw11_alive   _ (hT.hp hH26)) (run_call0 call6) ?_
    intro w30 hH31
    refine V (aV (B _) rfl) ?_
    refine RL.nil ?_
    refine CW.ret ?_
    refine outP1 Tryd.results3 (congrArg B ?_) hH31.below
    rfl
   ·refine CW.skip ?_
    refine SR ?_
    refine V (run_ldA (cs := [B _, _]) underlying24 rfl rfl rfl (rangeAt_cells (hH26.blk (i := 2) rfl))) ?_
    refine V (run_ldEl underlying27 rfl rfl rfl (hH26.blk (i := 1) rfl)) ?_
    refine RL.callF rfl hH26 (c_spell_Node (Kw w) s a _ hH26.kw hs (hT.hp hH26)) (run_call2 call7 rfl rfl) ?_
    intro v35 w36 Z38 hH37 hp39
    have hH40 : Hp _ w36 (_ :: _ :: _ :: Z38) := hH37.zin0 (L := [_, _, _])
    obtain ⟨n41, rfl, nd42, nv43⟩ := hp39
    refine RL.new rfl hH40 (f := fun b => (.pointer (some ⟨b, 0, none⟩))) (run_alloc Tryd.zeroValue34) ?_
    intro b46 w44 hH45
    refine RL.set hH45 (i := 0) rfl (run_stW (c' := (nodeL n41).toArray) rfl rfl rfl (nodeL_one nv43) (hH45.blk (i := 0) rfl) rfl) ?_
    intro w47 hH48
    simp only [z0, z1] at hH48
    refine RL.nil ?_
    refine SR ?_
    refine V (run_ldA (cs := [B _, _]) underlying24 rfl rfl rfl (rangeAt_cells (hH48.blk (i := 3) rfl))) ?_
    refine V (run_ldA (cs := nodeL _) underlying34 rfl rfl rfl (rangeAt_cells (hH48.blk (i := 0) rfl))) ?_
    refine RL.callP rfl hH48 (c_spell_Elem s n41 _ (hs.mono hH48.kw) (NodeV.mono (hH48.kz (Le.refl _) (fun x hx => (mT (mT (mT (mT hx)))))) nv43) (hT.hp hH48)) (run_call2 call8 rfl rfl) ?_
    intro w49 hH50
    refine V (run_move (by conv => lhs; whnf)) ?_
    refine V (run_extract rfl (v := .agg _) rfl) ?_
    refine V (run_extract rfl (v := .agg _) rfl) ?_
    refine RL.new rfl hH50 (f := fun b => (.pointer (some ⟨b, 0, none⟩))) (run_alloc zero_el) ?_
    intro b53 w51 hH52
    refine RL.new rfl hH52 (f := fun b => (.pointer (some ⟨b, 0, none⟩))) (run_alloc zero_flt) ?_
    intro b56 w54 hH55
    refine RL.set hH55 (i := 1) rfl (run_stEl rfl rfl rfl (hH55.blk (i := 1) rfl)) ?_
    intro w57 hH58
    simp only [z0, z1] at hH58
    refine RL.set hH58 (i := 0) rfl (run_stW (c' := (fltL _).toArray) rfl rfl rfl (by simp [fltL, Value.oneCell']) (hH58.blk (i := 0) rfl) rfl) ?_
    intro w59 hH60
    simp only [z0, z1] at hH60
    refine RL.nil ?_
    refine CW.seq ?_
    have hfa := nf ‹(!fitsS s.sh a) = false›
    have hfc := nf ‹(!fitsS s.sh c) = false›
    refine CW.regionD (by kernel_rfl) hH60 ?_
    intro w61 hH62
    refine AT 0 rfl (hH62.sub sR) (fun w hS => run_ldA (cs := nodeL _) underlying34 rfl rfl rfl (rangeAt_cells (hS.blk (i := 2) rfl))) ?_
    refine A1 1 ?_
    refine AO.callP rfl gnone rfl hH62 sR (c_term_IsConst n41 _ (NodeV.mono (hH62.kz (Le.refl _) (fun x hx => (mT (mT (mT (mT (mT (mT hx)))))))) nv43)) (run_call1 call9 rfl) ?_
    intro w63 hH64
    refine AT 2 rfl (hH64.sub sR) (fun w hS => mV (B _) rfl) ?_
    refine AG 3 rfl rfl (bR (c := true) ((by rw [nd42]; exact node_const hfa))) (hH64.sub sR) (fun w hS => run_ldA (cs := fltL _) underlying37 rfl rfl rfl (rangeAt_cells (hS.blk (i := 0) rfl))) ?_
    refine AG 4 rfl rfl (bR (c := true) ((by rw [nd42]; exact node_const hfa))) (hH64.sub sR) (fun w hS => run_bld (vs := []) rfl (built_fltL0)) ?_
    refine AG 5 rfl rfl (bR (c := true) ((by rw [nd42]; exact node_const hfa))) (hH64.sub sR) (fun w hS => run_eqlT (eq_flt _ _) rfl rfl) ?_
    refine AT 6 rfl (hH64.sub sR) (fun w hS => run_pickT (bR (c := true) ((by rw [nd42]; exact node_const hfa))) (v := B _) rfl) ?_
    refine AT 7 rfl (hH64.sub sR) (fun w hS => mV (B _) rfl) ?_
    refine AG 8 rfl rfl (bT ((res_back nd42 hfa).1)) (hH64.sub sR) (fun w hS => run_ldEl underlying27 rfl rfl rfl (hS.blk (i := 1) rfl)) ?_
    refine AG 9 rfl rfl (bT ((res_back nd42 hfa).1)) (hH64.sub sR) (fun w hS => run_ldEl underlying27 rfl rfl rfl (hS.blk (i := 4) rfl)) ?_
    refine AG 10 rfl rfl (bT ((res_back nd42 hfa).1)) (hH64.sub sR) (fun w hS => run_eqlEl elT_fact rfl rfl) ?_
    refine AT 11 rfl (hH64.sub sR) (fun w hS => run_pickT (bT ((res_back nd42 hfa).1)) (v := B _) rfl) ?_
    refine AT 12 rfl (hH64.sub sR) (fun w hS => mV (B _) rfl) ?_
    refine AG 13 rfl rfl (bT ((res_back nd42 hfa).2)) (hH64.sub sR) (fun w hS => run_ldA (cs := [B _, _]) underlying24 rfl rfl rfl (rangeAt_cells (hS.blk (i := 5) rfl))) ?_
    refine AG 14 rfl rfl (bT ((res_back nd42 hfa).2)) (hH64.sub sR) (fun w hS => run_ldEl underlying27 rfl rfl rfl (hS.blk (i := 4) rfl)) ?_
    refine AG 16 rfl rfl (bT ((res_back nd42 hfa).2)) (hH64.sub sR) (fun w hS => run_ldA (cs := [B _, _]) underlying24 rfl rfl rfl (rangeAt_cells (hS.blk (i := 5) rfl))) ?_
    refine AG 17 rfl rfl (bT ((res_back nd42 hfa).2)) (hH64.sub sR) (fun w hS => run_ldEl underlying27 rfl rfl rfl (hS.blk (i := 3) rfl)) ?_
    refine AG 20 rfl rfl (bT ((res_back nd42 hfa).2)) (hH64.sub sR) (fun w hS => run_ldEl underlying27 rfl rfl rfl (hS.blk (i := 4) rfl)) ?_
    refine AG 21 rfl rfl (bT ((res_back nd42 hfa).2)) (hH64.sub sR) (fun w hS => run_ldEl underlying27 rfl rfl rfl (hS.blk (i := 3) rfl)) ?_
    refine AG 22 rfl rfl (bT ((res_back nd42 hfa).2)) (hH64.sub sR) (fun w hS => run_eqlEl elT_fact rfl rfl) ?_
    refine A1 15 ?_
    refine AO.callP rfl (gsome rfl (bT ((res_back nd42 hfa).2))) rfl hH64 sR (c_spell_Text _ _  _ (hs.mono hH64.kw) (hT.hp hH64)) (run_call2 call10 rfl rfl) ?_
    intro w69 hH70
    refine A1 18 ?_
    refine AO.callP rfl (gsome rfl (bT ((res_back nd42 hfa).2))) rfl hH70 sR (c_spell_Text _ _  _ (hs.mono hH70.kw) (hT.hp hH70)) (run_call2 call10 rfl rfl) ?_
    intro w71 hH72
    refine AG 19 rfl rfl (bT ((res_back nd42 hfa).2)) (hH72.sub sR) (fun w hS => run_eqlS rfl rfl) ?_
    refine AG 23 rfl rfl (bT ((res_back nd42 hfa).2)) (hH72.sub sR) (fun w hS => run_eqlB underlying4 rfl rfl) ?_
    refine AT 24 rfl (hH72.sub sR) (fun w hS => run_pickT (bT ((res_back nd42 hfa).2)) (v := B _) rfl) ?_
    refine AT 25 rfl (hH72.sub sR) (fun w hS => mV (B _) rfl) ?_
    refine A1 26 ?_
    refine AO.callP rfl (gsome rfl (bR (c := true) ((by rw [spell_eq hfa hfc]; exact beq_self_eq_true _)))) rfl hH72 sR (c_clearancelaw11_alive   _ (hT.hp hH72)) (run_call0 call6) ?_
    intro w75 hH76
    refine AT 27 rfl (hH76.sub sR) (fun w hS => run_pickT (bR (c := true) ((by rw [spell_eq hfa hfc]; exact beq_self_eq_true _))) (v := B _) rfl) ?_
    refine AT 28 rfl (hH76.sub sR) (fun w hS => aV (B _) rfl) ?_
    refine AD ?_
    refine CW.ret ?_
    refine outP1 Tryd.results3 (congrArg B ?_) hH76.below
    rfl

end Go.Proofs.YtningfhcklabmaaDoor.W
