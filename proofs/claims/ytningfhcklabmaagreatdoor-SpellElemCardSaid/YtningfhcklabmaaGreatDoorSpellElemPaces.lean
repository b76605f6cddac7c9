/-
  The walks of the functions that the laws of this seat reach, part 3: each returns what its plain counterpart tells, and turns nothing that was there.
-/
import Derived.Test.YtningfhcklabmaaGreatDoorProg
import Derived.Test.YtningfhcklabmaaGreatDoorEnv
import Derived.Test.YtningfhcklabmaaGreatDoorPlain
import Derived.Test.YtningfhcklabmaaGreatDoorBase
import Derived.Test.YtningfhcklabmaaGreatDoorOrd
import Derived.Test.YtningfhcklabmaaGreatDoorRel
import Derived.Test.YtningfhcklabmaaGreatDoorClo
import Derived.Test.YtningfhcklabmaaGreatDoorCov
import Derived.Test.YtningfhcklabmaaGreatDoorArr
import Derived.Test.YtningfhcklabmaaGreatDoorHas
import Derived.Test.YtningfhcklabmaaGreatDoorGrd
import Derived.Test.YtningfhcklabmaaGreatDoorStr
import Derived.Test.YtningfhcklabmaaGreatDoorVu
import Derived.Test.YtningfhcklabmaaGreatDoorShp
import Derived.Test.YtningfhcklabmaaGreatDoorShl
import Derived.Test.YtningfhcklabmaaGreatDoorShq
import Derived.Test.YtningfhcklabmaaGreatDoorShr
import Derived.Test.YtningfhcklabmaaGreatDoorCut
import Derived.Test.YtningfhcklabmaaGreatDoorRec
import Derived.Test.YtningfhcklabmaaGreatDoorOut
import Derived.Test.YtningfhcklabmaaGreatDoorScp
import Derived.Test.YtningfhcklabmaaGreatDoorScq
import Derived.Test.YtningfhcklabmaaGreatDoorByt
import Derived.Test.YtningfhcklabmaaGreatDoorNod
import Derived.Test.YtningfhcklabmaaGreatDoorSpl
import Derived.Test.YtningfhcklabmaaGreatDoorSpb
import Derived.Test.YtningfhcklabmaaGreatDoorSpt
import Derived.Test.YtningfhcklabmaaGreatDoorSpn
import Derived.Test.YtningfhcklabmaaGreatDoorSpx
import Derived.Test.YtningfhcklabmaaGreatDoorSpy
import Derived.Test.YtningfhcklabmaaGreatDoorMin
import Derived.Test.YtningfhcklabmaaGreatDoorSpellElemPacesB
namespace Go.Proofs.YtningfhcklabmaaGreatDoor.W
open Go Go.RowKit Go.Proofs.YtningfhcklabmaaGreatDoor.E Go.Proofs.YtningfhcklabmaaGreatDoor.M
set_option linter.unusedVariables false
set_option linter.unusedSimpArgs false
set_option maxRecDepth 100000
open Tryz

theorem c_spell_Elem (s : Shp) (n : NodeR) (w : World) (hs : ShpV (Kw w) s) (hn : NodeV (Kw w) n) (hT : Tab w) : Calls Tryz.prog 9 #[.agg (shpC s), .agg (nodeL n).toArray] w (Pure (.tuple #[.agg (elC (resE (elemG s.sh n.nd)).1), .agg (fltL (resE (elemG s.sh n.nd)).2).toArray]) w) := by
 have hsl := sh_len s
 have hm := hs.facs.sl.small
 unfold maxLen at hm
 have hnv := partsR_v (s := s) hn
 refine enter Tryz.func9 rfl Tryz.ntmps9 rfl ?_
 have hH := Hp.start w
 refine SR ?_
 refine RL.new rfl hH (f := fun b => (.pointer (some ⟨b, 0, none⟩))) (run_box (v := .agg _) rfl) ?_
 intro b3 w1 hH2
 refine RL.new rfl hH2 (f := fun b => (.pointer (some ⟨b, 0, none⟩))) (run_box (v := .agg _) rfl) ?_
 intro b6 w4 hH5
 refine RL.new rfl hH5 (f := fun b => (.pointer (some ⟨b, 0, none⟩))) (run_alloc zero_el) ?_
 intro b9 w7 hH8
 refine RL.new rfl hH8 (f := fun b => (.pointer (some ⟨b, 0, none⟩))) (run_alloc zero_flt) ?_
 intro b12 w10 hH11
 refine RL.nil ?_
 refine SR ?_
 refine RL.new rfl hH11 (f := fun b => (.pointer (some ⟨b, 0, none⟩))) (run_alloc zero_el) ?_
 intro b15 w13 hH14
 refine RL.nil ?_
 refine SR ?_
 refine V (run_ldA (cs := [B _, _]) underlying24 rfl rfl rfl (rangeAt_cells (hH14.blk (i := 4) rfl))) ?_
 refine V (run_ldA (cs := nodeL _) underlying28 rfl rfl rfl (rangeAt_cells (hH14.blk (i := 3) rfl))) ?_
 refine RL.callF rfl hH14 (c_spell_parts (Kw w) s n _ hH14.kw hs hn) (run_call2 call20 rfl rfl) ?_
 intro v18 w19 Z21 hH20 hp22
 have hH23 : Hp _ w19 (_ :: _ :: _ :: _ :: _ :: Z21) := hH20.zin0 (L := [_, _, _, _, _])
 obtain ⟨v24, rfl, hv25⟩ := hp22
 refine V (run_move (by conv => lhs; whnf)) ?_
 refine V (run_extract rfl rfl) ?_
 refine V (run_extract rfl (v := B _) rfl) ?_
 refine V (run_assign (by conv => lhs; whnf)) ?_
 refine V (aV (B _) rfl) ?_
 refine RL.nil ?_
 refine CW.seq ?_
 refine SR ?_
 refine V (mV (B _) rfl) ?_
 refine V (run_not rfl) ?_
 refine V (mV (B _) rfl) ?_
 refine RL.split (dj := 20) rfl (fun h28 => ?_) (fun h28 => ?_)
 ·refine RL.gF rfl rfl (bR (c := true) h28) rfl ?_
  refine RL.gF rfl rfl (bR (c := true) h28) rfl ?_
  refine RL.gF rfl rfl (bR (c := true) h28) rfl ?_
  refine V (run_pickT (bR (c := true) h28) (v := B true) rfl) ?_
  refine V (mV (B _) rfl) ?_
  refine RL.gF rfl rfl rfl rfl ?_
  refine RL.gF rfl rfl rfl rfl ?_
  refine RL.gF rfl rfl rfl rfl ?_
  refine V (run_pickT rfl (v := B true) rfl) ?_
  refine RL.nil ?_
  refine CW.condT rfl ?_
  refine CW.seq ?_
  refine CW.regionS (by kernel_rfl) hH23 (sP (sQ (sQ sR))) ?_
  intro w29 hH30
  refine AT 0 rfl (hH30.sub (sP (sQ (sQ sR)))) (fun w hS => run_ldEl underlying34 rfl rfl rfl (hS.blk (i := 0) rfl)) ?_
  refine AT 1 rfl (hH30.sub (sP (sQ (sQ sR)))) (fun w hS => fA underlying28 1 rfl sizeOf3 rfl) ?_
  refine AT 2 rfl (hH30.sub (sP (sQ (sQ sR)))) (fun w hS => run_ld underlying3 rfl rfl (hS.cell (i := 1) rfl (v := I _) rfl)) ?_
  refine AT 3 rfl (hH30.sub (sP (sQ (sQ sR)))) (fun w hS => run_bld (vs := [(0, I 4), (1, I _)]) rfl (built_fltL _ _)) ?_
  refine A1 4 ?_
  refine AO.set rfl gnone hH30 (j := 2) rfl (sP (sQ (sQ sR))) (run_stEl rfl rfl rfl (hH30.blk (i := 2) rfl)) ?_
  intro w33 hH34
  simp only [z0, z1] at hH34
  refine A1 5 ?_
  refine AO.set rfl gnone hH34 (j := 1) rfl (sP (sQ (sQ sR))) (run_stW (c' := (fltL _).toArray) rfl rfl rfl (by simp [fltL, Value.oneCell']) (hH34.blk (i := 1) rfl) rfl) ?_
  intro w37 hH38
  simp only [z0, z1] at hH38
  refine AD ?_
  refine CW.ret ?_
  refine outCC Tryz.results9 rfl rfl hH38 (i := 2) (j := 1) rfl rfl underlying34 rfl (by rw [elC_size]; rfl) underlying36 rfl rfl ⟨?_, hH38.below⟩
  first | exact res_er (el_no1 (nt ‹(!partB s n) = true›)) | exact res_er (el_no2 (nt ‹(!shR s.sh) = true›)) | exact res_er (el_no3 (nt ‹(!constB n.nd) = true›)) | exact res_er ((el_yes hP hR (nf ‹(!constB n.nd) = false›)).trans (ei_er hm ‹s1.1 = true›)) | exact res_ok ((el_yes hP hR (nf ‹(!constB n.nd) = false›)).trans (ei_ok (by omega) hm (by simp [*])))
 ·refine RL.gT rfl (bR (c := false) h28) ?_
  refine V (run_ldA (cs := [B _, _]) underlying24 rfl rfl rfl (rangeAt_cells (hH23.blk (i := 4) rfl))) ?_
  refine RL.gT rfl (bR (c := false) h28) ?_
  refine RL.callP rfl hH23 (c_shape_Right _  _ (hs.mono hH23.kw) (hT.hp hH23)) (run_call1 call21 rfl) ?_
  intro w39 hH40
  refine RL.gT rfl (bR (c := false) h28) ?_
  refine V (run_not rfl) ?_
  refine V (run_pickF (bR (c := false) h28) (v := B _) rfl) ?_
  refine V (mV (B _) rfl) ?_
  refine RL.split (dj := 25) rfl (fun h43 => ?_) (fun h43 => ?_)
  ·refine RL.gF rfl rfl (bR (c := true) h43) rfl ?_
   refine RL.gF rfl rfl (bR (c := true) h43) rfl ?_
   refine RL.gF rfl rfl (bR (c := true) h43) rfl ?_
   refine V (run_pickT (bR (c := true) h43) (v := B true) rfl) ?_
   refine RL.nil ?_
   refine CW.condT rfl ?_
   refine CW.seq ?_
   refine CW.regionS (by kernel_rfl) hH40 (sP (sQ (sQ sR))) ?_
   intro w44 hH45
   refine AT 0 rfl (hH45.sub (sP (sQ (sQ sR)))) (fun w hS => run_ldEl underlying34 rfl rfl rfl (hS.blk (i := 0) rfl)) ?_
   refine AT 1 rfl (hH45.sub (sP (sQ (sQ sR)))) (fun w hS => fA underlying28 1 rfl sizeOf3 rfl) ?_
   refine AT 2 rfl (hH45.sub (sP (sQ (sQ sR)))) (fun w hS => run_ld underlying3 rfl rfl (hS.cell (i := 1) rfl (v := I _) rfl)) ?_
   refine AT 3 rfl (hH45.sub (sP (sQ (sQ sR)))) (fun w hS => run_bld (vs := [(0, I 4), (1, I _)]) rfl (built_fltL _ _)) ?_
   refine A1 4 ?_
   refine AO.set rfl gnone hH45 (j := 2) rfl (sP (sQ (sQ sR))) (run_stEl rfl rfl rfl (hH45.blk (i := 2) rfl)) ?_
   intro w48 hH49
   simp only [z0, z1] at hH49
   refine A1 5 ?_
   refine AO.set rfl gnone hH49 (j := 1) rfl (sP (sQ (sQ sR))) (run_stW (c' := (fltL _).toArray) rfl rfl rfl (by simp [fltL, Value.oneCell']) (hH49.blk (i := 1) rfl) rfl) ?_
   intro w52 hH53
   simp only [z0, z1] at hH53
   refine AD ?_
   refine CW.ret ?_
   refine outCC Tryz.results9 rfl rfl hH53 (i := 2) (j := 1) rfl rfl underlying34 rfl (by rw [elC_size]; rfl) underlying36 rfl rfl ⟨?_, hH53.below⟩
   first | exact res_er (el_no1 (nt ‹(!partB s n) = true›)) | exact res_er (el_no2 (nt ‹(!shR s.sh) = true›)) | exact res_er (el_no3 (nt ‹(!constB n.nd) = true›)) | exact res_er ((el_yes hP hR (nf ‹(!constB n.nd) = false›)).trans (ei_er hm ‹s1.1 = true›)) | exact res_ok ((el_yes hP hR (nf ‹(!constB n.nd) = false›)).trans (ei_ok (by omega) hm (by simp [*])))
  ·refine RL.gT rfl (bR (c := false) h43) ?_
   refine V (run_ldA (cs := nodeL _) underlying28 rfl rfl rfl (rangeAt_cells (hH40.blk (i := 3) rfl))) ?_
   refine RL.gT rfl (bR (c := false) h43) ?_
   refine RL.callP rfl hH40 (c_term_IsConst _  _ (hn.mono hH40.kw)) (run_call1 call22 rfl) ?_
   intro w54 hH55
   refine RL.gT rfl (bR (c := false) h43) ?_
   refine V (run_not rfl) ?_
   refine V (run_pickF (bR (c := false) h43) (v := B _) rfl) ?_
   refine RL.nil ?_
   refine CW.cond rfl (fun h58 => ?_) (fun h58 => ?_)
   ·refine CW.seq ?_
    refine CW.regionS (by kernel_rfl) hH55 (sP (sQ (sQ sR))) ?_
    intro w59 hH60
    refine AT 0 rfl (hH60.sub (sP (sQ (sQ sR)))) (fun w hS => run_ldEl underlying34 rfl rfl rfl (hS.blk (i := 0) rfl)) ?_
    refine AT 1 rfl (hH60.sub (sP (sQ (sQ sR)))) (fun w hS => fA underlying28 1 rfl sizeOf3 rfl) ?_
    refine AT 2 rfl (hH60.sub (sP (sQ (sQ sR)))) (fun w hS => run_ld underlying3 rfl rfl (hS.cell (i := 1) rfl (v := I _) rfl)) ?_
    refine AT 3 rfl (hH60.sub (sP (sQ (sQ sR)))) (fun w hS => run_bld (vs := [(0, I 4), (1, I _)]) rfl (built_fltL _ _)) ?_
    refine A1 4 ?_
    refine AO.set rfl gnone hH60 (j := 2) rfl (sP (sQ (sQ sR))) (run_stEl rfl rfl rfl (hH60.blk (i := 2) rfl)) ?_
    intro w63 hH64
    simp only [z0, z1] at hH64
    refine A1 5 ?_
    refine AO.set rfl gnone hH64 (j := 1) rfl (sP (sQ (sQ sR))) (run_stW (c' := (fltL _).toArray) rfl rfl rfl (by simp [fltL, Value.oneCell']) (hH64.blk (i := 1) rfl) rfl) ?_
    intro w67 hH68
    simp only [z0, z1] at hH68
    refine AD ?_
    refine CW.ret ?_
    refine outCC Tryz.results9 rfl rfl hH68 (i := 2) (j := 1) rfl rfl underlying34 rfl (by rw [elC_size]; rfl) underlying36 rfl rfl ⟨?_, hH68.below⟩
    first | exact res_er (el_no1 (nt ‹(!partB s n) = true›)) | exact res_er (el_no2 (nt ‹(!shR s.sh) = true›)) | exact res_er (el_no3 (nt ‹(!constB n.nd) = true›)) | exact res_er ((el_yes hP hR (nf ‹(!constB n.nd) = false›)).trans (ei_er hm ‹s1.1 = true›)) | exact res_ok ((el_yes hP hR (nf ‹(!constB n.nd) = false›)).trans (ei_ok (by omega) hm (by simp [*])))
   ·refine CW.skip ?_
    refine SR ?_
    refine V (run_bld (vs := []) rfl built_rdrL0) ?_
    refine RL.new rfl hH55 (f := fun b => (.pointer (some ⟨b, 0, none⟩))) (run_box (v := .agg _) rfl) ?_
    intro b71 w69 hH70
    refine V (aV (Pn _ _) rfl) ?_
    refine RL.nil ?_
    refine CW.seq ?_
    refine SR ?_
    refine V (fA underlying24 1 rfl sizeOf22 rfl) ?_
    refine V (run_ld underlying22 rfl rfl (hH70.cell (i := 5) rfl rfl)) ?_
    refine V (run_lenSl (hs.facs.sl.hp hH70) rfl underlying22 rfl) ?_
    refine V (mV (I 0) rfl) ?_
    refine RL.nil ?_
    refine CW.block ?_
    have hP := nf ‹(!partB s n) = false›
    have hR := nf ‹(!shR s.sh) = false›
    have hpl := parts_len hP hR
    have hzl := zip_len hpl
    have h8 := (sh_spec hR).1
    refine CW.loop (G := (Int) × (El) × (RS)) (fun (⟨k, e1, s1⟩ : (Int) × (El) × (RS)) s' w' => (Fr [10, 11, 39, 40, 41, 42, 43, 44, 45, 46, 47, 48, 49, 50, 51, 52, 53] _ s') ∧ (Hp w w' (.blk b71 (.cells (#[B s1.1, I s1.2]) 58 (0, 0)) :: .blk b15 (.cells (elC e1) 34 (0, 0)) :: _)) ∧ (s' 39 = I k) ∧ (0 ≤ k) ∧ (k ≤ s.facs.length) ∧ (EInv (zipF s n) k e1 s1)) (fun (⟨k, e1, s1⟩ : (Int) × (El) × (RS)) => (s.facs.length - k).toNat) ((0, el0, (false, 0))) ⟨Fr.refl _ _, hH70, rfl, (by omega), (by omega), ei_0⟩ ?_
    rintro ⟨k, e1, s1⟩ sg72 w72 ⟨fr72, hH72, e39_72, h0, hk, hm⟩
    have e4_72 : sg72 4 = Pn _ _ := (fr72 4 rfl).trans rfl
    have e5_72 : sg72 5 = Pn _ _ := (fr72 5 rfl).trans rfl
    have e6_72 : sg72 6 = Pn _ _ := (fr72 6 rfl).trans rfl
    have e7_72 := (fr72 7 rfl).trans (by conv => lhs; whnf)
    have e9_72 : sg72 9 = Pn _ _ := (fr72 9 rfl).trans rfl
    have e37_72 := (fr72 37 rfl).trans (by conv => lhs; whnf)
    have e38_72 : sg72 38 = I _ := (fr72 38 rfl).trans rfl
    refine SR ?_
    refine V (run_lss e39_72 e38_72) ?_
    refine RL.nil ?_
    refine CW.seq ?_
    refine CW.condP rfl (fun h74 => ?_) (fun h74 => ?_)
    ·refine CW.skip ?_
     refine CW.seq ?_
     refine CW.block ?_
     refine SR ?_
     refine V (run_move e39_72) ?_
     refine V (run_indexAddrS (hs.facs.sl.hp hH72) underlying22 sizeOf50 e37_72 e39_72 (by omega)) ?_
     refine V (run_ldE (dv := fac0) facL_len (hs.facs.sl.hp hH72) underlying50 rfl rfl rfl (by omega)) ?_
     refine RL.new rfl hH72 (f := fun b => (.pointer (some ⟨b, 0, none⟩))) (run_alloc zero_fac) ?_
     intro b77 w75 hH76
     refine V (aV (I _) rfl) ?_
     refine RL.set hH76 (i := 0) rfl (run_stFac (hs.at (by omega) (by omega)) rfl rfl rfl (hH76.blk (i := 0) rfl)) ?_
     intro w78 hH79
     simp only [z0, z1] at hH79
     refine RL.nil ?_
     refine CW.regionS (by kernel_rfl) hH79 (sP (sQ (sQ sR))) ?_
     intro w80 hH81
     refine AT 0 rfl (hH81.sub (sP (sQ (sQ sR)))) (fun w hS => mV (I _) rfl) ?_
     refine AT 1 rfl (hH81.sub (sP (sQ (sQ sR)))) (fun w hS => run_move e9_72) ?_
     refine AT 2 rfl (hH81.sub (sP (sQ (sQ sR)))) (fun w hS => run_ldFac underlying50 rfl rfl rfl (hS.blk (i := 0) rfl)) ?_
     refine AT 3 rfl (hH81.sub (sP (sQ (sQ sR)))) (fun w hS => run_move e7_72) ?_
     refine AT 4 rfl (hH81.sub (sP (sQ (sQ sR)))) (fun w hS => mV (I _) rfl) ?_
     refine AT 5 rfl (hH81.sub (sP (sQ (sQ sR)))) (fun w hS => run_indexAddrS (hv25.mono (hS.kz (Le.refl _) (fun x hx => (mT (mT (mT (mT (mT hx)))))))).sl underlying26 sizeOf28 rfl rfl (by omega)) ?_
     refine AT 6 rfl (hH81.sub (sP (sQ (sQ sR)))) (fun w hS => run_ldE (dv := node0) nodeL_len (hv25.mono (hS.kz (Le.refl _) (fun x hx => (mT (mT (mT (mT (mT hx)))))))).sl underlying28 rfl rfl rfl (by omega)) ?_
     refine A1 7 ?_
     refine AO.callT rfl gnone rfl (c_spell_reader_word _ _ _ _ _ _ _ hT (hs.at h0 ‹k < _›) (hnv.at h0 (by omega)) (hH81.perm (((pC pR).trans pS).trans (pC pR)))) (run_call3 call23 rfl rfl rfl) (fun u w' ⟨_, _, _, _, h⟩ => (h.sub (sQ (sP (sQ sR))))) ?_
     rintro _ w87 ⟨y84, s85, rfl, e86, h88⟩
     have hH89 := h88.perm (((pC pR).trans pS).trans (pC pR))
     refine AT 8 rfl (hH89.sub (sP (sQ (sQ sR)))) (fun w hS => run_indexAddrA underlying34 sizeOf32 e6_72 rfl (by omega)) ?_
     refine A1 9 ?_
     refine AO.set rfl gnone hH89 (j := 2) rfl (sP (sQ (sQ sR))) (run_st rfl rfl (v := U _) rfl rfl rfl (hH89.blk (i := 2) rfl) (by rw [elC_size]; omega)) ?_
     intro w92 hH93
     simp only [z0, z1] at hH93
     rw [elC_put] at hH93
     refine AD ?_
     refine CW.region ?_
     refine V (run_add e39_72 rfl (by omega)) ?_
     refine V (mV (I _) rfl) ?_
     refine RL.nil ?_
     refine ⟨(k + 1, _, _), ?_, fr72.u4.u4.u4.u4.u1, (hH93.sub (sQ sR)), (congrArg I (by first | rfl | omega)), ?_, ?_, ?_⟩
     ·((try dsimp only); omega)
     ·omega
     ·omega
     ·exact ei_next h0 (by omega) hm (by rw [zip_get hpl h0 ‹k < _›]; exact ‹okR _ _ _ _›)
    ·refine CW.exit (id := 0) rfl ?_
     refine CW.seq ?_
     refine SR ?_
     refine V (run_move e9_72) ?_
     refine V (run_nilCheck rfl) ?_
     refine V (fA underlying58 0 rfl sizeOf4 rfl) ?_
     refine V (run_ld underlying4 rfl rfl (hH72.cell (i := 0) rfl (v := B _) rfl)) ?_
     refine RL.nil ?_
     refine CW.cond rfl (fun h95 => ?_) (fun h95 => ?_)
     ·refine CW.seq ?_
      refine CW.regionS (by kernel_rfl) hH72 (sP (sP (sQ (sQ sR)))) ?_
      intro w96 hH97
      refine AT 0 rfl (hH97.sub (sP (sP (sQ (sQ sR))))) (fun w hS => run_bld (vs := []) rfl (built_el0)) ?_
      refine AT 1 rfl (hH97.sub (sP (sP (sQ (sQ sR))))) (fun w hS => run_move e9_72) ?_
      refine AT 2 rfl (hH97.sub (sP (sP (sQ (sQ sR))))) (fun w hS => run_nilCheck rfl) ?_
      refine AT 3 rfl (hH97.sub (sP (sP (sQ (sQ sR))))) (fun w hS => fA underlying58 1 rfl sizeOf3 rfl) ?_
      refine AT 4 rfl (hH97.sub (sP (sP (sQ (sQ sR))))) (fun w hS => run_ld underlying3 rfl rfl (hS.cell (i := 0) rfl (v := I _) rfl)) ?_
      refine AT 5 rfl (hH97.sub (sP (sP (sQ (sQ sR))))) (fun w hS => run_bld (vs := [(0, I 4), (1, I _)]) rfl (built_fltL _ _)) ?_
      refine A1 6 ?_
      refine AO.set rfl gnone hH97 (j := 3) rfl (sP (sP (sQ (sQ sR)))) (run_stEl rfl e4_72 rfl (hH97.blk (i := 3) rfl)) ?_
      intro w100 hH101
      simp only [z0, z1] at hH101
      refine A1 7 ?_
      refine AO.set rfl gnone hH101 (j := 2) rfl (sP (sP (sQ (sQ sR)))) (run_stW (c' := (fltL _).toArray) rfl e5_72 rfl (by simp [fltL, Value.oneCell']) (hH101.blk (i := 2) rfl) rfl) ?_
      intro w104 hH105
      simp only [z0, z1] at hH105
      refine AD ?_
      refine CW.ret ?_
      refine outCC Tryz.results9 e4_72 e5_72 hH105 (i := 3) (j := 2) rfl rfl underlying34 rfl (by rw [elC_size]; rfl) underlying36 rfl rfl ⟨?_, hH105.below⟩
      first | exact res_er (el_no1 (nt ‹(!partB s n) = true›)) | exact res_er (el_no2 (nt ‹(!shR s.sh) = true›)) | exact res_er (el_no3 (nt ‹(!constB n.nd) = true›)) | exact res_er ((el_yes hP hR (nf ‹(!constB n.nd) = false›)).trans (ei_er hm ‹s1.1 = true›)) | exact res_ok ((el_yes hP hR (nf ‹(!constB n.nd) = false›)).trans (ei_ok (by omega) hm (by simp [*])))
     ·refine CW.skip ?_
      refine SR ?_
      refine V (run_ldEl underlying34 rfl rfl e6_72 (hH72.blk (i := 1) rfl)) ?_
      refine V (run_bld (vs := []) rfl (built_fltL0)) ?_
      refine RL.set hH72 (i := 3) rfl (run_stEl rfl e4_72 rfl (hH72.blk (i := 3) rfl)) ?_
      intro w106 hH107
      simp only [z0, z1] at hH107
      refine RL.set hH107 (i := 2) rfl (run_stW (c' := (fltL _).toArray) rfl e5_72 rfl (by simp [fltL, Value.oneCell']) (hH107.blk (i := 2) rfl) rfl) ?_
      intro w108 hH109
      simp only [z0, z1] at hH109
      refine RL.nil ?_
      refine CW.ret ?_
      refine outCC Tryz.results9 e4_72 e5_72 hH109 (i := 3) (j := 2) rfl rfl underlying34 rfl (by rw [elC_size]; rfl) underlying36 rfl rfl ⟨?_, hH109.below⟩
      first | exact res_er (el_no1 (nt ‹(!partB s n) = true›)) | exact res_er (el_no2 (nt ‹(!shR s.sh) = true›)) | exact res_er (el_no3 (nt ‹(!constB n.nd) = true›)) | exact res_er ((el_yes hP hR (nf ‹(!constB n.nd) = false›)).trans (ei_er hm ‹s1.1 = true›)) | exact res_ok ((el_yes hP hR (nf ‹(!constB n.nd) = false›)).trans (ei_ok (by omega) hm (by simp [*])))

theorem s_many (n : NodeR) (w : World) (hn : NodeV (Kw w) n) (ih : ∀ x ∈ n.kids, ∀ w, NodeV (Kw w) x → Calls Tryz.prog 19 #[.agg (nodeL x).toArray] w (Ret fun u w' => (∃ k : Int, u = I k) ∧ Below w.heap.size w w')) : Calls Tryz.prog 19 #[.agg (nodeL n).toArray] w (Ret fun u w' => (∃ k : Int, u = I k) ∧ Below w.heap.size w w') := by
 have hm1 := hn.kids_.small
 unfold maxLen at hm1
 refine enter Tryz.func19 rfl Tryz.ntmps19 rfl ?_
 have hH := Hp.start w
 refine SR ?_
 refine RL.new rfl hH (f := fun b => (.pointer (some ⟨b, 0, none⟩))) (run_box (v := .agg _) rfl) ?_
 intro b3 w1 hH2
 refine V (aV (I 0) rfl) ?_
 refine RL.nil ?_
 refine SR ?_
 refine V (fA underlying28 3 rfl sizeOf25 rfl) ?_
 refine V (run_ldV (hn.names_.sl.hp hH2) underlying25 rfl rfl (hH2.cell (i := 0) rfl rfl)) ?_
 refine V (run_lenSl (hn.names_.sl.hp hH2) rfl underlying25 rfl) ?_
 refine V (run_addW rfl rfl) ?_
 refine V (aV (I _) rfl) ?_
 refine RL.nil ?_
 refine CW.seq ?_
 refine SR ?_
 refine V (aV (I 0) rfl) ?_
 refine RL.nil ?_
 refine CW.block ?_
 refine CW.loop (G := (Int) × (Int)) (fun (⟨k, m⟩ : (Int) × (Int)) s' w' => (Fr [3, 4, 9, 10, 11, 12, 13, 14, 15, 16, 17, 18, 19, 20, 21, 22, 23] _ s') ∧ (Hp w w' _) ∧ (s' 3 = I m) ∧ (s' 4 = I k) ∧ (0 ≤ k) ∧ (k ≤ n.kids.length)) (fun (⟨k, m⟩ : (Int) × (Int)) => (n.kids.length - k).toNat) ((0, _)) ⟨Fr.refl _ _, hH2, rfl, rfl, (by omega), (by omega)⟩ ?_
 rintro ⟨k, m⟩ sg4 w4 ⟨fr4, hH4, e3_4, e4_4, h0, hk⟩
 have e1_4 : sg4 1 = Pn _ _ := (fr4 1 rfl).trans rfl
 have e2_4 : sg4 2 = I _ := (fr4 2 rfl).trans rfl
 refine CW.seq ?_
 refine SR ?_
 refine V (run_move e4_4) ?_
 refine V (fA underlying28 4 rfl sizeOf26 e1_4) ?_
 refine V (run_ldV (hn.kids_.sl.hp hH4) underlying26 rfl rfl (hH4.cell (i := 0) rfl rfl)) ?_
 refine V (run_lenSl (hn.kids_.sl.hp hH4) rfl underlying26 rfl) ?_
 refine V (run_lss rfl rfl) ?_
 refine RL.nil ?_
 refine CW.condP rfl (fun h6 => ?_) (fun h6 => ?_)
 ·refine CW.skip ?_
  refine CW.seq ?_
  refine CW.block ?_
  refine CW.region ?_
  refine V (run_move e3_4) ?_
  refine V (fA underlying28 4 rfl sizeOf26 e1_4) ?_
  refine V (run_ldV (hn.kids_.sl.hp hH4) underlying26 rfl rfl (hH4.cell (i := 0) rfl rfl)) ?_
  refine V (run_move e4_4) ?_
  refine V (run_indexAddrS (hn.kids_.sl.hp hH4) underlying26 sizeOf28 rfl rfl (by omega)) ?_
  refine V (run_ldE (dv := node0) nodeL_len (hn.kids_.sl.hp hH4) underlying28 rfl rfl rfl (by omega)) ?_
  refine RL.callT rfl (ih _ (List.mem_of_getElem? (getD_at (d := node0) h0 ‹k < _›)) _ ((hn.mono hH4.kw).at h0 ‹_›)) (run_call1 call19 rfl) ?_
  rintro _ w9 ⟨⟨k12, rfl⟩, hb10⟩
  have hH11 := hH4.call hb10
  refine V (run_addW rfl rfl) ?_
  refine V (aV (I _) rfl) ?_
  refine RL.nil ?_
  refine CW.region ?_
  refine V (run_move e4_4) ?_
  refine V (run_add rfl rfl (by omega)) ?_
  refine V (aV (I _) rfl) ?_
  refine RL.nil ?_
  refine ⟨(k + 1, _), ?_, fr4.u4.u4.u4.u4.u1, hH11, (congrArg I (by first | rfl | omega)), (congrArg I (by first | rfl | omega)), ?_, ?_⟩
  ·((try dsimp only); omega)
  ·omega
  ·omega
 ·refine CW.exit (id := 0) rfl ?_
  refine SR ?_
  refine V (run_move e3_4) ?_
  refine V (aV (I _) rfl) ?_
  refine RL.nil ?_
  refine CW.ret ?_
  exact out1 Tryz.results19 rfl ⟨⟨_, rfl⟩, hH4.below⟩
theorem c_clearanceref10_Many (n : NodeR) : ∀ (w : World) (hn : NodeV (Kw w) n), Calls Tryz.prog 19 #[.agg (nodeL n).toArray] w (Ret fun u w' => (∃ k : Int, u = I k) ∧ Below w.heap.size w w') := node_ind (C := fun n => ∀ (w : World) (hn : NodeV (Kw w) n), Calls Tryz.prog 19 #[.agg (nodeL n).toArray] w (Ret fun u w' => (∃ k : Int, u = I k) ∧ Below w.heap.size w w')) (fun n ih w hn => s_many n w hn ih) n

theorem c_clearancelaw10_Big (v : Value) (l : List NodeR) (w : World) (hs : Sl w v 5 l.length (l.flatMap nodeL)) (hv : NodesV (Kw w) l) : Calls Tryz.prog 7 #[v] w (Ret fun u w' => (∃ b : Bool, u = B b) ∧ Below w.heap.size w w') := by
 have hm := hs.small
 unfold maxLen at hm
 refine enter Tryz.func7 rfl Tryz.ntmps7 rfl ?_
 have hH := Hp.start w
 refine SR ?_
 refine V (aV (B false) rfl) ?_
 refine RL.nil ?_
 refine CW.seq ?_
 refine SR ?_
 refine V (run_move (by conv => lhs; whnf)) ?_
 refine V (run_lenSl (hs.hp hH) rfl underlying26 rfl) ?_
 refine V (mV (I 0) rfl) ?_
 refine RL.nil ?_
 refine CW.block ?_
 refine CW.loop (G := (Int)) (fun (k : Int) s' w' => (Fr [2, 4, 7, 8, 9, 10, 11, 12, 13, 14] _ s') ∧ (Hp w w' _) ∧ (s' 7 = I k) ∧ (0 ≤ k) ∧ (k ≤ l.length)) (fun (k : Int) => (l.length - k).toNat) (0) ⟨Fr.refl _ _, hH, rfl, (by omega), (by omega)⟩ ?_
 rintro k sg1 w1 ⟨fr1, hH1, e7_1, h0, hk⟩
 have e5_1 := (fr1 5 rfl).trans (by conv => lhs; whnf)
 have e6_1 : sg1 6 = I _ := (fr1 6 rfl).trans rfl
 refine SR ?_
 refine V (run_lss e7_1 e6_1) ?_
 refine RL.nil ?_
 refine CW.seq ?_
 refine CW.condP rfl (fun h3 => ?_) (fun h3 => ?_)
 ·refine CW.skip ?_
  refine CW.seq ?_
  refine CW.block ?_
  refine SR ?_
  refine V (run_indexAddrS (hs.hp hH1) underlying26 sizeOf28 e5_1 e7_1 (by omega)) ?_
  refine V (run_ldE (dv := node0) nodeL_len (hs.hp hH1) underlying28 rfl rfl rfl (by omega)) ?_
  refine RL.new rfl hH1 (f := fun b => (.pointer (some ⟨b, 0, none⟩))) (run_alloc Tryz.zeroValue28) ?_
  intro b6 w4 hH5
  refine RL.set hH5 (i := 0) rfl (run_stW (c' := (nodeL _).toArray) rfl rfl rfl (nodeL_one (hv.at (by omega) (by omega))) (hH5.blk (i := 0) rfl) rfl) ?_
  intro w7 hH8
  simp only [z0, z1] at hH8
  refine RL.nil ?_
  refine SR ?_
  refine V (run_ldA (cs := nodeL _) underlying28 rfl rfl rfl (rangeAt_cells (hH8.blk (i := 0) rfl))) ?_
  refine RL.callT rfl (c_clearanceref10_Many _ _ ((hv.mono hH8.kw).at h0 ‹_›)) (run_call1 call19 rfl) ?_
  rintro _ w11 ⟨⟨k14, rfl⟩, hb12⟩
  have hH13 := hH8.call hb12
  refine V (run_gtr rfl rfl) ?_
  refine RL.nil ?_
  refine CW.condP rfl (fun h16 => ?_) (fun h16 => ?_)
  ·refine SR ?_
   refine V (aV (B true) rfl) ?_
   refine RL.nil ?_
   refine CW.ret ?_
   exact out1 Tryz.results7 rfl ⟨⟨_, rfl⟩, hH13.below⟩
  ·refine CW.skip ?_
   refine CW.region ?_
   refine V (run_add e7_1 rfl (by omega)) ?_
   refine V (mV (I _) rfl) ?_
   refine RL.nil ?_
   refine ⟨k + 1, ?_, fr1.u4.u4.u1, (hH13.sub (sQ sR)), (congrArg I (by first | rfl | omega)), ?_, ?_⟩
   ·((try dsimp only); omega)
   ·omega
   ·omega
 ·refine CW.exit (id := 0) rfl ?_
  refine SR ?_
  refine V (aV (B false) rfl) ?_
  refine RL.nil ?_
  refine CW.ret ?_
  exact out1 Tryz.results7 rfl ⟨⟨_, rfl⟩, hH1.below⟩

theorem s_all (q : Int) (v : Value) (l : List NodeR) (hq : q = 1 ∨ q = 2) (w : World) (hs : Sl w v 5 l.length (l.flatMap nodeL)) (hv : NodesV (Kw w) l) (ihC : ∀ x ∈ l, ∀ w, NodeV (Kw w) x → Calls Tryz.prog 17 #[.agg (nodeL x).toArray] w (Pure (B (constB x.nd)) w)) : Calls Tryz.prog 34 #[I q, v] w (Pure (B (l.all (allP q))) w) := by
 have hm := hs.small
 unfold maxLen at hm
 refine enter Tryz.func34 rfl Tryz.ntmps34 rfl ?_
 have hH := Hp.start w
 refine SR ?_
 refine V (aV (B false) rfl) ?_
 refine RL.nil ?_
 refine CW.seq ?_
 refine SR ?_
 refine V (aV (I 0) rfl) ?_
 refine RL.nil ?_
 refine CW.block ?_
 refine CW.loop (G := (Int)) (fun (k : Int) s' w' => (Fr [4, 5, 6, 7, 8, 9, 10, 11, 12, 13, 14, 15, 16, 17, 18, 19, 20, 21, 22, 23, 24, 25, 26, 27, 28, 29, 30, 31, 32, 33, 34, 35, 36, 37, 38, 39, 40, 41, 42, 43, 44, 45, 46, 47, 48, 49, 50, 51, 52, 53, 54, 55, 56, 57, 58, 59, 60, 61, 62, 63, 64, 65, 66, 67, 68, 69, 70, 71, 72, 73, 74, 75, 76, 77, 78, 79, 80, 81, 82, 83, 84, 85, 86, 87, 88, 89, 90, 91, 92, 93, 94, 95, 96, 97, 98, 99] _ s') ∧ (Hp w w' _) ∧ (s' 5 = I k) ∧ (0 ≤ k) ∧ (k ≤ l.length) ∧ (∀ j : Int, 0 ≤ j → j < k → allP q (l.getD j.toNat node0) = true)) (fun (k : Int) => (l.length - k).toNat) (0) ⟨Fr.refl _ _, hH, rfl, (by omega), (by omega), fun j a b => absurd b (by omega)⟩ ?_
 rintro k sg1 w1 ⟨fr1, hH1, e5_1, h0, hk, hg⟩
 have e0_1 : sg1 0 = I _ := (fr1 0 rfl).trans rfl
 have e1_1 := (fr1 1 rfl).trans (by conv => lhs; whnf)
 refine CW.seq ?_
 refine SR ?_
 refine V (run_move e5_1) ?_
 refine V (run_move e1_1) ?_
 refine V (run_lenSl (hs.hp hH1) rfl underlying26 rfl) ?_
 refine V (run_lss rfl rfl) ?_
 refine RL.nil ?_
 refine CW.condP rfl (fun h3 => ?_) (fun h3 => ?_)
 ·refine CW.skip ?_
  refine CW.seq ?_
  refine CW.block ?_
  refine SR ?_
  refine V (run_move e1_1) ?_
  refine V (run_move e5_1) ?_
  refine V (run_indexAddrS (hs.hp hH1) underlying26 sizeOf28 rfl rfl (by first | omega | (simp only [Int.natCast_eq_zero] at *; omega))) ?_
  refine V (run_ldE (dv := node0) nodeL_len (hs.hp hH1) underlying28 rfl rfl rfl (by first | omega | (simp only [Int.natCast_eq_zero] at *; omega))) ?_
  refine RL.new rfl hH1 (f := fun b => (.pointer (some ⟨b, 0, none⟩))) (run_alloc Tryz.zeroValue28) ?_
  intro b6 w4 hH5
  refine RL.set hH5 (i := 0) rfl (run_stW (c' := (nodeL _).toArray) rfl rfl rfl (nodeL_one (hv.at (by first | omega | (simp only [Int.natCast_eq_zero] at *; omega)) (by first | omega | (simp only [Int.natCast_eq_zero] at *; omega)))) (hH5.blk (i := 0) rfl) rfl) ?_
  intro w7 hH8
  simp only [z0, z1] at hH8
  refine RL.nil ?_
  refine SR ?_
  refine V (run_move e0_1) ?_
  refine V (run_eql rfl rfl) ?_
  refine V (mV (B _) rfl) ?_
  refine RL.splitP (dj := 20) rfl (fun h10 => ?_) (fun h10 => ?_)
  ·refine RL.gT rfl (bT h10) ?_
   refine V (run_ldA (cs := nodeL _) underlying28 rfl rfl rfl (rangeAt_cells (hH8.blk (i := 0) rfl))) ?_
   refine RL.gT rfl (bT h10) ?_
   refine RL.callP rfl hH8 (ihC _ (List.mem_of_getElem? (getD_at (d := node0) h0 ‹k < _›)) _ (NodeV.mono hH8.kw (hv.at h0 ‹_›))) (run_call1 call17 rfl) ?_
   intro w11 hH12
   refine V (run_pickT (bT h10) (v := B _) rfl) ?_
   refine V (mV (B _) rfl) ?_
   refine RL.split (dj := 24) rfl (fun h14 => ?_) (fun h14 => ?_)
   ·refine RL.gF rfl rfl (bR (c := true) h14) rfl ?_
    refine RL.gF rfl rfl (bR (c := true) h14) rfl ?_
    refine RL.gF rfl rfl (bR (c := true) h14) rfl ?_
    refine RL.gU rfl rfl rfl ?_
    refine RL.gU rfl rfl rfl ?_
    refine RL.gF rfl rfl (bR (c := true) h14) rfl ?_
    refine V (run_pickT (bR (c := true) h14) (v := B true) rfl) ?_
    refine V (aV (B _) rfl) ?_
    refine RL.nil ?_
    refine CW.seq ?_
    refine SR ?_
    refine V (run_move e0_1) ?_
    refine V (run_eql rfl rfl) ?_
    refine RL.nil ?_
    refine CW.condP rfl (fun h16 => ?_) (fun h16 => ?_)
    ·refine CW.region ?_
     refine V (fA underlying28 0 rfl sizeOf3 rfl) ?_
     refine V (run_ld underlying3 rfl rfl (hH12.cell (i := 0) rfl (v := I _) rfl)) ?_
     refine V (run_eql rfl rfl) ?_
     refine V (mV (B _) rfl) ?_
     refine RL.splitP (dj := 37) rfl (fun h18 => ?_) (fun h18 => ?_)
     ·refine RL.gT rfl (bT h18) ?_
      refine V (fA underlying28 2 rfl sizeOf9 rfl) ?_
      refine RL.gT rfl (bT h18) ?_
      refine V (run_ld underlying9 rfl rfl (hH12.cell (i := 0) rfl (v := .string _) rfl)) ?_
      refine RL.gT rfl (bT h18) ?_
      refine RL.callP rfl hH12 (c_clearanceref02_Right _  _) (run_call1 call32 rfl) ?_
      intro w19 hH20
      refine V (run_pickT (bT h18) (v := B _) rfl) ?_
      refine V (mV (B _) rfl) ?_
      refine RL.split (dj := 42) rfl (fun h22 => ?_) (fun h22 => ?_)
      ·refine RL.gT rfl (bR (c := true) h22) ?_
       refine V (fA underlying28 3 rfl sizeOf25 rfl) ?_
       refine RL.gT rfl (bR (c := true) h22) ?_
       refine V (run_ldV ((hv.at (by first | omega | (simp only [Int.natCast_eq_zero] at *; omega)) (by first | omega | (simp only [Int.natCast_eq_zero] at *; omega))).names_.sl.hp hH20) underlying25 rfl rfl (hH20.cell (i := 0) rfl rfl)) ?_
       refine RL.gT rfl (bR (c := true) h22) ?_
       refine RL.callP rfl hH20 (c_clearanceref10_right _ _  _ ((hv.at (by first | omega | (simp only [Int.natCast_eq_zero] at *; omega)) (by first | omega | (simp only [Int.natCast_eq_zero] at *; omega))).names_.sl.hp hH20)) (run_call1 call33 rfl) ?_
       intro w23 hH24
       refine V (run_pickT (bR (c := true) h22) (v := B _) rfl) ?_
       refine V (mV (B _) rfl) ?_
       refine RL.split (dj := 47) rfl (fun h26 => ?_) (fun h26 => ?_)
       ·refine RL.gT rfl (bR (c := true) h26) ?_
        refine V (fA underlying28 4 rfl sizeOf26 rfl) ?_
        refine RL.gT rfl (bR (c := true) h26) ?_
        refine V (run_ldV ((hv.at (by first | omega | (simp only [Int.natCast_eq_zero] at *; omega)) (by first | omega | (simp only [Int.natCast_eq_zero] at *; omega))).kids_.sl.hp hH24) underlying26 rfl rfl (hH24.cell (i := 0) rfl rfl)) ?_
        refine RL.gT rfl (bR (c := true) h26) ?_
        refine V (run_lenSl ((hv.at (by first | omega | (simp only [Int.natCast_eq_zero] at *; omega)) (by first | omega | (simp only [Int.natCast_eq_zero] at *; omega))).kids_.sl.hp hH24) rfl underlying26 rfl) ?_
        refine RL.gT rfl (bR (c := true) h26) ?_
        refine V (run_eql rfl rfl) ?_
        refine V (run_pickT (bR (c := true) h26) (v := B _) rfl) ?_
        refine V (aV (B _) rfl) ?_
        refine RL.nil ?_
        refine CW.seq ?_
        refine SR ?_
        refine V (run_move e0_1) ?_
        refine V (run_eql rfl rfl) ?_
        refine RL.nil ?_
        refine CW.condF (bF ((by omega))) ?_
        refine CW.skip ?_
        refine SR ?_
        refine V (mV (B _) rfl) ?_
        refine V (run_notP rfl) ?_
        refine RL.nil ?_
        refine CW.condP rfl (fun h30 => ?_) (fun h30 => ?_)
        ·refine SR ?_
         refine V (aV (B false) rfl) ?_
         refine RL.nil ?_
         refine CW.ret ?_
         refine outP1 Tryz.results34 (congrArg B ?_) hH24.below
         first | (exfalso; omega) | exact (all_no (P := allP q) h0 ‹k < _› (by rw [allP_c ‹q = 1›]; first | assumption | exact (Bool.not_eq_true _).1 ‹_›)).symm | exact (all_no (P := allP q) h0 ‹k < _› (by rw [allP_r ‹q = 2›]; first | exact rule_n1 ‹_› | exact rule_n2 ‹_› | exact rule_n3 ‹_› | exact rule_n4 ‹_›)).symm | exact (all_yes (P := allP q) ‹¬ k < _› hg).symm
        ·refine CW.skip ?_
         refine CW.region ?_
         refine V (run_move e5_1) ?_
         refine V (run_add rfl rfl (by omega)) ?_
         refine V (aV (I _) rfl) ?_
         refine RL.nil ?_
         refine ⟨k + 1, ?_, fr1.u4.u4.u4.u4.u4.u4.u4.u4.u4.u4.u4.u4.u4.u1, (hH24.sub (sQ sR)), (congrArg I (by first | rfl | omega)), ?_, ?_, ?_⟩
         ·((try dsimp only); omega)
         ·omega
         ·omega
         ·first | (exfalso; omega) | exact fun j a b => if e : j = k then e ▸ (by first | (rw [allP_c ‹q = 1›]; assumption) | (rw [allP_r ‹q = 2›]; exact rule_y ‹_› ‹_› ‹_› (Decidable.of_not_not ‹¬ ¬ ((l.getD k.toNat node0).kids.length : Int) = 0›))) else hg j a (by omega)
       ·refine RL.gF rfl rfl (bR (c := false) h26) rfl ?_
        refine RL.gF rfl rfl (bR (c := false) h26) rfl ?_
        refine RL.gF rfl rfl (bR (c := false) h26) rfl ?_
        refine RL.gF rfl rfl (bR (c := false) h26) rfl ?_
        refine V (run_pickF (bR (c := false) h26) (v := B false) rfl) ?_
        refine V (aV (B _) rfl) ?_
        refine RL.nil ?_
        refine CW.seq ?_
        refine SR ?_
        refine V (run_move e0_1) ?_
        refine V (run_eql rfl rfl) ?_
        refine RL.nil ?_
        refine CW.condF (bF ((by omega))) ?_
        refine CW.skip ?_
        refine SR ?_
        refine V (mV (B _) rfl) ?_
        refine V (run_not rfl) ?_
        refine RL.nil ?_
        refine CW.condT rfl ?_
        refine SR ?_
        refine V (aV (B false) rfl) ?_
        refine RL.nil ?_
        refine CW.ret ?_
        refine outP1 Tryz.results34 (congrArg B ?_) hH24.below
        first | (exfalso; omega) | exact (all_no (P := allP q) h0 ‹k < _› (by rw [allP_c ‹q = 1›]; first | assumption | exact (Bool.not_eq_true _).1 ‹_›)).symm | exact (all_no (P := allP q) h0 ‹k < _› (by rw [allP_r ‹q = 2›]; first | exact rule_n1 ‹_› | exact rule_n2 ‹_› | exact rule_n3 ‹_› | exact rule_n4 ‹_›)).symm | exact (all_yes (P := allP q) ‹¬ k < _› hg).symm
      ·refine RL.gF rfl rfl (bR (c := false) h22) rfl ?_
       refine RL.gF rfl rfl (bR (c := false) h22) rfl ?_
       refine RL.gF rfl rfl (bR (c := false) h22) rfl ?_
       refine V (run_pickF (bR (c := false) h22) (v := B false) rfl) ?_
       refine V (mV (B _) rfl) ?_
       refine RL.gF rfl rfl rfl rfl ?_
       refine RL.gF rfl rfl rfl rfl ?_
       refine RL.gF rfl rfl rfl rfl ?_
       refine RL.gF rfl rfl rfl rfl ?_
       refine V (run_pickF rfl (v := B false) rfl) ?_
       refine V (aV (B _) rfl) ?_
       refine RL.nil ?_
       refine CW.seq ?_
       refine SR ?_
       refine V (run_move e0_1) ?_
       refine V (run_eql rfl rfl) ?_
       refine RL.nil ?_
       refine CW.condF (bF ((by omega))) ?_
       refine CW.skip ?_
       refine SR ?_
       refine V (mV (B _) rfl) ?_
       refine V (run_not rfl) ?_
       refine RL.nil ?_
       refine CW.condT rfl ?_
       refine SR ?_
       refine V (aV (B false) rfl) ?_
       refine RL.nil ?_
       refine CW.ret ?_
       refine outP1 Tryz.results34 (congrArg B ?_) hH20.below
       first | (exfalso; omega) | exact (all_no (P := allP q) h0 ‹k < _› (by rw [allP_c ‹q = 1›]; first | assumption | exact (Bool.not_eq_true _).1 ‹_›)).symm | exact (all_no (P := allP q) h0 ‹k < _› (by rw [allP_r ‹q = 2›]; first | exact rule_n1 ‹_› | exact rule_n2 ‹_› | exact rule_n3 ‹_› | exact rule_n4 ‹_›)).symm | exact (all_yes (P := allP q) ‹¬ k < _› hg).symm
     ·refine RL.gF rfl rfl (bF h18) rfl ?_
      refine RL.gF rfl rfl (bF h18) rfl ?_
      refine RL.gF rfl rfl (bF h18) rfl ?_
      refine V (run_pickF (bF h18) (v := B false) rfl) ?_
      refine V (mV (B _) rfl) ?_
      refine RL.gF rfl rfl rfl rfl ?_
      refine RL.gF rfl rfl rfl rfl ?_
      refine RL.gF rfl rfl rfl rfl ?_
      refine V (run_pickF rfl (v := B false) rfl) ?_
      refine V (mV (B _) rfl) ?_
      refine RL.gF rfl rfl rfl rfl ?_
      refine RL.gF rfl rfl rfl rfl ?_
      refine RL.gF rfl rfl rfl rfl ?_
      refine RL.gF rfl rfl rfl rfl ?_
      refine V (run_pickF rfl (v := B false) rfl) ?_
      refine V (aV (B _) rfl) ?_
      refine RL.nil ?_
      refine CW.seq ?_
      refine SR ?_
      refine V (run_move e0_1) ?_
      refine V (run_eql rfl rfl) ?_
      refine RL.nil ?_
      refine CW.condF (bF ((by omega))) ?_
      refine CW.skip ?_
      refine SR ?_
      refine V (mV (B _) rfl) ?_
      refine V (run_not rfl) ?_
      refine RL.nil ?_
      refine CW.condT rfl ?_
      refine SR ?_
      refine V (aV (B false) rfl) ?_
      refine RL.nil ?_
      refine CW.ret ?_
      refine outP1 Tryz.results34 (congrArg B ?_) hH12.below
      first | (exfalso; omega) | exact (all_no (P := allP q) h0 ‹k < _› (by rw [allP_c ‹q = 1›]; first | assumption | exact (Bool.not_eq_true _).1 ‹_›)).symm | exact (all_no (P := allP q) h0 ‹k < _› (by rw [allP_r ‹q = 2›]; first | exact rule_n1 ‹_› | exact rule_n2 ‹_› | exact rule_n3 ‹_› | exact rule_n4 ‹_›)).symm | exact (all_yes (P := allP q) ‹¬ k < _› hg).symm
    ·refine CW.skip ?_
     refine CW.seq ?_
     refine SR ?_
     refine V (run_move e0_1) ?_
     refine V (run_eql rfl rfl) ?_
     refine RL.nil ?_
     refine CW.condF (bF ((by omega))) ?_
     refine CW.skip ?_
     refine SR ?_
     refine V (mV (B _) rfl) ?_
     refine V (run_not rfl) ?_
     refine RL.nil ?_
     refine CW.condF rfl ?_
     refine CW.skip ?_
     refine CW.region ?_
     refine V (run_move e5_1) ?_
     refine V (run_add rfl rfl (by omega)) ?_
     refine V (aV (I _) rfl) ?_
     refine RL.nil ?_
     refine ⟨k + 1, ?_, fr1.u4.u4.u4.u4.u4.u4.u4.u4.u1, (hH12.sub (sQ sR)), (congrArg I (by first | rfl | omega)), ?_, ?_, ?_⟩
     ·((try dsimp only); omega)
     ·omega
     ·omega
     ·first | (exfalso; omega) | exact fun j a b => if e : j = k then e ▸ (by first | (rw [allP_c ‹q = 1›]; assumption) | (rw [allP_r ‹q = 2›]; exact rule_y ‹_› ‹_› ‹_› (Decidable.of_not_not ‹¬ ¬ ((l.getD k.toNat node0).kids.length : Int) = 0›))) else hg j a (by omega)
   ·refine RL.gT rfl (bR (c := false) h14) ?_
    refine V (run_move e0_1) ?_
    refine RL.gT rfl (bR (c := false) h14) ?_
    refine V (run_eql rfl rfl) ?_
    refine RL.gT rfl (bR (c := false) h14) ?_
    refine V (mV (B _) rfl) ?_
    refine RL.gF rfl rfl (bF ((by omega))) rfl ?_
    refine RL.gF rfl rfl (bF ((by omega))) rfl ?_
    refine RL.gT rfl (bR (c := false) h14) ?_
    refine V (run_pickF (bF ((by omega))) (v := B false) rfl) ?_
    refine V (run_pickF (bR (c := false) h14) (v := B _) rfl) ?_
    refine V (aV (B _) rfl) ?_
    refine RL.nil ?_
    refine CW.seq ?_
    refine SR ?_
    refine V (run_move e0_1) ?_
    refine V (run_eql rfl rfl) ?_
    refine RL.nil ?_
    refine CW.condP rfl (fun h37 => ?_) (fun h37 => ?_)
    ·refine CW.region ?_
     refine V (fA underlying28 0 rfl sizeOf3 rfl) ?_
     refine V (run_ld underlying3 rfl rfl (hH12.cell (i := 0) rfl (v := I _) rfl)) ?_
     refine V (run_eql rfl rfl) ?_
     refine V (mV (B _) rfl) ?_
     refine RL.splitP (dj := 37) rfl (fun h39 => ?_) (fun h39 => ?_)
     ·refine RL.gT rfl (bT h39) ?_
      refine V (fA underlying28 2 rfl sizeOf9 rfl) ?_
      refine RL.gT rfl (bT h39) ?_
      refine V (run_ld underlying9 rfl rfl (hH12.cell (i := 0) rfl (v := .string _) rfl)) ?_
      refine RL.gT rfl (bT h39) ?_
      refine RL.callP rfl hH12 (c_clearanceref02_Right _  _) (run_call1 call32 rfl) ?_
      intro w40 hH41
      refine V (run_pickT (bT h39) (v := B _) rfl) ?_
      refine V (mV (B _) rfl) ?_
      refine RL.split (dj := 42) rfl (fun h43 => ?_) (fun h43 => ?_)
      ·refine RL.gT rfl (bR (c := true) h43) ?_
       refine V (fA underlying28 3 rfl sizeOf25 rfl) ?_
       refine RL.gT rfl (bR (c := true) h43) ?_
       refine V (run_ldV ((hv.at (by first | omega | (simp only [Int.natCast_eq_zero] at *; omega)) (by first | omega | (simp only [Int.natCast_eq_zero] at *; omega))).names_.sl.hp hH41) underlying25 rfl rfl (hH41.cell (i := 0) rfl rfl)) ?_
       refine RL.gT rfl (bR (c := true) h43) ?_
       refine RL.callP rfl hH41 (c_clearanceref10_right _ _  _ ((hv.at (by first | omega | (simp only [Int.natCast_eq_zero] at *; omega)) (by first | omega | (simp only [Int.natCast_eq_zero] at *; omega))).names_.sl.hp hH41)) (run_call1 call33 rfl) ?_
       intro w44 hH45
       refine V (run_pickT (bR (c := true) h43) (v := B _) rfl) ?_
       refine V (mV (B _) rfl) ?_
       refine RL.split (dj := 47) rfl (fun h47 => ?_) (fun h47 => ?_)
       ·refine RL.gT rfl (bR (c := true) h47) ?_
        refine V (fA underlying28 4 rfl sizeOf26 rfl) ?_
        refine RL.gT rfl (bR (c := true) h47) ?_
        refine V (run_ldV ((hv.at (by first | omega | (simp only [Int.natCast_eq_zero] at *; omega)) (by first | omega | (simp only [Int.natCast_eq_zero] at *; omega))).kids_.sl.hp hH45) underlying26 rfl rfl (hH45.cell (i := 0) rfl rfl)) ?_
        refine RL.gT rfl (bR (c := true) h47) ?_
        refine V (run_lenSl ((hv.at (by first | omega | (simp only [Int.natCast_eq_zero] at *; omega)) (by first | omega | (simp only [Int.natCast_eq_zero] at *; omega))).kids_.sl.hp hH45) rfl underlying26 rfl) ?_
        refine RL.gT rfl (bR (c := true) h47) ?_
        refine V (run_eql rfl rfl) ?_
        refine V (run_pickT (bR (c := true) h47) (v := B _) rfl) ?_
        refine V (aV (B _) rfl) ?_
        refine RL.nil ?_
        refine CW.seq ?_
        refine SR ?_
        refine V (run_move e0_1) ?_
        refine V (run_eql rfl rfl) ?_
        refine RL.nil ?_
        refine CW.condF (bF ((by omega))) ?_
        refine CW.skip ?_
        refine SR ?_
        refine V (mV (B _) rfl) ?_
        refine V (run_notP rfl) ?_
        refine RL.nil ?_
        refine CW.condP rfl (fun h51 => ?_) (fun h51 => ?_)
        ·refine SR ?_
         refine V (aV (B false) rfl) ?_
         refine RL.nil ?_
         refine CW.ret ?_
         refine outP1 Tryz.results34 (congrArg B ?_) hH45.below
         first | (exfalso; omega) | exact (all_no (P := allP q) h0 ‹k < _› (by rw [allP_c ‹q = 1›]; first | assumption | exact (Bool.not_eq_true _).1 ‹_›)).symm | exact (all_no (P := allP q) h0 ‹k < _› (by rw [allP_r ‹q = 2›]; first | exact rule_n1 ‹_› | exact rule_n2 ‹_› | exact rule_n3 ‹_› | exact rule_n4 ‹_›)).symm | exact (all_yes (P := allP q) ‹¬ k < _› hg).symm
        ·refine CW.skip ?_
         refine CW.region ?_
         refine V (run_move e5_1) ?_
         refine V (run_add rfl rfl (by omega)) ?_
         refine V (aV (I _) rfl) ?_
         refine RL.nil ?_
         refine ⟨k + 1, ?_, fr1.u4.u4.u4.u4.u4.u4.u4.u4.u4.u4.u4.u4.u4.u1, (hH45.sub (sQ sR)), (congrArg I (by first | rfl | omega)), ?_, ?_, ?_⟩
         ·((try dsimp only); omega)
         ·omega
         ·omega
         ·first | (exfalso; omega) | exact fun j a b => if e : j = k then e ▸ (by first | (rw [allP_c ‹q = 1›]; assumption) | (rw [allP_r ‹q = 2›]; exact rule_y ‹_› ‹_› ‹_› (Decidable.of_not_not ‹¬ ¬ ((l.getD k.toNat node0).kids.length : Int) = 0›))) else hg j a (by omega)
       ·refine RL.gF rfl rfl (bR (c := false) h47) rfl ?_
        refine RL.gF rfl rfl (bR (c := false) h47) rfl ?_
        refine RL.gF rfl rfl (bR (c := false) h47) rfl ?_
        refine RL.gF rfl rfl (bR (c := false) h47) rfl ?_
        refine V (run_pickF (bR (c := false) h47) (v := B false) rfl) ?_
        refine V (aV (B _) rfl) ?_
        refine RL.nil ?_
        refine CW.seq ?_
        refine SR ?_
        refine V (run_move e0_1) ?_
        refine V (run_eql rfl rfl) ?_
        refine RL.nil ?_
        refine CW.condF (bF ((by omega))) ?_
        refine CW.skip ?_
        refine SR ?_
        refine V (mV (B _) rfl) ?_
        refine V (run_not rfl) ?_
        refine RL.nil ?_
        refine CW.condT rfl ?_
        refine SR ?_
        refine V (aV (B false) rfl) ?_
        refine RL.nil ?_
        refine CW.ret ?_
        refine outP1 Tryz.results34 (congrArg B ?_) hH45.below
        first | (exfalso; omega) | exact (all_no (P := allP q) h0 ‹k < _› (by rw [allP_c ‹q = 1›]; first | assumption | exact (Bool.not_eq_true _).1 ‹_›)).symm | exact (all_no (P := allP q) h0 ‹k < _› (by rw [allP_r ‹q = 2›]; first | exact rule_n1 ‹_› | exact rule_n2 ‹_› | exact rule_n3 ‹_› | exact rule_n4 ‹_›)).symm | exact (all_yes (P := allP q) ‹¬ k < _› hg).symm
      ·refine RL.gF rfl rfl (bR (c := false) h43) rfl ?_
       refine RL.gF rfl rfl (bR (c := false) h43) rfl ?_
       refine RL.gF rfl rfl (bR (c := false) h43) rfl ?_
       refine V (run_pickF (bR (c := false) h43) (v := B false) rfl) ?_
       refine V (mV (B _) rfl) ?_
       refine RL.gF rfl rfl rfl rfl ?_
       refine RL.gF rfl rfl rfl rfl ?_
       refine RL.gF rfl rfl rfl rfl ?_
       refine RL.gF rfl rfl rfl rfl ?_
       refine V (run_pickF rfl (v := B false) rfl) ?_
       refine V (aV (B _) rfl) ?_
       refine RL.nil ?_
       refine CW.seq ?_
       refine SR ?_
       refine V (run_move e0_1) ?_
       refine V (run_eql rfl rfl) ?_
       refine RL.nil ?_
       refine CW.condF (bF ((by omega))) ?_
       refine CW.skip ?_
       refine SR ?_
       refine V (mV (B _) rfl) ?_
       refine V (run_not rfl) ?_
       refine RL.nil ?_
       refine CW.condT rfl ?_
       refine SR ?_
       refine V (aV (B false) rfl) ?_
       refine RL.nil ?_
       refine CW.ret ?_
       refine outP1 Tryz.results34 (congrArg B ?_) hH41.below
       first | (exfalso; omega) | exact (all_no (P := allP q) h0 ‹k < _› (by rw [allP_c ‹q = 1›]; first | assumption | exact (Bool.not_eq_true _).1 ‹_›)).symm | exact (all_no (P := allP q) h0 ‹k < _› (by rw [allP_r ‹q = 2›]; first | exact rule_n1 ‹_› | exact rule_n2 ‹_› | exact rule_n3 ‹_› | exact rule_n4 ‹_›)).symm | exact (all_yes (P := allP q) ‹¬ k < _› hg).symm
     ·refine RL.gF rfl rfl (bF h39) rfl ?_
      refine RL.gF rfl rfl (bF h39) rfl ?_
      refine RL.gF rfl rfl (bF h39) rfl ?_
      refine V (run_pickF (bF h39) (v := B false) rfl) ?_
      refine V (mV (B _) rfl) ?_
      refine RL.gF rfl rfl rfl rfl ?_
      refine RL.gF rfl rfl rfl rfl ?_
      refine RL.gF rfl rfl rfl rfl ?_
      refine V (run_pickF rfl (v := B false) rfl) ?_
      refine V (mV (B _) rfl) ?_
      refine RL.gF rfl rfl rfl rfl ?_
      refine RL.gF rfl rfl rfl rfl ?_
      refine RL.gF rfl rfl rfl rfl ?_
      refine RL.gF rfl rfl rfl rfl ?_
      refine V (run_pickF rfl (v := B false) rfl) ?_
      refine V (aV (B _) rfl) ?_
      refine RL.nil ?_
      refine CW.seq ?_
      refine SR ?_
      refine V (run_move e0_1) ?_
      refine V (run_eql rfl rfl) ?_
      refine RL.nil ?_
      refine CW.condF (bF ((by omega))) ?_
      refine CW.skip ?_
      refine SR ?_
      refine V (mV (B _) rfl) ?_
      refine V (run_not rfl) ?_
      refine RL.nil ?_
      refine CW.condT rfl ?_
      refine SR ?_
      refine V (aV (B false) rfl) ?_
      refine RL.nil ?_
      refine CW.ret ?_
      refine outP1 Tryz.results34 (congrArg B ?_) hH12.below
      first | (exfalso; omega) | exact (all_no (P := allP q) h0 ‹k < _› (by rw [allP_c ‹q = 1›]; first | assumption | exact (Bool.not_eq_true _).1 ‹_›)).symm | exact (all_no (P := allP q) h0 ‹k < _› (by rw [allP_r ‹q = 2›]; first | exact rule_n1 ‹_› | exact rule_n2 ‹_› | exact rule_n3 ‹_› | exact rule_n4 ‹_›)).symm | exact (all_yes (P := allP q) ‹¬ k < _› hg).symm
    ·refine CW.skip ?_
     refine CW.seq ?_
     refine SR ?_
     refine V (run_move e0_1) ?_
     refine V (run_eql rfl rfl) ?_
     refine RL.nil ?_
     refine CW.condF (bF ((by omega))) ?_
     refine CW.skip ?_
     refine SR ?_
     refine V (mV (B _) rfl) ?_
     refine V (run_not rfl) ?_
     refine RL.nil ?_
     refine CW.condT rfl ?_
     refine SR ?_
     refine V (aV (B false) rfl) ?_
     refine RL.nil ?_
     refine CW.ret ?_
     refine outP1 Tryz.results34 (congrArg B ?_) hH12.below
     first | (exfalso; omega) | exact (all_no (P := allP q) h0 ‹k < _› (by rw [allP_c ‹q = 1›]; first | assumption | exact (Bool.not_eq_true _).1 ‹_›)).symm | exact (all_no (P := allP q) h0 ‹k < _› (by rw [allP_r ‹q = 2›]; first | exact rule_n1 ‹_› | exact rule_n2 ‹_› | exact rule_n3 ‹_› | exact rule_n4 ‹_›)).symm | exact (all_yes (P := allP q) ‹¬ k < _› hg).symm
  ·refine RL.gF rfl rfl (bF h10) rfl ?_
   refine RL.gF rfl rfl (bF h10) rfl ?_
   refine V (run_pickF (bF h10) (v := B false) rfl) ?_
   refine V (mV (B _) rfl) ?_
   refine RL.gT rfl rfl ?_
   refine V (run_move e0_1) ?_
   refine RL.gT rfl rfl ?_
   refine V (run_eql rfl rfl) ?_
   refine RL.gT rfl rfl ?_
   refine V (mV (B _) rfl) ?_
   refine RL.gF rfl rfl (bF ((by omega))) rfl ?_
   refine RL.gF rfl rfl (bF ((by omega))) rfl ?_
   refine RL.gT rfl rfl ?_
   refine V (run_pickF (bF ((by omega))) (v := B false) rfl) ?_
   refine V (run_pickF rfl (v := B _) rfl) ?_
   refine V (aV (B _) rfl) ?_
   refine RL.nil ?_
   refine CW.seq ?_
   refine SR ?_
   refine V (run_move e0_1) ?_
   refine V (run_eql rfl rfl) ?_
   refine RL.nil ?_
   refine CW.condP rfl (fun h58 => ?_) (fun h58 => ?_)
   ·refine CW.region ?_
    refine V (fA underlying28 0 rfl sizeOf3 rfl) ?_
    refine V (run_ld underlying3 rfl rfl (hH8.cell (i := 0) rfl (v := I _) rfl)) ?_
    refine V (run_eql rfl rfl) ?_
    refine V (mV (B _) rfl) ?_
    refine RL.splitP (dj := 37) rfl (fun h60 => ?_) (fun h60 => ?_)
    ·refine RL.gT rfl (bT h60) ?_
     refine V (fA underlying28 2 rfl sizeOf9 rfl) ?_
     refine RL.gT rfl (bT h60) ?_
     refine V (run_ld underlying9 rfl rfl (hH8.cell (i := 0) rfl (v := .string _) rfl)) ?_
     refine RL.gT rfl (bT h60) ?_
     refine RL.callP rfl hH8 (c_clearanceref02_Right _  _) (run_call1 call32 rfl) ?_
     intro w61 hH62
     refine V (run_pickT (bT h60) (v := B _) rfl) ?_
     refine V (mV (B _) rfl) ?_
     refine RL.split (dj := 42) rfl (fun h64 => ?_) (fun h64 => ?_)
     ·refine RL.gT rfl (bR (c := true) h64) ?_
      refine V (fA underlying28 3 rfl sizeOf25 rfl) ?_
      refine RL.gT rfl (bR (c := true) h64) ?_
      refine V (run_ldV ((hv.at (by first | omega | (simp only [Int.natCast_eq_zero] at *; omega)) (by first | omega | (simp only [Int.natCast_eq_zero] at *; omega))).names_.sl.hp hH62) underlying25 rfl rfl (hH62.cell (i := 0) rfl rfl)) ?_
      refine RL.gT rfl (bR (c := true) h64) ?_
      refine RL.callP rfl hH62 (c_clearanceref10_right _ _  _ ((hv.at (by first | omega | (simp only [Int.natCast_eq_zero] at *; omega)) (by first | omega | (simp only [Int.natCast_eq_zero] at *; omega))).names_.sl.hp hH62)) (run_call1 call33 rfl) ?_
      intro w65 hH66
      refine V (run_pickT (bR (c := true) h64) (v := B _) rfl) ?_
      refine V (mV (B _) rfl) ?_
      refine RL.split (dj := 47) rfl (fun h68 => ?_) (fun h68 => ?_)
      ·refine RL.gT rfl (bR (c := true) h68) ?_
       refine V (fA underlying28 4 rfl sizeOf26 rfl) ?_
       refine RL.gT rfl (bR (c := true) h68) ?_
       refine V (run_ldV ((hv.at (by first | omega | (simp only [Int.natCast_eq_zero] at *; omega)) (by first | omega | (simp only [Int.natCast_eq_zero] at *; omega))).kids_.sl.hp hH66) underlying26 rfl rfl (hH66.cell (i := 0) rfl rfl)) ?_
       refine RL.gT rfl (bR (c := true) h68) ?_
       refine V (run_lenSl ((hv.at (by first | omega | (simp only [Int.natCast_eq_zero] at *; omega)) (by first | omega | (simp only [Int.natCast_eq_zero] at *; omega))).kids_.sl.hp hH66) rfl underlying26 rfl) ?_
       refine RL.gT rfl (bR (c := true) h68) ?_
       refine V (run_eql rfl rfl) ?_
       refine V (run_pickT (bR (c := true) h68) (v := B _) rfl) ?_
       refine V (aV (B _) rfl) ?_
       refine RL.nil ?_
       refine CW.seq ?_
       refine SR ?_
       refine V (run_move e0_1) ?_
       refine V (run_eql rfl rfl) ?_
       refine RL.nil ?_
       refine CW.condF (bF ((by omega))) ?_
       refine CW.skip ?_
       refine SR ?_
       refine V (mV (B _) rfl) ?_
       refine V (run_notP rfl) ?_
       refine RL.nil ?_
       refine CW.condP rfl (fun h72 => ?_) (fun h72 => ?_)
       ·refine SR ?_
        refine V (aV (B false) rfl) ?_
        refine RL.nil ?_
        refine CW.ret ?_
        refine outP1 Tryz.results34 (congrArg B ?_) hH66.below
        first | (exfalso; omega) | exact (all_no (P := allP q) h0 ‹k < _› (by rw [allP_c ‹q = 1›]; first | assumption | exact (Bool.not_eq_true _).1 ‹_›)).symm | exact (all_no (P := allP q) h0 ‹k < _› (by rw [allP_r ‹q = 2›]; first | exact rule_n1 ‹_› | exact rule_n2 ‹_› | exact rule_n3 ‹_› | exact rule_n4 ‹_›)).symm | exact (all_yes (P := allP q) ‹¬ k < _› hg).symm
       ·refine CW.skip ?_
        refine CW.region ?_
        refine V (run_move e5_1) ?_
        refine V (run_add rfl rfl (by omega)) ?_
        refine V (aV (I _) rfl) ?_
        refine RL.nil ?_
        refine ⟨k + 1, ?_, fr1.u4.u4.u4.u4.u4.u4.u4.u4.u4.u4.u4.u4.u4.u1, (hH66.sub (sQ sR)), (congrArg I (by first | rfl | omega)), ?_, ?_, ?_⟩
        ·((try dsimp only); omega)
        ·omega
        ·omega
        ·first | (exfalso; omega) | exact fun j a b => if e : j = k then e ▸ (by first | (rw [allP_c ‹q = 1›]; assumption) | (rw [allP_r ‹q = 2›]; exact rule_y ‹_› ‹_› ‹_› (Decidable.of_not_not ‹¬ ¬ ((l.getD k.toNat node0).kids.length : Int) = 0›))) else hg j a (by omega)
      ·refine RL.gF rfl rfl (bR (c := false) h68) rfl ?_
       refine RL.gF rfl rfl (bR (c := false) h68) rfl ?_
       refine RL.gF rfl rfl (bR (c := false) h68) rfl ?_
       refine RL.gF rfl rfl (bR (c := false) h68) rfl ?_
       refine V (run_pickF (bR (c := false) h68) (v := B false) rfl) ?_
       refine V (aV (B _) rfl) ?_
       refine RL.nil ?_
       refine CW.seq ?_
       refine SR ?_
       refine V (run_move e0_1) ?_
       refine V (run_eql rfl rfl) ?_
       refine RL.nil ?_
       refine CW.condF (bF ((by omega))) ?_
       refine CW.skip ?_
       refine SR ?_
       refine V (mV (B _) rfl) ?_
       refine V (run_not rfl) ?_
       refine RL.nil ?_
       refine CW.condT rfl ?_
       refine SR ?_
       refine V (aV (B false) rfl) ?_
       refine RL.nil ?_
       refine CW.ret ?_
       refine outP1 Tryz.results34 (congrArg B ?_) hH66.below
       first | (exfalso; omega) | exact (all_no (P := allP q) h0 ‹k < _› (by rw [allP_c ‹q = 1›]; first | assumption | exact (Bool.not_eq_true _).1 ‹_›)).symm | exact (all_no (P := allP q) h0 ‹k < _› (by rw [allP_r ‹q = 2›]; first | exact rule_n1 ‹_› | exact rule_n2 ‹_› | exact rule_n3 ‹_› | exact rule_n4 ‹_›)).symm | exact (all_yes (P := allP q) ‹¬ k < _› hg).symm
     ·refine RL.gF rfl rfl (bR (c := false) h64) rfl ?_
      refine RL.gF rfl rfl (bR (c := false) h64) rfl ?_
      refine RL.gF rfl rfl (bR (c := false) h64) rfl ?_
      refine V (run_pickF (bR (c := false) h64) (v := B false) rfl) ?_
      refine V (mV (B _) rfl) ?_
      refine RL.gF rfl rfl rfl rfl ?_
      refine RL.gF rfl rfl rfl rfl ?_
      refine RL.gF rfl rfl rfl rfl ?_
      refine RL.gF rfl rfl rfl rfl ?_
      refine V (run_pickF rfl (v := B false) rfl) ?_
      refine V (aV (B _) rfl) ?_
      refine RL.nil ?_
      refine CW.seq ?_
      refine SR ?_
      refine V (run_move e0_1) ?_
      refine V (run_eql rfl rfl) ?_
      refine RL.nil ?_
      refine CW.condF (bF ((by omega))) ?_
      refine CW.skip ?_
      refine SR ?_
      refine V (mV (B _) rfl) ?_
      refine V (run_not rfl) ?_
      refine RL.nil ?_
      refine CW.condT rfl ?_
      refine SR ?_
      refine V (aV (B false) rfl) ?_
      refine RL.nil ?_
      refine CW.ret ?_
      refine outP1 Tryz.results34 (congrArg B ?_) hH62.below
      first | (exfalso; omega) | exact (all_no (P := allP q) h0 ‹k < _› (by rw [allP_c ‹q = 1›]; first | assumption | exact (Bool.not_eq_true _).1 ‹_›)).symm | exact (all_no (P := allP q) h0 ‹k < _› (by rw [allP_r ‹q = 2›]; first | exact rule_n1 ‹_› | exact rule_n2 ‹_› | exact rule_n3 ‹_› | exact rule_n4 ‹_›)).symm | exact (all_yes (P := allP q) ‹¬ k < _› hg).symm
    ·refine RL.gF rfl rfl (bF h60) rfl ?_
     refine RL.gF rfl rfl (bF h60) rfl ?_
     refine RL.gF rfl rfl (bF h60) rfl ?_
     refine V (run_pickF (bF h60) (v := B false) rfl) ?_
     refine V (mV (B _) rfl) ?_
     refine RL.gF rfl rfl rfl rfl ?_
     refine RL.gF rfl rfl rfl rfl ?_
     refine RL.gF rfl rfl rfl rfl ?_
     refine V (run_pickF rfl (v := B false) rfl) ?_
     refine V (mV (B _) rfl) ?_
     refine RL.gF rfl rfl rfl rfl ?_
     refine RL.gF rfl rfl rfl rfl ?_
     refine RL.gF rfl rfl rfl rfl ?_
     refine RL.gF rfl rfl rfl rfl ?_
     refine V (run_pickF rfl (v := B false) rfl) ?_
     refine V (aV (B _) rfl) ?_
     refine RL.nil ?_
     refine CW.seq ?_
     refine SR ?_
     refine V (run_move e0_1) ?_
     refine V (run_eql rfl rfl) ?_
     refine RL.nil ?_
     refine CW.condF (bF ((by omega))) ?_
     refine CW.skip ?_
     refine SR ?_
     refine V (mV (B _) rfl) ?_
     refine V (run_not rfl) ?_
     refine RL.nil ?_
     refine CW.condT rfl ?_
     refine SR ?_
     refine V (aV (B false) rfl) ?_
     refine RL.nil ?_
     refine CW.ret ?_
     refine outP1 Tryz.results34 (congrArg B ?_) hH8.below
     first | (exfalso; omega) | exact (all_no (P := allP q) h0 ‹k < _› (by rw [allP_c ‹q = 1›]; first | assumption | exact (Bool.not_eq_true _).1 ‹_›)).symm | exact (all_no (P := allP q) h0 ‹k < _› (by rw [allP_r ‹q = 2›]; first | exact rule_n1 ‹_› | exact rule_n2 ‹_› | exact rule_n3 ‹_› | exact rule_n4 ‹_›)).symm | exact (all_yes (P := allP q) ‹¬ k < _› hg).symm
   ·refine CW.skip ?_
    refine CW.seq ?_
    refine SR ?_
    refine V (run_move e0_1) ?_
    refine V (run_eql rfl rfl) ?_
    refine RL.nil ?_
    refine CW.condF (bF ((by omega))) ?_
    refine CW.skip ?_
    refine SR ?_
    refine V (mV (B _) rfl) ?_
    refine V (run_not rfl) ?_
    refine RL.nil ?_
    refine CW.condT rfl ?_
    refine SR ?_
    refine V (aV (B false) rfl) ?_
    refine RL.nil ?_
    refine CW.ret ?_
    refine outP1 Tryz.results34 (congrArg B ?_) hH8.below
    first | (exfalso; omega) | exact (all_no (P := allP q) h0 ‹k < _› (by rw [allP_c ‹q = 1›]; first | assumption | exact (Bool.not_eq_true _).1 ‹_›)).symm | exact (all_no (P := allP q) h0 ‹k < _› (by rw [allP_r ‹q = 2›]; first | exact rule_n1 ‹_› | exact rule_n2 ‹_› | exact rule_n3 ‹_› | exact rule_n4 ‹_›)).symm | exact (all_yes (P := allP q) ‹¬ k < _› hg).symm
 ·refine CW.exit (id := 0) rfl ?_
  refine SR ?_
  refine V (aV (B true) rfl) ?_
  refine RL.nil ?_
  refine CW.ret ?_
  refine outP1 Tryz.results34 (congrArg B ?_) hH1.below
  first | (exfalso; omega) | exact (all_no (P := allP q) h0 ‹k < _› (by rw [allP_c ‹q = 1›]; first | assumption | exact (Bool.not_eq_true _).1 ‹_›)).symm | exact (all_no (P := allP q) h0 ‹k < _› (by rw [allP_r ‹q = 2›]; first | exact rule_n1 ‹_› | exact rule_n2 ‹_› | exact rule_n3 ‹_› | exact rule_n4 ‹_›)).symm | exact (all_yes (P := allP q) ‹¬ k < _› hg).symm

theorem s_isconst10 (n : NodeR) (w : World) (hn : NodeV (Kw w) n) (hA : ∀ (q : Int) (hq : q = 1 ∨ q = 2) (v : Value) (w : World), Sl w v 5 n.kids.length (n.kids.flatMap nodeL) → NodesV (Kw w) n.kids → Calls Tryz.prog 34 #[I q, v] w (Pure (B (n.kids.all (allP q))) w)) : Calls Tryz.prog 17 #[.agg (nodeL n).toArray] w (Pure (B (constB n.nd)) w) := by
 have hm1 := hn.kids_.small
 have hm2 := hn.names_.small
 unfold maxLen at hm1 hm2
 refine enter Tryz.func17 rfl Tryz.ntmps17 rfl ?_
 have hH := Hp.start w
 refine SR ?_
 refine RL.new rfl hH (f := fun b => (.pointer (some ⟨b, 0, none⟩))) (run_box (v := .agg _) rfl) ?_
 intro b3 w1 hH2
 refine V (aV (B false) rfl) ?_
 refine RL.nil ?_
 refine CW.seq ?_
 refine SR ?_
 refine V (fA underlying28 0 rfl sizeOf3 rfl) ?_
 refine V (run_ld underlying3 rfl rfl (hH2.cell (i := 0) rfl (v := I _) rfl)) ?_
 refine RL.nil ?_
 refine CW.block ?_
 refine SR ?_
 refine V (run_eql rfl rfl) ?_
 refine V (aV (B _) rfl) ?_
 refine RL.nil ?_
 refine CW.condP rfl (fun h5 => ?_) (fun h5 => ?_)
 ·refine SR ?_
  refine V (fA underlying28 2 rfl sizeOf9 rfl) ?_
  refine V (run_ld underlying9 rfl rfl (hH2.cell (i := 0) rfl (v := .string _) rfl)) ?_
  refine RL.callP rfl hH2 (c_clearanceref02_Right _  _) (run_call1 call32 rfl) ?_
  intro w6 hH7
  refine V (mV (B _) rfl) ?_
  refine RL.split (dj := 10) rfl (fun h9 => ?_) (fun h9 => ?_)
  ·refine RL.gT rfl (bR (c := true) h9) ?_
   refine V (fA underlying28 3 rfl sizeOf25 rfl) ?_
   refine RL.gT rfl (bR (c := true) h9) ?_
   refine V (run_ldV (hn.names_.sl.hp hH7) underlying25 rfl rfl (hH7.cell (i := 0) rfl rfl)) ?_
   refine RL.gT rfl (bR (c := true) h9) ?_
   refine V (run_lenSl (hn.names_.sl.hp hH7) rfl underlying25 rfl) ?_
   refine RL.gT rfl (bR (c := true) h9) ?_
   refine V (fA underlying28 4 rfl sizeOf26 rfl) ?_
   refine RL.gT rfl (bR (c := true) h9) ?_
   refine V (run_ldV (hn.kids_.sl.hp hH7) underlying26 rfl rfl (hH7.cell (i := 0) rfl rfl)) ?_
   refine RL.gT rfl (bR (c := true) h9) ?_
   refine V (run_lenSl (hn.kids_.sl.hp hH7) rfl underlying26 rfl) ?_
   refine RL.gT rfl (bR (c := true) h9) ?_
   refine V (run_addW rfl rfl) ?_
   refine RL.gT rfl (bR (c := true) h9) ?_
   refine V (run_eql rfl rfl) ?_
   refine V (run_pickT (bR (c := true) h9) (v := B _) rfl) ?_
   refine V (aV (B _) rfl) ?_
   refine RL.nil ?_
   refine CW.ret ?_
   refine outP1 Tryz.results17 (congrArg B ?_) hH7.below
   first | (rw [const_2 ‹n.kind = 2›, wrap_len hm2 hm1]; simp [*]; done) | (rw [const_3 ‹n.kind = 3›]; simp [*]; done) | (rw [const_2 ‹n.kind = 2›]; simp [*]; done) | exact const_4r ‹_› ‹_› ‹_› ‹_› | exact const_4s ‹_› ‹_› | exact const_4t ‹_› ‹_› | exact const_4k ‹_› ‹_› | exact const_5r ‹_› ‹_› ‹_› | exact const_5s ‹_› ‹_› | exact const_5t ‹_› ‹_› | exact (const_x ‹_› ‹_› ‹_› ‹_›).symm
  ·refine RL.gF rfl rfl (bR (c := false) h9) rfl ?_
   refine RL.gF rfl rfl (bR (c := false) h9) rfl ?_
   refine RL.gF rfl rfl (bR (c := false) h9) rfl ?_
   refine RL.gF rfl rfl (bR (c := false) h9) rfl ?_
   refine RL.gF rfl rfl (bR (c := false) h9) rfl ?_
   refine RL.gF rfl rfl (bR (c := false) h9) rfl ?_
   refine RL.gF rfl rfl (bR (c := false) h9) rfl ?_
   refine RL.gF rfl rfl (bR (c := false) h9) rfl ?_
   refine V (run_pickF (bR (c := false) h9) (v := B false) rfl) ?_
   refine V (aV (B _) rfl) ?_
   refine RL.nil ?_
   refine CW.ret ?_
   refine outP1 Tryz.results17 (congrArg B ?_) hH7.below
   first | (rw [const_2 ‹n.kind = 2›, wrap_len hm2 hm1]; simp [*]; done) | (rw [const_3 ‹n.kind = 3›]; simp [*]; done) | (rw [const_2 ‹n.kind = 2›]; simp [*]; done) | exact const_4r ‹_› ‹_› ‹_› ‹_› | exact const_4s ‹_› ‹_› | exact const_4t ‹_› ‹_› | exact const_4k ‹_› ‹_› | exact const_5r ‹_› ‹_› ‹_› | exact const_5s ‹_› ‹_› | exact const_5t ‹_› ‹_› | exact (const_x ‹_› ‹_› ‹_› ‹_›).symm
 ·refine SR ?_
  refine V (run_eql rfl rfl) ?_
  refine V (aV (B _) rfl) ?_
  refine RL.nil ?_
  refine CW.condP rfl (fun h12 => ?_) (fun h12 => ?_)
  ·refine SR ?_
   refine V (fA underlying28 2 rfl sizeOf9 rfl) ?_
   refine V (run_ld underlying9 rfl rfl (hH2.cell (i := 0) rfl (v := .string _) rfl)) ?_
   refine V (run_eqlS rfl rfl) ?_
   refine V (mV (B _) rfl) ?_
   refine RL.splitP (dj := 25) rfl (fun h14 => ?_) (fun h14 => ?_)
   ·refine RL.gT rfl (bT h14) ?_
    refine V (fA underlying28 3 rfl sizeOf25 rfl) ?_
    refine RL.gT rfl (bT h14) ?_
    refine V (run_ldV (hn.names_.sl.hp hH2) underlying25 rfl rfl (hH2.cell (i := 0) rfl rfl)) ?_
    refine RL.gT rfl (bT h14) ?_
    refine RL.callP rfl hH2 (c_clearanceref10_right _ _  _ (hn.names_.sl.hp hH2)) (run_call1 call33 rfl) ?_
    intro w15 hH16
    refine V (run_pickT (bT h14) (v := B _) rfl) ?_
    refine V (mV (B _) rfl) ?_
    refine RL.split (dj := 30) rfl (fun h18 => ?_) (fun h18 => ?_)
    ·refine RL.gT rfl (bR (c := true) h18) ?_
     refine V (fA underlying28 4 rfl sizeOf26 rfl) ?_
     refine RL.gT rfl (bR (c := true) h18) ?_
     refine V (run_ldV (hn.kids_.sl.hp hH16) underlying26 rfl rfl (hH16.cell (i := 0) rfl rfl)) ?_
     refine RL.gT rfl (bR (c := true) h18) ?_
     refine V (run_lenSl (hn.kids_.sl.hp hH16) rfl underlying26 rfl) ?_
     refine RL.gT rfl (bR (c := true) h18) ?_
     refine V (run_eql rfl rfl) ?_
     refine V (run_pickT (bR (c := true) h18) (v := B _) rfl) ?_
     refine V (aV (B _) rfl) ?_
     refine RL.nil ?_
     refine CW.ret ?_
     refine outP1 Tryz.results17 (congrArg B ?_) hH16.below
     first | (rw [const_2 ‹n.kind = 2›, wrap_len hm2 hm1]; simp [*]; done) | (rw [const_3 ‹n.kind = 3›]; simp [*]; done) | (rw [const_2 ‹n.kind = 2›]; simp [*]; done) | exact const_4r ‹_› ‹_› ‹_› ‹_› | exact const_4s ‹_› ‹_› | exact const_4t ‹_› ‹_› | exact const_4k ‹_› ‹_› | exact const_5r ‹_› ‹_› ‹_› | exact const_5s ‹_› ‹_› | exact const_5t ‹_› ‹_› | exact (const_x ‹_› ‹_› ‹_› ‹_›).symm
    ·refine RL.gF rfl rfl (bR (c := false) h18) rfl ?_
     refine RL.gF rfl rfl (bR (c := false) h18) rfl ?_
     refine RL.gF rfl rfl (bR (c := false) h18) rfl ?_
     refine RL.gF rfl rfl (bR (c := false) h18) rfl ?_
     refine V (run_pickF (bR (c := false) h18) (v := B false) rfl) ?_
     refine V (aV (B _) rfl) ?_
     refine RL.nil ?_
     refine CW.ret ?_
     refine outP1 Tryz.results17 (congrArg B ?_) hH16.below
     first | (rw [const_2 ‹n.kind = 2›, wrap_len hm2 hm1]; simp [*]; done) | (rw [const_3 ‹n.kind = 3›]; simp [*]; done) | (rw [const_2 ‹n.kind = 2›]; simp [*]; done) | exact const_4r ‹_› ‹_› ‹_› ‹_› | exact const_4s ‹_› ‹_› | exact const_4t ‹_› ‹_› | exact const_4k ‹_› ‹_› | exact const_5r ‹_› ‹_› ‹_› | exact const_5s ‹_› ‹_› | exact const_5t ‹_› ‹_› | exact (const_x ‹_› ‹_› ‹_› ‹_›).symm
   ·refine RL.gF rfl rfl (bF h14) rfl ?_
    refine RL.gF rfl rfl (bF h14) rfl ?_
    refine RL.gF rfl rfl (bF h14) rfl ?_
    refine V (run_pickF (bF h14) (v := B false) rfl) ?_
    refine V (mV (B _) rfl) ?_
    refine RL.gF rfl rfl rfl rfl ?_
    refine RL.gF rfl rfl rfl rfl ?_
    refine RL.gF rfl rfl rfl rfl ?_
    refine RL.gF rfl rfl rfl rfl ?_
    refine V (run_pickF rfl (v := B false) rfl) ?_
    refine V (aV (B _) rfl) ?_
    refine RL.nil ?_
    refine CW.ret ?_
    refine outP1 Tryz.results17 (congrArg B ?_) hH2.below
    first | (rw [const_2 ‹n.kind = 2›, wrap_len hm2 hm1]; simp [*]; done) | (rw [const_3 ‹n.kind = 3›]; simp [*]; done) | (rw [const_2 ‹n.kind = 2›]; simp [*]; done) | exact const_4r ‹_› ‹_› ‹_› ‹_› | exact const_4s ‹_› ‹_› | exact const_4t ‹_› ‹_› | exact const_4k ‹_› ‹_› | exact const_5r ‹_› ‹_› ‹_› | exact const_5s ‹_› ‹_› | exact const_5t ‹_› ‹_› | exact (const_x ‹_› ‹_› ‹_› ‹_›).symm
  ·refine SR ?_
   refine V (run_eql rfl rfl) ?_
   refine V (aV (B _) rfl) ?_
   refine RL.nil ?_
   refine CW.condP rfl (fun h21 => ?_) (fun h21 => ?_)
   ·refine SR ?_
    refine V (fA underlying28 2 rfl sizeOf9 rfl) ?_
    refine V (run_ld underlying9 rfl rfl (hH2.cell (i := 0) rfl (v := .string _) rfl)) ?_
    refine V (run_eqlS rfl rfl) ?_
    refine V (mV (B _) rfl) ?_
    refine RL.splitP (dj := 41) rfl (fun h23 => ?_) (fun h23 => ?_)
    ·refine RL.gT rfl (bT h23) ?_
     refine V (fA underlying28 3 rfl sizeOf25 rfl) ?_
     refine RL.gT rfl (bT h23) ?_
     refine V (run_ldV (hn.names_.sl.hp hH2) underlying25 rfl rfl (hH2.cell (i := 0) rfl rfl)) ?_
     refine RL.gT rfl (bT h23) ?_
     refine V (run_lenSl (hn.names_.sl.hp hH2) rfl underlying25 rfl) ?_
     refine RL.gT rfl (bT h23) ?_
     refine V (run_eql rfl rfl) ?_
     refine V (run_pickT (bT h23) (v := B _) rfl) ?_
     refine V (mV (B _) rfl) ?_
     refine RL.splitP (dj := 47) rfl (fun h25 => ?_) (fun h25 => ?_)
     ·refine RL.gT rfl (bT h25) ?_
      refine V (fA underlying28 4 rfl sizeOf26 rfl) ?_
      refine RL.gT rfl (bT h25) ?_
      refine V (run_ldV (hn.kids_.sl.hp hH2) underlying26 rfl rfl (hH2.cell (i := 0) rfl rfl)) ?_
      refine RL.gT rfl (bT h25) ?_
      refine V (run_lenSl (hn.kids_.sl.hp hH2) rfl underlying26 rfl) ?_
      refine RL.gT rfl (bT h25) ?_
      refine V (run_gtr rfl rfl) ?_
      refine V (run_pickT (bT h25) (v := B _) rfl) ?_
      refine V (mV (B _) rfl) ?_
      refine RL.splitP (dj := 53) rfl (fun h27 => ?_) (fun h27 => ?_)
      ·refine RL.gT rfl (bT h27) ?_
       refine V (fA underlying28 4 rfl sizeOf26 rfl) ?_
       refine RL.gT rfl (bT h27) ?_
       refine V (run_ldV (hn.kids_.sl.hp hH2) underlying26 rfl rfl (hH2.cell (i := 0) rfl rfl)) ?_
       refine RL.gT rfl (bT h27) ?_
       refine RL.callP rfl hH2 (hA 1 (by omega) _ _ (hn.kids_.sl.hp hH2) ⟨(NodeV.mono hH2.kw hn).each⟩) (run_call2 call34 (show _ = I 1 from rfl) rfl) ?_
       intro w28 hH29
       refine V (run_pickT (bT h27) (v := B _) rfl) ?_
       refine V (aV (B _) rfl) ?_
       refine RL.nil ?_
       refine CW.ret ?_
       refine outP1 Tryz.results17 (congrArg B ?_) hH29.below
       first | (rw [const_2 ‹n.kind = 2›, wrap_len hm2 hm1]; simp [*]; done) | (rw [const_3 ‹n.kind = 3›]; simp [*]; done) | (rw [const_2 ‹n.kind = 2›]; simp [*]; done) | exact const_4r ‹_› ‹_› ‹_› ‹_› | exact const_4s ‹_› ‹_› | exact const_4t ‹_› ‹_› | exact const_4k ‹_› ‹_› | exact const_5r ‹_› ‹_› ‹_› | exact const_5s ‹_› ‹_› | exact const_5t ‹_› ‹_› | exact (const_x ‹_› ‹_› ‹_› ‹_›).symm
      ·refine RL.gF rfl rfl (bF h27) rfl ?_
       refine RL.gF rfl rfl (bF h27) rfl ?_
       refine RL.gF rfl rfl (bF h27) rfl ?_
       refine V (run_pickF (bF h27) (v := B false) rfl) ?_
       refine V (aV (B _) rfl) ?_
       refine RL.nil ?_
       refine CW.ret ?_
       refine outP1 Tryz.results17 (congrArg B ?_) hH2.below
       first | (rw [const_2 ‹n.kind = 2›, wrap_len hm2 hm1]; simp [*]; done) | (rw [const_3 ‹n.kind = 3›]; simp [*]; done) | (rw [const_2 ‹n.kind = 2›]; simp [*]; done) | exact const_4r ‹_› ‹_› ‹_› ‹_› | exact const_4s ‹_› ‹_› | exact const_4t ‹_› ‹_› | exact const_4k ‹_› ‹_› | exact const_5r ‹_› ‹_› ‹_› | exact const_5s ‹_› ‹_› | exact const_5t ‹_› ‹_› | exact (const_x ‹_› ‹_› ‹_› ‹_›).symm
     ·refine RL.gF rfl rfl (bF h25) rfl ?_
      refine RL.gF rfl rfl (bF h25) rfl ?_
      refine RL.gF rfl rfl (bF h25) rfl ?_
      refine RL.gF rfl rfl (bF h25) rfl ?_
      refine V (run_pickF (bF h25) (v := B false) rfl) ?_
      refine V (mV (B _) rfl) ?_
      refine RL.gF rfl rfl rfl rfl ?_
      refine RL.gF rfl rfl rfl rfl ?_
      refine RL.gF rfl rfl rfl rfl ?_
      refine V (run_pickF rfl (v := B false) rfl) ?_
      refine V (aV (B _) rfl) ?_
      refine RL.nil ?_
      refine CW.ret ?_
      refine outP1 Tryz.results17 (congrArg B ?_) hH2.below
      first | (rw [const_2 ‹n.kind = 2›, wrap_len hm2 hm1]; simp [*]; done) | (rw [const_3 ‹n.kind = 3›]; simp [*]; done) | (rw [const_2 ‹n.kind = 2›]; simp [*]; done) | exact const_4r ‹_› ‹_› ‹_› ‹_› | exact const_4s ‹_› ‹_› | exact const_4t ‹_› ‹_› | exact const_4k ‹_› ‹_› | exact const_5r ‹_› ‹_› ‹_› | exact const_5s ‹_› ‹_› | exact const_5t ‹_› ‹_› | exact (const_x ‹_› ‹_› ‹_› ‹_›).symm
    ·refine RL.gF rfl rfl (bF h23) rfl ?_
     refine RL.gF rfl rfl (bF h23) rfl ?_
     refine RL.gF rfl rfl (bF h23) rfl ?_
     refine RL.gF rfl rfl (bF h23) rfl ?_
     refine V (run_pickF (bF h23) (v := B false) rfl) ?_
     refine V (mV (B _) rfl) ?_
     refine RL.gF rfl rfl rfl rfl ?_
     refine RL.gF rfl rfl rfl rfl ?_
     refine RL.gF rfl rfl rfl rfl ?_
     refine RL.gF rfl rfl rfl rfl ?_
     refine V (run_pickF rfl (v := B false) rfl) ?_
     refine V (mV (B _) rfl) ?_
     refine RL.gF rfl rfl rfl rfl ?_
     refine RL.gF rfl rfl rfl rfl ?_
     refine RL.gF rfl rfl rfl rfl ?_
     refine V (run_pickF rfl (v := B false) rfl) ?_
     refine V (aV (B _) rfl) ?_
     refine RL.nil ?_
     refine CW.ret ?_
     refine outP1 Tryz.results17 (congrArg B ?_) hH2.below
     first | (rw [const_2 ‹n.kind = 2›, wrap_len hm2 hm1]; simp [*]; done) | (rw [const_3 ‹n.kind = 3›]; simp [*]; done) | (rw [const_2 ‹n.kind = 2›]; simp [*]; done) | exact const_4r ‹_› ‹_› ‹_› ‹_› | exact const_4s ‹_› ‹_› | exact const_4t ‹_› ‹_› | exact const_4k ‹_› ‹_› | exact const_5r ‹_› ‹_› ‹_› | exact const_5s ‹_› ‹_› | exact const_5t ‹_› ‹_› | exact (const_x ‹_› ‹_› ‹_› ‹_›).symm
   ·refine SR ?_
    refine V (run_eql rfl rfl) ?_
    refine V (aV (B _) rfl) ?_
    refine RL.nil ?_
    refine CW.condP rfl (fun h32 => ?_) (fun h32 => ?_)
    ·refine SR ?_
     refine V (fA underlying28 2 rfl sizeOf9 rfl) ?_
     refine V (run_ld underlying9 rfl rfl (hH2.cell (i := 0) rfl (v := .string _) rfl)) ?_
     refine V (run_eqlS rfl rfl) ?_
     refine V (mV (B _) rfl) ?_
     refine RL.splitP (dj := 63) rfl (fun h34 => ?_) (fun h34 => ?_)
     ·refine RL.gT rfl (bT h34) ?_
      refine V (fA underlying28 3 rfl sizeOf25 rfl) ?_
      refine RL.gT rfl (bT h34) ?_
      refine V (run_ldV (hn.names_.sl.hp hH2) underlying25 rfl rfl (hH2.cell (i := 0) rfl rfl)) ?_
      refine RL.gT rfl (bT h34) ?_
      refine V (run_lenSl (hn.names_.sl.hp hH2) rfl underlying25 rfl) ?_
      refine RL.gT rfl (bT h34) ?_
      refine V (run_eql rfl rfl) ?_
      refine V (run_pickT (bT h34) (v := B _) rfl) ?_
      refine V (mV (B _) rfl) ?_
      refine RL.splitP (dj := 69) rfl (fun h36 => ?_) (fun h36 => ?_)
      ·refine RL.gT rfl (bT h36) ?_
       refine V (fA underlying28 4 rfl sizeOf26 rfl) ?_
       refine RL.gT rfl (bT h36) ?_
       refine V (run_ldV (hn.kids_.sl.hp hH2) underlying26 rfl rfl (hH2.cell (i := 0) rfl rfl)) ?_
       refine RL.gT rfl (bT h36) ?_
       refine RL.callP rfl hH2 (hA 2 (by omega) _ _ (hn.kids_.sl.hp hH2) ⟨(NodeV.mono hH2.kw hn).each⟩) (run_call2 call34 (show _ = I 2 from rfl) rfl) ?_
       intro w37 hH38
       refine V (run_pickT (bT h36) (v := B _) rfl) ?_
       refine V (aV (B _) rfl) ?_
       refine RL.nil ?_
       refine CW.ret ?_
       refine outP1 Tryz.results17 (congrArg B ?_) hH38.below
       first | (rw [const_2 ‹n.kind = 2›, wrap_len hm2 hm1]; simp [*]; done) | (rw [const_3 ‹n.kind = 3›]; simp [*]; done) | (rw [const_2 ‹n.kind = 2›]; simp [*]; done) | exact const_4r ‹_› ‹_› ‹_› ‹_› | exact const_4s ‹_› ‹_› | exact const_4t ‹_› ‹_› | exact const_4k ‹_› ‹_› | exact const_5r ‹_› ‹_› ‹_› | exact const_5s ‹_› ‹_› | exact const_5t ‹_› ‹_› | exact (const_x ‹_› ‹_› ‹_› ‹_›).symm
      ·refine RL.gF rfl rfl (bF h36) rfl ?_
       refine RL.gF rfl rfl (bF h36) rfl ?_
       refine RL.gF rfl rfl (bF h36) rfl ?_
       refine V (run_pickF (bF h36) (v := B false) rfl) ?_
       refine V (aV (B _) rfl) ?_
       refine RL.nil ?_
       refine CW.ret ?_
       refine outP1 Tryz.results17 (congrArg B ?_) hH2.below
       first | (rw [const_2 ‹n.kind = 2›, wrap_len hm2 hm1]; simp [*]; done) | (rw [const_3 ‹n.kind = 3›]; simp [*]; done) | (rw [const_2 ‹n.kind = 2›]; simp [*]; done) | exact const_4r ‹_› ‹_› ‹_› ‹_› | exact const_4s ‹_› ‹_› | exact const_4t ‹_› ‹_› | exact const_4k ‹_› ‹_› | exact const_5r ‹_› ‹_› ‹_› | exact const_5s ‹_› ‹_› | exact const_5t ‹_› ‹_› | exact (const_x ‹_› ‹_› ‹_› ‹_›).symm
     ·refine RL.gF rfl rfl (bF h34) rfl ?_
      refine RL.gF rfl rfl (bF h34) rfl ?_
      refine RL.gF rfl rfl (bF h34) rfl ?_
      refine RL.gF rfl rfl (bF h34) rfl ?_
      refine V (run_pickF (bF h34) (v := B false) rfl) ?_
      refine V (mV (B _) rfl) ?_
      refine RL.gF rfl rfl rfl rfl ?_
      refine RL.gF rfl rfl rfl rfl ?_
      refine RL.gF rfl rfl rfl rfl ?_
      refine V (run_pickF rfl (v := B false) rfl) ?_
      refine V (aV (B _) rfl) ?_
      refine RL.nil ?_
      refine CW.ret ?_
      refine outP1 Tryz.results17 (congrArg B ?_) hH2.below
      first | (rw [const_2 ‹n.kind = 2›, wrap_len hm2 hm1]; simp [*]; done) | (rw [const_3 ‹n.kind = 3›]; simp [*]; done) | (rw [const_2 ‹n.kind = 2›]; simp [*]; done) | exact const_4r ‹_› ‹_› ‹_› ‹_› | exact const_4s ‹_› ‹_› | exact const_4t ‹_› ‹_› | exact const_4k ‹_› ‹_› | exact const_5r ‹_› ‹_› ‹_› | exact const_5s ‹_› ‹_› | exact const_5t ‹_› ‹_› | exact (const_x ‹_› ‹_› ‹_› ‹_›).symm
    ·refine CW.skip ?_
     refine SR ?_
     refine V (aV (B false) rfl) ?_
     refine RL.nil ?_
     refine CW.ret ?_
     refine outP1 Tryz.results17 (congrArg B ?_) hH2.below
     first | (rw [const_2 ‹n.kind = 2›, wrap_len hm2 hm1]; simp [*]; done) | (rw [const_3 ‹n.kind = 3›]; simp [*]; done) | (rw [const_2 ‹n.kind = 2›]; simp [*]; done) | exact const_4r ‹_› ‹_› ‹_› ‹_› | exact const_4s ‹_› ‹_› | exact const_4t ‹_› ‹_› | exact const_4k ‹_› ‹_› | exact const_5r ‹_› ‹_› ‹_› | exact const_5s ‹_› ‹_› | exact const_5t ‹_› ‹_› | exact (const_x ‹_› ‹_› ‹_› ‹_›).symm
theorem c_clearanceref10_IsConst (n : NodeR) : ∀ w, NodeV (Kw w) n → Calls Tryz.prog 17 #[.agg (nodeL n).toArray] w (Pure (B (constB n.nd)) w) := node_ind (C := fun n => ∀ w, NodeV (Kw w) n → Calls Tryz.prog 17 #[.agg (nodeL n).toArray] w (Pure (B (constB n.nd)) w)) (fun n ih w hn => s_isconst10 n w hn fun q hq v w hs hv => s_all q v n.kids hq w hs hv ih) n

theorem c_clearanceref11_Elem (s : Shp) (n : NodeR) (hz : NodeZ n) (w : World) (hs : ShpV (Kw w) s) (hn : NodeV (Kw w) n) : Calls Tryz.prog 10 #[.agg (shpC s), .agg (nodeL n).toArray] w (Pure (.tuple #[.agg (elC (resE (elemG s.sh n.nd)).1), .agg (fltL (resE (elemG s.sh n.nd)).2).toArray]) w) := by
 have hsl := sh_len s
 have hm := hs.facs.sl.small
 unfold maxLen at hm
 have hnv := partsR_v (s := s) hn
 have hm1 := hn.kids_.small
 unfold maxLen at hm1
 refine enter Tryz.func10 rfl Tryz.ntmps10 rfl ?_
 have hH := Hp.start w
 refine SR ?_
 refine RL.new rfl hH (f := fun b => (.pointer (some ⟨b, 0, none⟩))) (run_box (v := .agg _) rfl) ?_
 intro b3 w1 hH2
 refine RL.new rfl hH2 (f := fun b => (.pointer (some ⟨b, 0, none⟩))) (run_box (v := .agg _) rfl) ?_
 intro b6 w4 hH5
 refine RL.new rfl hH5 (f := fun b => (.pointer (some ⟨b, 0, none⟩))) (run_alloc zero_el) ?_
 intro b9 w7 hH8
 refine RL.new rfl hH8 (f := fun b => (.pointer (some ⟨b, 0, none⟩))) (run_alloc zero_flt) ?_
 intro b12 w10 hH11
 refine RL.nil ?_
 refine SR ?_
 refine RL.new rfl hH11 (f := fun b => (.pointer (some ⟨b, 0, none⟩))) (run_alloc zero_el) ?_
 intro b15 w13 hH14
 refine RL.nil ?_
 refine SR ?_
 refine V (run_ldA (cs := nodeL _) underlying28 rfl rfl rfl (rangeAt_cells (hH14.blk (i := 3) rfl))) ?_
 refine RL.new rfl hH14 (f := fun b => (.slice (some ⟨b, 0, none⟩) 1 1)) (run_mkRecs nodeL_len underlying26 rfl rfl rfl (l := [n]) rfl (by decide) (by decide) rfl) ?_
 intro b18 w16 hH17
 refine V (run_assign (by conv => lhs; whnf)) ?_
 refine RL.nil ?_
 refine CW.seq ?_
 refine SR ?_
 refine V (run_ldA (cs := [B _, _]) underlying24 rfl rfl rfl (rangeAt_cells (hH17.blk (i := 5) rfl))) ?_
 refine RL.callP rfl hH17 (c_clearanceref07_Right _  _ (hs.mono hH17.kw)) (run_call1 call16 rfl) ?_
 intro w19 hH20
 refine V (run_not rfl) ?_
 refine V (mV (B _) rfl) ?_
 refine RL.split (dj := 15) rfl (fun h23 => ?_) (fun h23 => ?_)
 ·refine RL.gF rfl rfl (bR (c := true) h23) rfl ?_
  refine RL.gF rfl rfl (bR (c := true) h23) rfl ?_
  refine RL.gF rfl rfl (bR (c := true) h23) rfl ?_
  refine V (run_pickT (bR (c := true) h23) (v := B true) rfl) ?_
  refine RL.nil ?_
  refine CW.condT rfl ?_
  refine CW.seq ?_
  refine CW.regionS (by kernel_rfl) hH20 (sP (sP (sQ (sQ sR)))) ?_
  intro w24 hH25
  refine AT 0 rfl (hH25.sub (sP (sP (sQ (sQ sR))))) (fun w hS => run_ldEl underlying34 rfl rfl rfl (hS.blk (i := 1) rfl)) ?_
  refine AT 1 rfl (hH25.sub (sP (sP (sQ (sQ sR))))) (fun w hS => fA underlying28 1 rfl sizeOf3 rfl) ?_
  refine AT 2 rfl (hH25.sub (sP (sP (sQ (sQ sR))))) (fun w hS => run_ld underlying3 rfl rfl (hS.cell (i := 2) rfl (v := I _) rfl)) ?_
  refine AT 3 rfl (hH25.sub (sP (sP (sQ (sQ sR))))) (fun w hS => run_bld (vs := [(0, I 4), (1, I _)]) rfl (built_fltL _ _)) ?_
  refine A1 4 ?_
  refine AO.set rfl gnone hH25 (j := 3) rfl (sP (sP (sQ (sQ sR)))) (run_stEl rfl rfl rfl (hH25.blk (i := 3) rfl)) ?_
  intro w28 hH29
  simp only [z0, z1] at hH29
  refine A1 5 ?_
  refine AO.set rfl gnone hH29 (j := 2) rfl (sP (sP (sQ (sQ sR)))) (run_stW (c' := (fltL _).toArray) rfl rfl rfl (by simp [fltL, Value.oneCell']) (hH29.blk (i := 2) rfl) rfl) ?_
  intro w32 hH33
  simp only [z0, z1] at hH33
  refine AD ?_
  refine CW.ret ?_
  refine outCC Tryz.results10 rfl rfl hH33 (i := 3) (j := 2) rfl rfl underlying34 rfl (by rw [elC_size]; rfl) underlying36 rfl rfl ⟨?_, hH33.below⟩
  first | exact res_er (el_no2 (nt ‹(!shR s.sh) = true›)) | exact res_er (el_no3 (nt ‹(!constB n.nd) = true›)) | exact res_er ((el_yes hP hR (nf ‹(!constB n.nd) = false›)).trans (re_bad h0 (by rw [hzl]; omega) hm (by rw [zip_get hpl0 h0 (by omega), ← hpe]) ‹(gotE (wordG _ _)).bad = true›)) | exact res_ok ((el_yes hP hR (nf ‹(!constB n.nd) = false›)).trans (re_end (by omega) hm)) | exact res_er (el_no1 (partB_n1 ‹_› ‹_›)) | exact res_er (el_no1 (partB_n2 ‹_› ‹_›))
 ·refine RL.gT rfl (bR (c := false) h23) ?_
  refine V (run_ldA (cs := nodeL _) underlying28 rfl rfl rfl (rangeAt_cells (hH20.blk (i := 4) rfl))) ?_
  refine RL.gT rfl (bR (c := false) h23) ?_
  refine RL.callP rfl hH20 (c_clearanceref10_IsConst _  _ (hn.mono hH20.kw)) (run_call1 call17 rfl) ?_
  intro w34 hH35
  refine RL.gT rfl (bR (c := false) h23) ?_
  refine V (run_not rfl) ?_
  refine V (run_pickF (bR (c := false) h23) (v := B _) rfl) ?_
  refine RL.nil ?_
  refine CW.cond rfl (fun h38 => ?_) (fun h38 => ?_)
  ·refine CW.seq ?_
   refine CW.regionS (by kernel_rfl) hH35 (sP (sP (sQ (sQ sR)))) ?_
   intro w39 hH40
   refine AT 0 rfl (hH40.sub (sP (sP (sQ (sQ sR))))) (fun w hS => run_ldEl underlying34 rfl rfl rfl (hS.blk (i := 1) rfl)) ?_
   refine AT 1 rfl (hH40.sub (sP (sP (sQ (sQ sR))))) (fun w hS => fA underlying28 1 rfl sizeOf3 rfl) ?_
   refine AT 2 rfl (hH40.sub (sP (sP (sQ (sQ sR))))) (fun w hS => run_ld underlying3 rfl rfl (hS.cell (i := 2) rfl (v := I _) rfl)) ?_
   refine AT 3 rfl (hH40.sub (sP (sP (sQ (sQ sR))))) (fun w hS => run_bld (vs := [(0, I 4), (1, I _)]) rfl (built_fltL _ _)) ?_
   refine A1 4 ?_
   refine AO.set rfl gnone hH40 (j := 3) rfl (sP (sP (sQ (sQ sR)))) (run_stEl rfl rfl rfl (hH40.blk (i := 3) rfl)) ?_
   intro w43 hH44
   simp only [z0, z1] at hH44
   refine A1 5 ?_
   refine AO.set rfl gnone hH44 (j := 2) rfl (sP (sP (sQ (sQ sR)))) (run_stW (c' := (fltL _).toArray) rfl rfl rfl (by simp [fltL, Value.oneCell']) (hH44.blk (i := 2) rfl) rfl) ?_
   intro w47 hH48
   simp only [z0, z1] at hH48
   refine AD ?_
   refine CW.ret ?_
   refine outCC Tryz.results10 rfl rfl hH48 (i := 3) (j := 2) rfl rfl underlying34 rfl (by rw [elC_size]; rfl) underlying36 rfl rfl ⟨?_, hH48.below⟩
   first | exact res_er (el_no2 (nt ‹(!shR s.sh) = true›)) | exact res_er (el_no3 (nt ‹(!constB n.nd) = true›)) | exact res_er ((el_yes hP hR (nf ‹(!constB n.nd) = false›)).trans (re_bad h0 (by rw [hzl]; omega) hm (by rw [zip_get hpl0 h0 (by omega), ← hpe]) ‹(gotE (wordG _ _)).bad = true›)) | exact res_ok ((el_yes hP hR (nf ‹(!constB n.nd) = false›)).trans (re_end (by omega) hm)) | exact res_er (el_no1 (partB_n1 ‹_› ‹_›)) | exact res_er (el_no1 (partB_n2 ‹_› ‹_›))
  ·refine CW.skip ?_
   refine CW.seq ?_
   refine SR ?_
   refine V (fA underlying24 0 rfl sizeOf4 rfl) ?_
   refine V (run_ld underlying4 rfl rfl (hH35.cell (i := 5) rfl (v := B _) rfl)) ?_
   refine RL.nil ?_
   refine CW.cond rfl (fun h50 => ?_) (fun h50 => ?_)
   ·refine CW.seq ?_
    refine SR ?_
    refine V (fA underlying28 0 rfl sizeOf3 rfl) ?_
    refine V (run_ld underlying3 rfl rfl (hH35.cell (i := 4) rfl (v := I _) rfl)) ?_
    refine V (run_neq rfl rfl) ?_
    refine V (mV (B _) rfl) ?_
    refine RL.splitP (dj := 29) rfl (fun h52 => ?_) (fun h52 => ?_)
    ·refine RL.gF rfl rfl (bT h52) rfl ?_
     refine RL.gF rfl rfl (bT h52) rfl ?_
     refine RL.gF rfl rfl (bT h52) rfl ?_
     refine RL.gF rfl rfl (bT h52) rfl ?_
     refine RL.gF rfl rfl (bT h52) rfl ?_
     refine RL.gF rfl rfl (bT h52) rfl ?_
     refine RL.gF rfl rfl (bT h52) rfl ?_
     refine V (run_pickT (bT h52) (v := B true) rfl) ?_
     refine RL.nil ?_
     refine CW.condT rfl ?_
     refine CW.seq ?_
     refine CW.regionS (by kernel_rfl) hH35 (sP (sP (sQ (sQ sR)))) ?_
     intro w53 hH54
     refine AT 0 rfl (hH54.sub (sP (sP (sQ (sQ sR))))) (fun w hS => run_ldEl underlying34 rfl rfl rfl (hS.blk (i := 1) rfl)) ?_
     refine AT 1 rfl (hH54.sub (sP (sP (sQ (sQ sR))))) (fun w hS => fA underlying28 1 rfl sizeOf3 rfl) ?_
     refine AT 2 rfl (hH54.sub (sP (sP (sQ (sQ sR))))) (fun w hS => run_ld underlying3 rfl rfl (hS.cell (i := 2) rfl (v := I _) rfl)) ?_
     refine AT 3 rfl (hH54.sub (sP (sP (sQ (sQ sR))))) (fun w hS => run_bld (vs := [(0, I 4), (1, I _)]) rfl (built_fltL _ _)) ?_
     refine A1 4 ?_
     refine AO.set rfl gnone hH54 (j := 3) rfl (sP (sP (sQ (sQ sR)))) (run_stEl rfl rfl rfl (hH54.blk (i := 3) rfl)) ?_
     intro w57 hH58
     simp only [z0, z1] at hH58
     refine A1 5 ?_
     refine AO.set rfl gnone hH58 (j := 2) rfl (sP (sP (sQ (sQ sR)))) (run_stW (c' := (fltL _).toArray) rfl rfl rfl (by simp [fltL, Value.oneCell']) (hH58.blk (i := 2) rfl) rfl) ?_
     intro w61 hH62
     simp only [z0, z1] at hH62
     refine AD ?_
     refine CW.ret ?_
     refine outCC Tryz.results10 rfl rfl hH62 (i := 3) (j := 2) rfl rfl underlying34 rfl (by rw [elC_size]; rfl) underlying36 rfl rfl ⟨?_, hH62.below⟩
     first | exact res_er (el_no2 (nt ‹(!shR s.sh) = true›)) | exact res_er (el_no3 (nt ‹(!constB n.nd) = true›)) | exact res_er ((el_yes hP hR (nf ‹(!constB n.nd) = false›)).trans (re_bad h0 (by rw [hzl]; omega) hm (by rw [zip_get hpl0 h0 (by omega), ← hpe]) ‹(gotE (wordG _ _)).bad = true›)) | exact res_ok ((el_yes hP hR (nf ‹(!constB n.nd) = false›)).trans (re_end (by omega) hm)) | exact res_er (el_no1 (partB_n1 ‹_› ‹_›)) | exact res_er (el_no1 (partB_n2 ‹_› ‹_›))
    ·refine RL.gT rfl (bF h52) ?_
     refine V (fA underlying28 4 rfl sizeOf26 rfl) ?_
     refine RL.gT rfl (bF h52) ?_
     refine V (run_ldV (hn.kids_.sl.hp hH35) underlying26 rfl rfl (hH35.cell (i := 4) rfl rfl)) ?_
     refine RL.gT rfl (bF h52) ?_
     refine V (run_lenSl (hn.kids_.sl.hp hH35) rfl underlying26 rfl) ?_
     refine RL.gT rfl (bF h52) ?_
     refine V (fA underlying24 1 rfl sizeOf22 rfl) ?_
     refine RL.gT rfl (bF h52) ?_
     refine V (run_ld underlying22 rfl rfl (hH35.cell (i := 5) rfl rfl)) ?_
     refine RL.gT rfl (bF h52) ?_
     refine V (run_lenSl (hs.facs.sl.hp hH35) rfl underlying22 rfl) ?_
     refine RL.gT rfl (bF h52) ?_
     refine V (run_neq rfl rfl) ?_
     refine V (run_pickF (bF h52) (v := B _) rfl) ?_
     refine RL.nil ?_
     refine CW.condP rfl (fun h64 => ?_) (fun h64 => ?_)
     ·refine CW.seq ?_
      refine CW.regionS (by kernel_rfl) hH35 (sP (sP (sQ (sQ sR)))) ?_
      intro w65 hH66
      refine AT 0 rfl (hH66.sub (sP (sP (sQ (sQ sR))))) (fun w hS => run_ldEl underlying34 rfl rfl rfl (hS.blk (i := 1) rfl)) ?_
      refine AT 1 rfl (hH66.sub (sP (sP (sQ (sQ sR))))) (fun w hS => fA underlying28 1 rfl sizeOf3 rfl) ?_
      refine AT 2 rfl (hH66.sub (sP (sP (sQ (sQ sR))))) (fun w hS => run_ld underlying3 rfl rfl (hS.cell (i := 2) rfl (v := I _) rfl)) ?_
      refine AT 3 rfl (hH66.sub (sP (sP (sQ (sQ sR))))) (fun w hS => run_bld (vs := [(0, I 4), (1, I _)]) rfl (built_fltL _ _)) ?_
      refine A1 4 ?_
      refine AO.set rfl gnone hH66 (j := 3) rfl (sP (sP (sQ (sQ sR)))) (run_stEl rfl rfl rfl (hH66.blk (i := 3) rfl)) ?_
      intro w69 hH70
      simp only [z0, z1] at hH70
      refine A1 5 ?_
      refine AO.set rfl gnone hH70 (j := 2) rfl (sP (sP (sQ (sQ sR)))) (run_stW (c' := (fltL _).toArray) rfl rfl rfl (by simp [fltL, Value.oneCell']) (hH70.blk (i := 2) rfl) rfl) ?_
      intro w73 hH74
      simp only [z0, z1] at hH74
      refine AD ?_
      refine CW.ret ?_
      refine outCC Tryz.results10 rfl rfl hH74 (i := 3) (j := 2) rfl rfl underlying34 rfl (by rw [elC_size]; rfl) underlying36 rfl rfl ⟨?_, hH74.below⟩
      first | exact res_er (el_no2 (nt ‹(!shR s.sh) = true›)) | exact res_er (el_no3 (nt ‹(!constB n.nd) = true›)) | exact res_er ((el_yes hP hR (nf ‹(!constB n.nd) = false›)).trans (re_bad h0 (by rw [hzl]; omega) hm (by rw [zip_get hpl0 h0 (by omega), ← hpe]) ‹(gotE (wordG _ _)).bad = true›)) | exact res_ok ((el_yes hP hR (nf ‹(!constB n.nd) = false›)).trans (re_end (by omega) hm)) | exact res_er (el_no1 (partB_n1 ‹_› ‹_›)) | exact res_er (el_no1 (partB_n2 ‹_› ‹_›))
     ·refine CW.skip ?_
      refine CW.region ?_
      refine V (fA underlying28 4 rfl sizeOf26 rfl) ?_
      refine V (run_ldV (hn.kids_.sl.hp hH35) underlying26 rfl rfl (hH35.cell (i := 4) rfl rfl)) ?_
      refine V (run_assign (by conv => lhs; whnf)) ?_
      refine RL.nil ?_
      refine CW.seq ?_
      refine SR ?_
      refine V (aV (I 0) rfl) ?_
      refine RL.nil ?_
      refine CW.block ?_
      have hP : partB s n = true := by first | exact partB_1 ‹s.tuple = false› | exact partB_1 ((Bool.not_eq_true _).1 ‹¬ s.tuple = true›) | exact partB_2 (Decidable.of_not_not ‹¬ ¬ n.kind = 4›) (Decidable.of_not_not ‹¬ ¬ (n.kids.length : Int) = s.facs.length›)
      first | (have hpe := partsR_1 (s := s) (n := n) ‹s.tuple = false›) | (have hpe := partsR_1 (s := s) (n := n) ((Bool.not_eq_true _).1 ‹¬ s.tuple = true›)) | (have hpe := partsR_2 (s := s) (n := n) ‹s.tuple = true›)
      have hR := nf ‹(!shR s.sh) = false›
      have hpl := parts_len hP hR
      have hpl0 := hpl
      have hzl := zip_len hpl
      rw [← hpe] at hpl
      have h8 := (sh_spec hR).1
      have hsl2 := sh_len s
      refine CW.loop (G := (Int) × (El)) (fun (⟨k, e1⟩ : (Int) × (El)) s' w' => (Fr [8, 9, 44, 45, 46, 47, 48, 49, 50, 51, 52, 53, 54, 55, 56, 57, 58, 59, 60, 61, 62, 63, 64, 65, 66, 67, 68, 69] _ s') ∧ (Hp w w' (_ :: .blk b15 (.cells (elC e1) 34 (0, 0)) :: _)) ∧ (s' 8 = I k) ∧ (0 ≤ k) ∧ (k ≤ s.facs.length) ∧ (elemL (zipF s n) 0 el0 = elemL ((zipF s n).drop k.toNat) k.toNat e1)) (fun (⟨k, e1⟩ : (Int) × (El)) => (s.facs.length - k).toNat) ((0, el0)) ⟨Fr.refl _ _, hH35, rfl, (by omega), (by omega), rfl⟩ ?_
      rintro ⟨k, e1⟩ sg75 w75 ⟨fr75, hH75, e8_75, h0, hk, hm⟩
      have e2_75 : sg75 2 = Pn _ _ := (fr75 2 rfl).trans rfl
      have e4_75 : sg75 4 = Pn _ _ := (fr75 4 rfl).trans rfl
      have e5_75 : sg75 5 = Pn _ _ := (fr75 5 rfl).trans rfl
      have e6_75 : sg75 6 = Pn _ _ := (fr75 6 rfl).trans rfl
      have e7_75 := (fr75 7 rfl).trans (by conv => lhs; whnf)
      refine CW.seq ?_
      refine SR ?_
      refine V (run_move e8_75) ?_
      refine V (run_move e7_75) ?_
      refine V (run_lenSl (hn.kids_.sl.hp hH75) rfl underlying26 rfl) ?_
      refine V (run_lss rfl rfl) ?_
      refine RL.nil ?_
      refine CW.condP rfl (fun h77 => ?_) (fun h77 => ?_)
      ·refine CW.skip ?_
       refine CW.seq ?_
       refine CW.block ?_
       refine CW.seq ?_
       refine CW.regionD (by kernel_rfl) hH75 ?_
       intro w78 hH79
       refine AT 0 rfl (hH79.sub sR) (fun w hS => fA underlying24 1 rfl sizeOf22 e2_75) ?_
       refine AT 1 rfl (hH79.sub sR) (fun w hS => run_ld underlying22 rfl rfl (hS.cell (i := 5) rfl rfl)) ?_
       refine AT 2 rfl (hH79.sub sR) (fun w hS => run_move e8_75) ?_
       refine AT 3 rfl (hH79.sub sR) (fun w hS => run_indexAddrS (hs.facs.sl.hp hS) underlying22 sizeOf50 rfl rfl (by omega)) ?_
       refine AT 4 rfl (hH79.sub sR) (fun w hS => run_ldE (dv := fac0) facL_len (hs.facs.sl.hp hS) underlying50 rfl rfl rfl (by omega)) ?_
       refine AT 5 rfl (hH79.sub sR) (fun w hS => run_move e7_75) ?_
       refine AT 6 rfl (hH79.sub sR) (fun w hS => run_move e8_75) ?_
       refine AT 7 rfl (hH79.sub sR) (fun w hS => run_indexAddrS (hn.kids_.sl.hp hS) underlying26 sizeOf28 rfl rfl (by omega)) ?_
       refine AT 8 rfl (hH79.sub sR) (fun w hS => run_ldE (dv := node0) nodeL_len (hn.kids_.sl.hp hS) underlying28 rfl rfl rfl (by omega)) ?_
       refine AN.two 9 10 (by kernel_rfl) ?_ ?_
       ·refine AO.callP rfl gnone rfl hH79 sR (c_clearanceref11_word (s.facs.getD k.toNat fac0) _ (by rw [hpe]; exact partsR_z hz _ (List.mem_of_getElem? (getD_at (d := node0) h0 (by omega)))) _ ((hs.mono hH79.kw).at h0 (by omega)) (by rw [hpe]; exact (hnv.mono hH79.kw).at h0 (by omega))) (run_call2 call24 rfl rfl) ?_
        intro w80 hH81
        refine A1 10 ?_
        refine AO.new rfl gnone rfl hH81 sR (f := fun b => .pointer (some ⟨b, 0, none⟩)) (run_alloc zero_got) ?_
        intro b84 w82 hH83
        refine A1 11 ?_
        refine AO.set rfl gnone hH83 (j := 0) rfl (sQ sR) (run_stW (c' := (gotL _).toArray) rfl rfl rfl (by simp [gotL, Value.oneCell']) (hH83.blk (i := 0) rfl) rfl) ?_
        intro w87 hH88
        simp only [z0, z1] at hH88
        refine AD ?_
        refine CW.seq ?_
        refine SR ?_
        refine V (fA underlying61 1 rfl sizeOf4 rfl) ?_
        refine V (run_ld underlying4 rfl rfl (hH88.cell (i := 0) rfl (v := B _) rfl)) ?_
        refine RL.nil ?_
        refine CW.cond rfl (fun h90 => ?_) (fun h90 => ?_)
        ·refine CW.seq ?_
         refine CW.regionS (by kernel_rfl) hH88 (sP (sP (sP (sQ (sQ sR))))) ?_
         intro w91 hH92
         refine AT 0 rfl (hH92.sub (sP (sP (sP (sQ (sQ sR)))))) (fun w hS => run_bld (vs := []) rfl (built_el0)) ?_
         refine AT 1 rfl (hH92.sub (sP (sP (sP (sQ (sQ sR)))))) (fun w hS => fA underlying61 2 rfl sizeOf3 rfl) ?_
         refine AT 2 rfl (hH92.sub (sP (sP (sP (sQ (sQ sR)))))) (fun w hS => run_ld underlying3 rfl rfl (hS.cell (i := 0) rfl (v := I _) rfl)) ?_
         refine AT 3 rfl (hH92.sub (sP (sP (sP (sQ (sQ sR)))))) (fun w hS => run_bld (vs := [(0, I 4), (1, I _)]) rfl (built_fltL _ _)) ?_
         refine A1 4 ?_
         refine AO.set rfl gnone hH92 (j := 4) rfl (sP (sP (sP (sQ (sQ sR))))) (run_stEl rfl e4_75 rfl (hH92.blk (i := 4) rfl)) ?_
         intro w95 hH96
         simp only [z0, z1] at hH96
         refine A1 5 ?_
         refine AO.set rfl gnone hH96 (j := 3) rfl (sP (sP (sP (sQ (sQ sR))))) (run_stW (c' := (fltL _).toArray) rfl e5_75 rfl (by simp [fltL, Value.oneCell']) (hH96.blk (i := 3) rfl) rfl) ?_
         intro w99 hH100
         simp only [z0, z1] at hH100
         refine AD ?_
         refine CW.ret ?_
         refine outCC Tryz.results10 e4_75 e5_75 hH100 (i := 4) (j := 3) rfl rfl underlying34 rfl (by rw [elC_size]; rfl) underlying36 rfl rfl ⟨?_, hH100.below⟩
         first | exact res_er (el_no2 (nt ‹(!shR s.sh) = true›)) | exact res_er (el_no3 (nt ‹(!constB n.nd) = true›)) | exact res_er ((el_yes hP hR (nf ‹(!constB n.nd) = false›)).trans (re_bad h0 (by rw [hzl]; omega) hm (by rw [zip_get hpl0 h0 (by omega), ← hpe]) ‹(gotE (wordG _ _)).bad = true›)) | exact res_ok ((el_yes hP hR (nf ‹(!constB n.nd) = false›)).trans (re_end (by omega) hm)) | exact res_er (el_no1 (partB_n1 ‹_› ‹_›)) | exact res_er (el_no1 (partB_n2 ‹_› ‹_›))
        ·refine CW.skip ?_
         refine CW.region ?_
         refine V (run_move e8_75) ?_
         refine V (fA underlying61 0 rfl sizeOf32 rfl) ?_
         refine V (run_ld underlying32 rfl rfl (hH88.cell (i := 0) rfl (v := U _) rfl)) ?_
         refine V (run_indexAddrA underlying34 sizeOf32 e6_75 rfl (by omega)) ?_
         refine RL.set hH88 (i := 2) rfl (run_st rfl rfl (v := U _) rfl rfl rfl (hH88.blk (i := 2) rfl) (by rw [elC_size]; omega)) ?_
         intro w101 hH102
         simp only [z0, z1] at hH102
         rw [elC_put] at hH102
         refine RL.nil ?_
         refine CW.region ?_
         refine V (run_move e8_75) ?_
         refine V (run_add rfl rfl (by omega)) ?_
         refine V (aV (I _) rfl) ?_
         refine RL.nil ?_
         refine ⟨(k + 1, _), ?_, fr75.u4.u4.u4.u4.u4.u4, (hH102.sub (sQ sR)), (congrArg I (by first | rfl | omega)), ?_, ?_, ?_⟩
         ·((try dsimp only); omega)
         ·omega
         ·omega
         ·exact re_next h0 (by rw [hzl]; omega) hm (by rw [zip_get hpl0 h0 (by omega), ← hpe]) (by rw [‹(gotE (wordG _ _)).bad = false›]; decide)
       ·refine AO.new rfl gnone rfl hH79 sR (f := fun b => .pointer (some ⟨b, 0, none⟩)) (run_alloc zero_got) ?_
        intro b105 w103 hH104
        refine A1 9 ?_
        refine AO.callP rfl gnone rfl hH104 (sQ sR) (c_clearanceref11_word (s.facs.getD k.toNat fac0) _ (by rw [hpe]; exact partsR_z hz _ (List.mem_of_getElem? (getD_at (d := node0) h0 (by omega)))) _ ((hs.mono hH104.kw).at h0 (by omega)) (by rw [hpe]; exact (hnv.mono hH104.kw).at h0 (by omega))) (run_call2 call24 rfl rfl) ?_
        intro w106 hH107
        refine A1 11 ?_
        refine AO.set rfl gnone hH107 (j := 0) rfl (sQ sR) (run_stW (c' := (gotL _).toArray) rfl rfl rfl (by simp [gotL, Value.oneCell']) (hH107.blk (i := 0) rfl) rfl) ?_
        intro w110 hH111
        simp only [z0, z1] at hH111
        refine AD ?_
        refine CW.seq ?_
        refine SR ?_
        refine V (fA underlying61 1 rfl sizeOf4 rfl) ?_
        refine V (run_ld underlying4 rfl rfl (hH111.cell (i := 0) rfl (v := B _) rfl)) ?_
        refine RL.nil ?_
        refine CW.cond rfl (fun h113 => ?_) (fun h113 => ?_)
        ·refine CW.seq ?_
         refine CW.regionS (by kernel_rfl) hH111 (sP (sP (sP (sQ (sQ sR))))) ?_
         intro w114 hH115
         refine AT 0 rfl (hH115.sub (sP (sP (sP (sQ (sQ sR)))))) (fun w hS => run_bld (vs := []) rfl (built_el0)) ?_
         refine AT 1 rfl (hH115.sub (sP (sP (sP (sQ (sQ sR)))))) (fun w hS => fA underlying61 2 rfl sizeOf3 rfl) ?_
         refine AT 2 rfl (hH115.sub (sP (sP (sP (sQ (sQ sR)))))) (fun w hS => run_ld underlying3 rfl rfl (hS.cell (i := 0) rfl (v := I _) rfl)) ?_
         refine AT 3 rfl (hH115.sub (sP (sP (sP (sQ (sQ sR)))))) (fun w hS => run_bld (vs := [(0, I 4), (1, I _)]) rfl (built_fltL _ _)) ?_
         refine A1 4 ?_
         refine AO.set rfl gnone hH115 (j := 4) rfl (sP (sP (sP (sQ (sQ sR))))) (run_stEl rfl e4_75 rfl (hH115.blk (i := 4) rfl)) ?_
         intro w118 hH119
         simp only [z0, z1] at hH119
         refine A1 5 ?_
         refine AO.set rfl gnone hH119 (j := 3) rfl (sP (sP (sP (sQ (sQ sR))))) (run_stW (c' := (fltL _).toArray) rfl e5_75 rfl (by simp [fltL, Value.oneCell']) (hH119.blk (i := 3) rfl) rfl) ?_
         intro w122 hH123
         simp only [z0, z1] at hH123
         refine AD ?_
         refine CW.ret ?_
         refine outCC Tryz.results10 e4_75 e5_75 hH123 (i := 4) (j := 3) rfl rfl underlying34 rfl (by rw [elC_size]; rfl) underlying36 rfl rfl ⟨?_, hH123.below⟩
         first | exact res_er (el_no2 (nt ‹(!shR s.sh) = true›)) | exact res_er (el_no3 (nt ‹(!constB n.nd) = true›)) | exact res_er ((el_yes hP hR (nf ‹(!constB n.nd) = false›)).trans (re_bad h0 (by rw [hzl]; omega) hm (by rw [zip_get hpl0 h0 (by omega), ← hpe]) ‹(gotE (wordG _ _)).bad = true›)) | exact res_ok ((el_yes hP hR (nf ‹(!constB n.nd) = false›)).trans (re_end (by omega) hm)) | exact res_er (el_no1 (partB_n1 ‹_› ‹_›)) | exact res_er (el_no1 (partB_n2 ‹_› ‹_›))
        ·refine CW.skip ?_
         refine CW.region ?_
         refine V (run_move e8_75) ?_
         refine V (fA underlying61 0 rfl sizeOf32 rfl) ?_
         refine V (run_ld underlying32 rfl rfl (hH111.cell (i := 0) rfl (v := U _) rfl)) ?_
         refine V (run_indexAddrA underlying34 sizeOf32 e6_75 rfl (by omega)) ?_
         refine RL.set hH111 (i := 2) rfl (run_st rfl rfl (v := U _) rfl rfl rfl (hH111.blk (i := 2) rfl) (by rw [elC_size]; omega)) ?_
         intro w124 hH125
         simp only [z0, z1] at hH125
         rw [elC_put] at hH125
         refine RL.nil ?_
         refine CW.region ?_
         refine V (run_move e8_75) ?_
         refine V (run_add rfl rfl (by omega)) ?_
         refine V (aV (I _) rfl) ?_
         refine RL.nil ?_
         refine ⟨(k + 1, _), ?_, fr75.u4.u4.u4.u4.u4.u4, (hH125.sub (sQ sR)), (congrArg I (by first | rfl | omega)), ?_, ?_, ?_⟩
         ·((try dsimp only); omega)
         ·omega
         ·omega
         ·exact re_next h0 (by rw [hzl]; omega) hm (by rw [zip_get hpl0 h0 (by omega), ← hpe]) (by rw [‹(gotE (wordG _ _)).bad = false›]; decide)
      ·refine CW.exit (id := 0) rfl ?_
       refine SR ?_
       refine V (run_ldEl underlying34 rfl rfl e6_75 (hH75.blk (i := 1) rfl)) ?_
       refine V (run_bld (vs := []) rfl (built_fltL0)) ?_
       refine RL.set hH75 (i := 3) rfl (run_stEl rfl e4_75 rfl (hH75.blk (i := 3) rfl)) ?_
       intro w126 hH127
       simp only [z0, z1] at hH127
       refine RL.set hH127 (i := 2) rfl (run_stW (c' := (fltL _).toArray) rfl e5_75 rfl (by simp [fltL, Value.oneCell']) (hH127.blk (i := 2) rfl) rfl) ?_
       intro w128 hH129
       simp only [z0, z1] at hH129
       refine RL.nil ?_
       refine CW.ret ?_
       refine outCC Tryz.results10 e4_75 e5_75 hH129 (i := 3) (j := 2) rfl rfl underlying34 rfl (by rw [elC_size]; rfl) underlying36 rfl rfl ⟨?_, hH129.below⟩
       first | exact res_er (el_no2 (nt ‹(!shR s.sh) = true›)) | exact res_er (el_no3 (nt ‹(!constB n.nd) = true›)) | exact res_er ((el_yes hP hR (nf ‹(!constB n.nd) = false›)).trans (re_bad h0 (by rw [hzl]; omega) hm (by rw [zip_get hpl0 h0 (by omega), ← hpe]) ‹(gotE (wordG _ _)).bad = true›)) | exact res_ok ((el_yes hP hR (nf ‹(!constB n.nd) = false›)).trans (re_end (by omega) hm)) | exact res_er (el_no1 (partB_n1 ‹_› ‹_›)) | exact res_er (el_no1 (partB_n2 ‹_› ‹_›))
   ·refine CW.skip ?_
    refine CW.seq ?_
    refine SR ?_
    refine V (aV (I 0) rfl) ?_
    refine RL.nil ?_
    refine CW.block ?_
    have hP : partB s n = true := by first | exact partB_1 ‹s.tuple = false› | exact partB_1 ((Bool.not_eq_true _).1 ‹¬ s.tuple = true›) | exact partB_2 (Decidable.of_not_not ‹¬ ¬ n.kind = 4›) (Decidable.of_not_not ‹¬ ¬ (n.kids.length : Int) = s.facs.length›)
    first | (have hpe := partsR_1 (s := s) (n := n) ‹s.tuple = false›) | (have hpe := partsR_1 (s := s) (n := n) ((Bool.not_eq_true _).1 ‹¬ s.tuple = true›)) | (have hpe := partsR_2 (s := s) (n := n) ‹s.tuple = true›)
    have hR := nf ‹(!shR s.sh) = false›
    have hpl := parts_len hP hR
    have hpl0 := hpl
    have hzl := zip_len hpl
    rw [← hpe] at hpl
    have h8 := (sh_spec hR).1
    have hsl2 := sh_len s
    refine CW.loop (G := (Int) × (El)) (fun (⟨k, e1⟩ : (Int) × (El)) s' w' => (Fr [8, 9, 44, 45, 46, 47, 48, 49, 50, 51, 52, 53, 54, 55, 56, 57, 58, 59, 60, 61, 62, 63, 64, 65, 66, 67, 68, 69] _ s') ∧ (Hp w w' (_ :: .blk b15 (.cells (elC e1) 34 (0, 0)) :: _)) ∧ (s' 8 = I k) ∧ (0 ≤ k) ∧ (k ≤ s.facs.length) ∧ (elemL (zipF s n) 0 el0 = elemL ((zipF s n).drop k.toNat) k.toNat e1)) (fun (⟨k, e1⟩ : (Int) × (El)) => (s.facs.length - k).toNat) ((0, el0)) ⟨Fr.refl _ _, hH35, rfl, (by omega), (by omega), rfl⟩ ?_
    rintro ⟨k, e1⟩ sg130 w130 ⟨fr130, hH130, e8_130, h0, hk, hm⟩
    have e2_130 : sg130 2 = Pn _ _ := (fr130 2 rfl).trans rfl
    have e4_130 : sg130 4 = Pn _ _ := (fr130 4 rfl).trans rfl
    have e5_130 : sg130 5 = Pn _ _ := (fr130 5 rfl).trans rfl
    have e6_130 : sg130 6 = Pn _ _ := (fr130 6 rfl).trans rfl
    have e7_130 := (fr130 7 rfl).trans (by conv => lhs; whnf)
    refine CW.seq ?_
    refine SR ?_
    refine V (run_move e8_130) ?_
    refine V (run_move e7_130) ?_
    refine V (run_lenSl (Hp.slFlat nodeL_len hH130 (i := 0) (l := [n]) rfl (by simp [maxLen])) rfl underlying26 rfl) ?_
    refine V (run_lss rfl rfl) ?_
    refine RL.nil ?_
    refine CW.condP rfl (fun h132 => ?_) (fun h132 => ?_)
    ·refine CW.skip ?_
     refine CW.seq ?_
     refine CW.block ?_
     refine CW.seq ?_
     refine CW.regionD (by kernel_rfl) hH130 ?_
     intro w133 hH134
     refine AT 0 rfl (hH134.sub sR) (fun w hS => fA underlying24 1 rfl sizeOf22 e2_130) ?_
     refine AT 1 rfl (hH134.sub sR) (fun w hS => run_ld underlying22 rfl rfl (hS.cell (i := 5) rfl rfl)) ?_
     refine AT 2 rfl (hH134.sub sR) (fun w hS => run_move e8_130) ?_
     refine AT 3 rfl (hH134.sub sR) (fun w hS => run_indexAddrS (hs.facs.sl.hp hS) underlying22 sizeOf50 rfl rfl (by omega)) ?_
     refine AT 4 rfl (hH134.sub sR) (fun w hS => run_ldE (dv := fac0) facL_len (hs.facs.sl.hp hS) underlying50 rfl rfl rfl (by omega)) ?_
     refine AT 5 rfl (hH134.sub sR) (fun w hS => run_move e7_130) ?_
     refine AT 6 rfl (hH134.sub sR) (fun w hS => run_move e8_130) ?_
     refine AT 7 rfl (hH134.sub sR) (fun w hS => run_indexAddrS (Hp.slFlat nodeL_len hS (i := 0) (l := [n]) rfl (by simp [maxLen])) underlying26 sizeOf28 rfl rfl (by omega)) ?_
     refine AT 8 rfl (hH134.sub sR) (fun w hS => run_ldE (dv := node0) nodeL_len (Hp.slFlat nodeL_len hS (i := 0) (l := [n]) rfl (by simp [maxLen])) underlying28 rfl rfl rfl (by omega)) ?_
     refine AN.two 9 10 (by kernel_rfl) ?_ ?_
     ·refine AO.callP rfl gnone rfl hH134 sR (c_clearanceref11_word (s.facs.getD k.toNat fac0) _ (by rw [hpe]; exact partsR_z hz _ (List.mem_of_getElem? (getD_at (d := node0) h0 (by omega)))) _ ((hs.mono hH134.kw).at h0 (by omega)) (by rw [hpe]; exact (hnv.mono hH134.kw).at h0 (by omega))) (run_call2 call24 rfl rfl) ?_
      intro w135 hH136
      refine A1 10 ?_
      refine AO.new rfl gnone rfl hH136 sR (f := fun b => .pointer (some ⟨b, 0, none⟩)) (run_alloc zero_got) ?_
      intro b139 w137 hH138
      refine A1 11 ?_
      refine AO.set rfl gnone hH138 (j := 0) rfl (sQ sR) (run_stW (c' := (gotL _).toArray) rfl rfl rfl (by simp [gotL, Value.oneCell']) (hH138.blk (i := 0) rfl) rfl) ?_
      intro w142 hH143
      simp only [z0, z1] at hH143
      refine AD ?_
      refine CW.seq ?_
      refine SR ?_
      refine V (fA underlying61 1 rfl sizeOf4 rfl) ?_
      refine V (run_ld underlying4 rfl rfl (hH143.cell (i := 0) rfl (v := B _) rfl)) ?_
      refine RL.nil ?_
      refine CW.cond rfl (fun h145 => ?_) (fun h145 => ?_)
      ·refine CW.seq ?_
       refine CW.regionS (by kernel_rfl) hH143 (sP (sP (sP (sQ (sQ sR))))) ?_
       intro w146 hH147
       refine AT 0 rfl (hH147.sub (sP (sP (sP (sQ (sQ sR)))))) (fun w hS => run_bld (vs := []) rfl (built_el0)) ?_
       refine AT 1 rfl (hH147.sub (sP (sP (sP (sQ (sQ sR)))))) (fun w hS => fA underlying61 2 rfl sizeOf3 rfl) ?_
       refine AT 2 rfl (hH147.sub (sP (sP (sP (sQ (sQ sR)))))) (fun w hS => run_ld underlying3 rfl rfl (hS.cell (i := 0) rfl (v := I _) rfl)) ?_
       refine AT 3 rfl (hH147.sub (sP (sP (sP (sQ (sQ sR)))))) (fun w hS => run_bld (vs := [(0, I 4), (1, I _)]) rfl (built_fltL _ _)) ?_
       refine A1 4 ?_
       refine AO.set rfl gnone hH147 (j := 4) rfl (sP (sP (sP (sQ (sQ sR))))) (run_stEl rfl e4_130 rfl (hH147.blk (i := 4) rfl)) ?_
       intro w150 hH151
       simp only [z0, z1] at hH151
       refine A1 5 ?_
       refine AO.set rfl gnone hH151 (j := 3) rfl (sP (sP (sP (sQ (sQ sR))))) (run_stW (c' := (fltL _).toArray) rfl e5_130 rfl (by simp [fltL, Value.oneCell']) (hH151.blk (i := 3) rfl) rfl) ?_
       intro w154 hH155
       simp only [z0, z1] at hH155
       refine AD ?_
       refine CW.ret ?_
       refine outCC Tryz.results10 e4_130 e5_130 hH155 (i := 4) (j := 3) rfl rfl underlying34 rfl (by rw [elC_size]; rfl) underlying36 rfl rfl ⟨?_, hH155.below⟩
       first | exact res_er (el_no2 (nt ‹(!shR s.sh) = true›)) | exact res_er (el_no3 (nt ‹(!constB n.nd) = true›)) | exact res_er ((el_yes hP hR (nf ‹(!constB n.nd) = false›)).trans (re_bad h0 (by rw [hzl]; omega) hm (by rw [zip_get hpl0 h0 (by omega), ← hpe]) ‹(gotE (wordG _ _)).bad = true›)) | exact res_ok ((el_yes hP hR (nf ‹(!constB n.nd) = false›)).trans (re_end (by omega) hm)) | exact res_er (el_no1 (partB_n1 ‹_› ‹_›)) | exact res_er (el_no1 (partB_n2 ‹_› ‹_›))
      ·refine CW.skip ?_
       refine CW.region ?_
       refine V (run_move e8_130) ?_
       refine V (fA underlying61 0 rfl sizeOf32 rfl) ?_
       refine V (run_ld underlying32 rfl rfl (hH143.cell (i := 0) rfl (v := U _) rfl)) ?_
       refine V (run_indexAddrA underlying34 sizeOf32 e6_130 rfl (by omega)) ?_
       refine RL.set hH143 (i := 2) rfl (run_st rfl rfl (v := U _) rfl rfl rfl (hH143.blk (i := 2) rfl) (by rw [elC_size]; omega)) ?_
       intro w156 hH157
       simp only [z0, z1] at hH157
       rw [elC_put] at hH157
       refine RL.nil ?_
       refine CW.region ?_
       refine V (run_move e8_130) ?_
       refine V (run_add rfl rfl (by omega)) ?_
       refine V (aV (I _) rfl) ?_
       refine RL.nil ?_
       refine ⟨(k + 1, _), ?_, fr130.u4.u4.u4.u4.u4.u4, (hH157.sub (sQ sR)), (congrArg I (by first | rfl | omega)), ?_, ?_, ?_⟩
       ·((try dsimp only); omega)
       ·omega
       ·omega
       ·exact re_next h0 (by rw [hzl]; omega) hm (by rw [zip_get hpl0 h0 (by omega), ← hpe]) (by rw [‹(gotE (wordG _ _)).bad = false›]; decide)
     ·refine AO.new rfl gnone rfl hH134 sR (f := fun b => .pointer (some ⟨b, 0, none⟩)) (run_alloc zero_got) ?_
      intro b160 w158 hH159
      refine A1 9 ?_
      refine AO.callP rfl gnone rfl hH159 (sQ sR) (c_clearanceref11_word (s.facs.getD k.toNat fac0) _ (by rw [hpe]; exact partsR_z hz _ (List.mem_of_getElem? (getD_at (d := node0) h0 (by omega)))) _ ((hs.mono hH159.kw).at h0 (by omega)) (by rw [hpe]; exact (hnv.mono hH159.kw).at h0 (by omega))) (run_call2 call24 rfl rfl) ?_
      intro w161 hH162
      refine A1 11 ?_
      refine AO.set rfl gnone hH162 (j := 0) rfl (sQ sR) (run_stW (c' := (gotL _).toArray) rfl rfl rfl (by simp [gotL, Value.oneCell']) (hH162.blk (i := 0) rfl) rfl) ?_
      intro w165 hH166
      simp only [z0, z1] at hH166
      refine AD ?_
      refine CW.seq ?_
      refine SR ?_
      refine V (fA underlying61 1 rfl sizeOf4 rfl) ?_
      refine V (run_ld underlying4 rfl rfl (hH166.cell (i := 0) rfl (v := B _) rfl)) ?_
      refine RL.nil ?_
      refine CW.cond rfl (fun h168 => ?_) (fun h168 => ?_)
      ·refine CW.seq ?_
       refine CW.regionS (by kernel_rfl) hH166 (sP (sP (sP (sQ (sQ sR))))) ?_
       intro w169 hH170
       refine AT 0 rfl (hH170.sub (sP (sP (sP (sQ (sQ sR)))))) (fun w hS => run_bld (vs := []) rfl (built_el0)) ?_
       refine AT 1 rfl (hH170.sub (sP (sP (sP (sQ (sQ sR)))))) (fun w hS => fA underlying61 2 rfl sizeOf3 rfl) ?_
       refine AT 2 rfl (hH170.sub (sP (sP (sP (sQ (sQ sR)))))) (fun w hS => run_ld underlying3 rfl rfl (hS.cell (i := 0) rfl (v := I _) rfl)) ?_
       refine AT 3 rfl (hH170.sub (sP (sP (sP (sQ (sQ sR)))))) (fun w hS => run_bld (vs := [(0, I 4), (1, I _)]) rfl (built_fltL _ _)) ?_
       refine A1 4 ?_
       refine AO.set rfl gnone hH170 (j := 4) rfl (sP (sP (sP (sQ (sQ sR))))) (run_stEl rfl e4_130 rfl (hH170.blk (i := 4) rfl)) ?_
       intro w173 hH174
       simp only [z0, z1] at hH174
       refine A1 5 ?_
       refine AO.set rfl gnone hH174 (j := 3) rfl (sP (sP (sP (sQ (sQ sR))))) (run_stW (c' := (fltL _).toArray) rfl e5_130 rfl (by simp [fltL, Value.oneCell']) (hH174.blk (i := 3) rfl) rfl) ?_
       intro w177 hH178
       simp only [z0, z1] at hH178
       refine AD ?_
       refine CW.ret ?_
       refine outCC Tryz.results10 e4_130 e5_130 hH178 (i := 4) (j := 3) rfl rfl underlying34 rfl (by rw [elC_size]; rfl) underlying36 rfl rfl ⟨?_, hH178.below⟩
       first | exact res_er (el_no2 (nt ‹(!shR s.sh) = true›)) | exact res_er (el_no3 (nt ‹(!constB n.nd) = true›)) | exact res_er ((el_yes hP hR (nf ‹(!constB n.nd) = false›)).trans (re_bad h0 (by rw [hzl]; omega) hm (by rw [zip_get hpl0 h0 (by omega), ← hpe]) ‹(gotE (wordG _ _)).bad = true›)) | exact res_ok ((el_yes hP hR (nf ‹(!constB n.nd) = false›)).trans (re_end (by omega) hm)) | exact res_er (el_no1 (partB_n1 ‹_› ‹_›)) | exact res_er (el_no1 (partB_n2 ‹_› ‹_›))
      ·refine CW.skip ?_
       refine CW.region ?_
       refine V (run_move e8_130) ?_
       refine V (fA underlying61 0 rfl sizeOf32 rfl) ?_
       refine V (run_ld underlying32 rfl rfl (hH166.cell (i := 0) rfl (v := U _) rfl)) ?_
       refine V (run_indexAddrA underlying34 sizeOf32 e6_130 rfl (by omega)) ?_
       refine RL.set hH166 (i := 2) rfl (run_st rfl rfl (v := U _) rfl rfl rfl (hH166.blk (i := 2) rfl) (by rw [elC_size]; omega)) ?_
       intro w179 hH180
       simp only [z0, z1] at hH180
       rw [elC_put] at hH180
       refine RL.nil ?_
       refine CW.region ?_
       refine V (run_move e8_130) ?_
       refine V (run_add rfl rfl (by omega)) ?_
       refine V (aV (I _) rfl) ?_
       refine RL.nil ?_
       refine ⟨(k + 1, _), ?_, fr130.u4.u4.u4.u4.u4.u4, (hH180.sub (sQ sR)), (congrArg I (by first | rfl | omega)), ?_, ?_, ?_⟩
       ·((try dsimp only); omega)
       ·omega
       ·omega
       ·exact re_next h0 (by rw [hzl]; omega) hm (by rw [zip_get hpl0 h0 (by omega), ← hpe]) (by rw [‹(gotE (wordG _ _)).bad = false›]; decide)
    ·refine CW.exit (id := 0) rfl ?_
     refine SR ?_
     refine V (run_ldEl underlying34 rfl rfl e6_130 (hH130.blk (i := 1) rfl)) ?_
     refine V (run_bld (vs := []) rfl (built_fltL0)) ?_
     refine RL.set hH130 (i := 3) rfl (run_stEl rfl e4_130 rfl (hH130.blk (i := 3) rfl)) ?_
     intro w181 hH182
     simp only [z0, z1] at hH182
     refine RL.set hH182 (i := 2) rfl (run_stW (c' := (fltL _).toArray) rfl e5_130 rfl (by simp [fltL, Value.oneCell']) (hH182.blk (i := 2) rfl) rfl) ?_
     intro w183 hH184
     simp only [z0, z1] at hH184
     refine RL.nil ?_
     refine CW.ret ?_
     refine outCC Tryz.results10 e4_130 e5_130 hH184 (i := 3) (j := 2) rfl rfl underlying34 rfl (by rw [elC_size]; rfl) underlying36 rfl rfl ⟨?_, hH184.below⟩
     first | exact res_er (el_no2 (nt ‹(!shR s.sh) = true›)) | exact res_er (el_no3 (nt ‹(!constB n.nd) = true›)) | exact res_er ((el_yes hP hR (nf ‹(!constB n.nd) = false›)).trans (re_bad h0 (by rw [hzl]; omega) hm (by rw [zip_get hpl0 h0 (by omega), ← hpe]) ‹(gotE (wordG _ _)).bad = true›)) | exact res_ok ((el_yes hP hR (nf ‹(!constB n.nd) = false›)).trans (re_end (by omega) hm)) | exact res_er (el_no1 (partB_n1 ‹_› ‹_›)) | exact res_er (el_no1 (partB_n2 ‹_› ‹_›))

theorem c_spell_constant_1_1 (W0 : World) (b c : Nat) (v : Value) (l : List Int) (f : Fac) (i : Int) (hi : 0 ≤ i ∧ i < f.names.length) (w : World) (hH : Hp W0 w [.row v 53 2 l.length ((l.map (wdN f.names)).flatMap wdL), .blk b (.cells #[v] 25 (0, 0))]) (hlen : l.length ≤ 64) (hf : FacV (Kw W0) f) (hc : W0.heap[c]? = some (.cells (facC f) 50 (0, 0))) : Calls Tryz.prog 54 #[I i, .pointer (some ⟨b, 0, none⟩), .pointer (some ⟨c, 0, none⟩)] w (Ret fun u w' => u = B true ∧ ∃ v', Hp W0 w' [.row v' 53 2 (l ++ [i]).length (((l ++ [i]).map (wdN f.names)).flatMap wdL), .blk b (.cells #[v'] 25 (0, 0))]) := by
 refine enter Tryz.func54 rfl Tryz.ntmps54 rfl ?_
 refine SR ?_
 refine V (aV (B false) rfl) ?_
 refine RL.nil ?_
 refine CW.seq ?_
 refine CW.regionS (by kernel_rfl) hH (sQ (sQ sR)) ?_
 intro w1 hH2
 refine AT 1 rfl (hH2.sub (sQ (sQ sR))) (fun w hS => fA underlying50 1 rfl sizeOf45 rfl) ?_
 refine AT 2 rfl (hH2.sub (sQ (sQ sR))) (fun w hS => run_ld underlying45 rfl rfl (hS.extCell hc rfl)) ?_
 refine AT 3 rfl (hH2.sub (sQ (sQ sR))) (fun w hS => mV (I _) rfl) ?_
 refine AT 4 rfl (hH2.sub (sQ (sQ sR))) (fun w hS => run_indexAddrS (hf.names.sl.hp hS) underlying45 sizeOf9 rfl rfl (by omega)) ?_
 refine AT 5 rfl (hH2.sub (sQ (sQ sR))) (fun w hS => run_ld underlying9 rfl rfl ((hf.names.sl.hp hS).cell _ _ (txL_at (by omega)))) ?_
 refine AT 6 rfl (hH2.sub (sQ (sQ sR))) (fun w hS => run_bld (vs := [(0, S _)]) rfl (built_wdLs _)) ?_
 refine AN.two 0 7 (by kernel_rfl) ?_ ?_
 ·refine AO.read rfl gnone rfl hH2 (sQ (sQ sR)) (run_ld underlying25 rfl rfl (hH2.cell (i := 1) rfl rfl)) ?_
  refine A1 7 ?_
  refine AO.new rfl gnone rfl hH2 (sQ (sQ sR)) (f := fun b => .slice (some ⟨b, 0, none⟩) 1 1) (run_mkRecs wdL_len underlying25 rfl rfl rfl (l := [_]) rfl (by decide) (by decide) rfl) ?_
  intro b7 w5 hH6
  refine A1 8 ?_
  refine AO.app rfl gnone rfl hH6 (j := 1) rfl (fun _ => (sQ (sQ (sQ sR)))) (Hp.slFlat wdL_len hH6 (i := 0) (l := [_]) rfl (by simp [maxLen])) rfl rfl underlying25 rfl rfl (size := 2) (bytes := 24) rfl rfl rfl (by decide) (by simp [wdL, Value.oneCell']) (by simp only [List.length_cons, List.length_nil]; omega) (by simp only [maxLen, List.length_cons, List.length_nil]; omega) ?_
  intro v10 w8 hH9
  simp only [z0, z1] at hH9
  refine A1 9 ?_
  refine AO.set rfl gnone hH9 (j := 2) rfl (sQ (sQ (sQ sR))) (run_st rfl rfl (v := v10) rfl (row_cells (hH9.get (i := 1) rfl)).1 (row_cells (hH9.get (i := 1) rfl)).2 (hH9.blk (i := 2) rfl) (by first | decide | simp)) ?_
  intro w11 hH12
  simp only [z0, z1] at hH12
  refine AD ?_
  refine SR ?_
  refine V (aV (B true) rfl) ?_
  refine RL.nil ?_
  refine CW.ret ?_
  exact out1 Tryz.results54 rfl ⟨rfl, (v10 : Value), Hp.conv hH12.tail (by simp [wdN])⟩
 ·refine AO.new rfl gnone rfl hH2 (sQ (sQ sR)) (f := fun b => .slice (some ⟨b, 0, none⟩) 1 1) (run_mkRecs wdL_len underlying25 rfl rfl rfl (l := [_]) rfl (by decide) (by decide) rfl) ?_
  intro b15 w13 hH14
  refine A1 0 ?_
  refine AO.read rfl gnone rfl hH14 (sQ (sQ (sQ sR))) (run_ld underlying25 rfl rfl (hH14.cell (i := 2) rfl rfl)) ?_
  refine A1 8 ?_
  refine AO.app rfl gnone rfl hH14 (j := 1) rfl (fun _ => (sQ (sQ (sQ sR)))) (Hp.slFlat wdL_len hH14 (i := 0) (l := [_]) rfl (by simp [maxLen])) rfl rfl underlying25 rfl rfl (size := 2) (bytes := 24) rfl rfl rfl (by decide) (by simp [wdL, Value.oneCell']) (by simp only [List.length_cons, List.length_nil]; omega) (by simp only [maxLen, List.length_cons, List.length_nil]; omega) ?_
  intro v20 w18 hH19
  simp only [z0, z1] at hH19
  refine A1 9 ?_
  refine AO.set rfl gnone hH19 (j := 2) rfl (sQ (sQ (sQ sR))) (run_st rfl rfl (v := v20) rfl (row_cells (hH19.get (i := 1) rfl)).1 (row_cells (hH19.get (i := 1) rfl)).2 (hH19.blk (i := 2) rfl) (by first | decide | simp)) ?_
  intro w21 hH22
  simp only [z0, z1] at hH22
  refine AD ?_
  refine SR ?_
  refine V (aV (B true) rfl) ?_
  refine RL.nil ?_
  refine CW.ret ?_
  exact out1 Tryz.results54 rfl ⟨rfl, (v20 : Value), Hp.conv hH22.tail (by simp [wdN])⟩

theorem c_spell_constant_1 (K : Vu) (c : Nat) (f : Fac) (s : BitVec 64) (hw : subB s (below f.names.length) = true) (w : World) (hK : Le K (Kw w)) (hf : FacV (Kw w) f) (hc : w.heap[c]? = some (.cells (facC f) 50 (0, 0))) (hT : Tab w) : Calls Tryz.prog 52 #[U s, .pointer (some ⟨c, 0, none⟩)] w (PureF K (fun K' u => SlV K' u 2 (namesOf f.names s).length ((namesOf f.names s).flatMap wdL)) w) := by
 refine enter Tryz.func52 rfl Tryz.ntmps52 rfl ?_
 have hH := Hp.start w
 refine SR ?_
 refine V (aV (.slice none 0 0) rfl) ?_
 refine RL.nil ?_
 refine SR ?_
 refine RL.new rfl hH (f := fun b => (.pointer (some ⟨b, 0, none⟩))) (run_alloc Tryz.zeroValue25) ?_
 intro b3 w1 hH2
 have hH4 := hH2.nilRow 53 2
 refine RL.nil ?_
 refine SR ?_
 refine V (mV (U _) rfl) ?_
 refine V (run_mkF2 (by conv => lhs; whnf) (by conv => lhs; whnf)) ?_
 refine RL.call rfl (run_call2 call53 (v1 := U s) rfl (v2 := .func (.func 54) #[] #[.pointer (some ⟨b3, 0, none⟩), .pointer (some ⟨c, 0, none⟩)]) rfl) (c_mask_Each 54 _ (fun l w' => ∃ v, Hp w w' [.row v 53 2 l.length ((l.map (wdN f.names)).flatMap wdL), .blk b3 (.cells #[v] 25 (0, 0))]) (fun _ _ => False) s _ call54 (fun l w' w'' h hb => h.imp fun v h => h.call hb) (fun l w' h => h.elim fun v h => hT.hp h) (fun l i r w' he h => h.elim fun v h => by
   have hl64 : l.length ≤ 64 := by have := lst_len s; rw [he] at this; simp at this; omega
   have hi : 0 ≤ i ∧ i < f.names.length := lst_in hw (by rw [he]; simp)
   refine Ret.calls (c_spell_constant_1_1 w b3 c v l f i hi w' h hl64 hf hc) ?_
   intro u w2 hq
   exact ⟨true, hq.1, fun _ => hq.2, fun h => by cases h⟩) ⟨.slice none 0 0, hH4⟩) ?_
 rintro u w5 ⟨rfl, hor⟩
 obtain ⟨v7, hH6⟩ := hor.resolve_right (fun ⟨_, _, _, _, h⟩ => h)
 refine RL.nil ?_
 refine SR ?_
 refine V (run_ld underlying25 rfl rfl (hH6.cell (i := 1) rfl rfl)) ?_
 refine V (run_assign (by conv => lhs; whnf)) ?_
 refine RL.nil ?_
 refine CW.ret ?_
 obtain ⟨Z8, hz9, hv10, -⟩ := hH6.frz (K)
 have hH11 : Hp _ w5 (_ :: Z8) := hz9.zin0 (L := [_])
 refine out1 Tryz.results52 rfl ⟨Z8, (hH11.sub (sQ sR)), ?_⟩
 rw [namesOf_def, List.length_map]; exact hv10

theorem c_spell_constant (K : Vu) (f : Fac) (s : BitVec 64) (hR : factorR f.fc = true) (hw : wordF f.fc s = true) (w : World) (hK : Le K (Kw w)) (hf : FacV K f) (hT : Tab w) : Calls Tryz.prog 26 #[.agg (facC f), U s] w (PureF K (fun K' u => ∃ n : NodeR, u = .agg (nodeL n).toArray ∧ n.nd = constF f.fc s ∧ NodeV K' n) w) := by
 have hm1 := hf.names.small
 unfold maxLen at hm1
 have hno := (named_spec (fac_named hR)).1
 refine enter Tryz.func26 rfl Tryz.ntmps26 rfl ?_
 have hH := Hp.start w
 refine SR ?_
 refine RL.new rfl hH (f := fun b => (.pointer (some ⟨b, 0, none⟩))) (run_box (v := .agg _) rfl) ?_
 intro b3 w1 hH2
 refine RL.new rfl hH2 (f := fun b => (.pointer (some ⟨b, 0, none⟩))) (run_alloc Tryz.zeroValue28) ?_
 intro b6 w4 hH5
 refine RL.nil ?_
 refine SR ?_
 refine V (run_mkF1 (by conv => lhs; whnf)) ?_
 refine V (aV (.func _ _ _) rfl) ?_
 refine RL.nil ?_
 refine SR ?_
 refine V (run_ldFac underlying50 rfl rfl rfl (hH5.blk (i := 1) rfl)) ?_
 refine RL.callP rfl hH5 (c_spell_kind _  _) (run_call1 call42 rfl) ?_
 intro w7 hH8
 refine V (run_bld (vs := [(0, I (kindN f.fc))]) rfl (built_nodeK (kindN f.fc))) ?_
 refine RL.new rfl hH8 (f := fun b => (.pointer (some ⟨b, 0, none⟩))) (run_alloc Tryz.zeroValue28) ?_
 intro b11 w9 hH10
 refine RL.set hH10 (i := 0) rfl (run_stW (c' := (nodeL (kindR (kindN f.fc) tx0 (.slice none 0 0) [])).toArray) rfl rfl rfl (nodeL_one (kindR_v (SlV.nil (Kw w) _))) (hH10.blk (i := 0) rfl) rfl) ?_
 intro w12 hH13
 simp only [z0, z1] at hH13
 have hH14 := hH13.nilRow 28 5
 refine RL.nil ?_
 refine CW.seq ?_
 refine SR ?_
 refine V (fA underlying50 0 rfl sizeOf3 rfl) ?_
 refine V (run_ld underlying3 rfl rfl (hH14.cell (i := 3) rfl (v := I _) rfl)) ?_
 refine RL.nil ?_
 refine CW.block ?_
 refine SR ?_
 refine V (run_eql rfl rfl) ?_
 refine V (aV (B _) rfl) ?_
 refine RL.nil ?_
 refine CW.condP rfl (fun h16 => ?_) (fun h16 => ?_)
 ·refine CW.region ?_
  refine V (mV (.func _ _ _) rfl) ?_
  refine V (mV (U _) rfl) ?_
  refine RL.callF rfl hH14 (c_spell_constant_1 K b3 f s (sub_2 (f := f.fc) ‹f.kind = 2› hw) _ (hK.trans hH14.kw) (hf.mono (hK.trans hH14.kw)) (hH14.blk (i := 3) rfl) (hT.hp hH14)) (run_callC1 call52 (cs := [.pointer (some ⟨b3, 0, none⟩)]) rfl rfl) ?_
  intro v19 w20 Z22 hH21 hp23
  have hH24 : Hp _ w20 (_ :: _ :: _ :: _ :: Z22) := hH21.zin0 (L := [_, _, _, _])
  have hv25 := hp23
  refine V (fA underlying28 3 rfl sizeOf25 rfl) ?_
  refine RL.set hH24 (i := 1) rfl (run_st rfl rfl (v := v19) rfl (one_slv hv25).2 (one_slv hv25).1 (hH24.blk (i := 1) rfl) (by first | (show 3 < 5; decide) | decide | (simp only [List.size_toArray, nodeL_len]; decide) | simp)) ?_
  intro w26 hH27
  simp only [z0, z1] at hH27
  refine RL.nil ?_
  refine SR ?_
  have hN28 : NodeV (Kz K Z22) ((kindR (kindN f.fc) tx0 v19 (namesOf f.names s))) := kindR_v hv25
  refine V (run_ldA (cs := nodeL ((kindR (kindN f.fc) tx0 v19 (namesOf f.names s)))) underlying28 rfl rfl rfl (rangeAt_cells (hH27.blk (i := 1) rfl))) ?_
  refine RL.set hH27 (i := 2) rfl (run_stW (c' := (nodeL ((kindR (kindN f.fc) tx0 v19 (namesOf f.names s)))).toArray) rfl rfl rfl (nodeL_one hN28) (hH27.blk (i := 2) rfl) rfl) ?_
  intro w29 hH30
  simp only [z0, z1] at hH30
  refine RL.nil ?_
  refine CW.ret ?_
  refine outCg Tryz.results26 rfl hH30 (i := 2) rfl underlying28 rfl rfl ⟨Z22, (hH30.sub (sQ (sQ (sQ (sQ sR))))), (kindR (kindN f.fc) tx0 v19 (namesOf f.names s)), rfl, ?_, hN28⟩
  exact nd_2 ‹_›
 ·refine SR ?_
  refine V (run_eql rfl rfl) ?_
  refine V (aV (B _) rfl) ?_
  refine RL.nil ?_
  refine CW.condP rfl (fun h32 => ?_) (fun h32 => ?_)
  ·refine SR ?_
   refine V (fA underlying50 2 rfl sizeOf48 rfl) ?_
   refine V (run_ldBR underlying48 rfl rfl rfl (hH14.blk (i := 3) rfl)) ?_
   refine V (mV (U _) rfl) ?_
   refine RL.callP rfl hH14 (c_grid_Owners _ _  _) (run_call2 call56 rfl rfl) ?_
   intro w33 hH34
   refine RL.callR rfl hH34 (c_mask_List _  _ (hT.hp hH34)) (run_call1 call55 rfl) ?_
   intro v37 w35 hH36
   refine V (run_lenSl (hH36.sl (i := 0) rfl) rfl underlying82 rfl) ?_
   refine V (mV (I 0) rfl) ?_
   refine RL.nil ?_
   refine CW.block ?_
   refine CW.loop (G := (Int) × (Value) × (List NodeR) × (List Ent)) (fun (⟨k, kv, gs, Z⟩ : (Int) × (Value) × (List NodeR) × (List Ent)) s' w' => (Fr [8, 47, 48, 49, 50, 51, 52, 53, 54, 55, 56, 57, 58, 59, 60, 61, 62, 63, 64, 65, 66, 67, 68, 69] _ s') ∧ (Hp w w' (_ :: .row kv 28 5 (gs.length) (gs.flatMap nodeL) :: .blk b11 (.cells ((nodeL (kidsR (kindN f.fc) kv gs)).toArray) 28 (0, 0)) :: _ :: _ :: Z)) ∧ (s' 47 = I k) ∧ (0 ≤ k) ∧ (k ≤ (lst (ownersG f.rel s)).length) ∧ (gs.map NodeR.nd = rulesTo f.fc s k) ∧ (NodesV (Kz K Z) gs) ∧ ((gs.length : Int) = k)) (fun (⟨k, kv, gs, Z⟩ : (Int) × (Value) × (List NodeR) × (List Ent)) => ((lst (ownersG f.rel s)).length - k).toNat) ((0, (.slice none 0 0 : Value), [], [])) ⟨Fr.refl _ _, hH36, rfl, (by omega), (by omega), rfl, NodesV.nil _, rfl⟩ ?_
   rintro ⟨k, kv, gs, Z⟩ sg38 w38 ⟨fr38, hH38, e47_38, h0, hk, hm, hF, hb⟩
   have e1_38 : sg38 1 = U _ := (fr38 1 rfl).trans rfl
   have e2_38 : sg38 2 = Pn _ _ := (fr38 2 rfl).trans rfl
   have e4_38 : sg38 4 = Pn _ _ := (fr38 4 rfl).trans rfl
   have e5_38 : sg38 5 = .func _ _ _ := (fr38 5 rfl).trans rfl
   have e6_38 : sg38 6 = Pn _ _ := (fr38 6 rfl).trans rfl
   have e45_38 := (fr38 45 rfl).trans (by conv => lhs; whnf)
   have e46_38 : sg38 46 = I _ := (fr38 46 rfl).trans rfl
   have hl64 := lst_len (ownersG f.rel s)
   refine SR ?_
   refine V (run_lss e47_38 e46_38) ?_
   refine RL.nil ?_
   refine CW.seq ?_
   refine CW.condP rfl (fun h40 => ?_) (fun h40 => ?_)
   ·refine CW.skip ?_
    refine CW.seq ?_
    refine CW.block ?_
    refine SR ?_
    refine V (run_indexAddrS (hH38.sl (i := 0) rfl) underlying82 sizeOf3 e45_38 e47_38 (by first | omega | exact own_at (f := f.fc) hR ‹f.kind = 3› s h0 ‹k < _› | exact pt_in (f := f.fc) hR ‹f.kind = 4› hw | exact lv_in (f := f.fc) (kind_cases hR ‹_› ‹_› ‹_›) hw)) ?_
    refine V (run_ld underlying3 rfl rfl ((hH38.sl (i := 0) rfl).cell _ _ (map_at (by omega)))) ?_
    refine V (aV (I _) rfl) ?_
    refine RL.nil ?_
    refine CW.regionS (by kernel_rfl) hH38 (sP (sQ (sQ sR))) ?_
    intro w41 hH42
    refine AT 0 rfl (hH42.sub (sP (sQ (sQ sR)))) (fun w hS => fA underlying28 4 rfl sizeOf26 e6_38) ?_
    refine AT 2 rfl (hH42.sub (sP (sQ (sQ sR)))) (fun w hS => fA underlying50 1 rfl sizeOf45 e2_38) ?_
    refine AT 3 rfl (hH42.sub (sP (sQ (sQ sR)))) (fun w hS => run_ld underlying45 rfl rfl (hS.cell (i := 2) rfl rfl)) ?_
    refine AT 4 rfl (hH42.sub (sP (sQ (sQ sR)))) (fun w hS => mV (I _) rfl) ?_
    refine AT 5 rfl (hH42.sub (sP (sQ (sQ sR)))) (fun w hS => run_indexAddrS ((hf.mono hK).names.sl.hp hS) underlying45 sizeOf9 rfl rfl (by first | omega | exact own_at (f := f.fc) hR ‹f.kind = 3› s h0 ‹k < _› | exact pt_in (f := f.fc) hR ‹f.kind = 4› hw | exact lv_in (f := f.fc) (kind_cases hR ‹_› ‹_› ‹_›) hw)) ?_
    refine AT 6 rfl (hH42.sub (sP (sQ (sQ sR)))) (fun w hS => run_ld underlying9 rfl rfl (((hf.mono hK).names.sl.hp hS).cell _ _ (txL_at (by first | omega | exact own_at (f := f.fc) hR ‹f.kind = 3› s h0 ‹k < _› | exact pt_in (f := f.fc) hR ‹f.kind = 4› hw | exact lv_in (f := f.fc) (kind_cases hR ‹_› ‹_› ‹_›) hw)))) ?_
    refine AT 7 rfl (hH42.sub (sP (sQ (sQ sR)))) (fun w hS => run_move e5_38) ?_
    refine AT 8 rfl (hH42.sub (sP (sQ (sQ sR)))) (fun w hS => fA underlying50 2 rfl sizeOf48 e2_38) ?_
    refine AT 9 rfl (hH42.sub (sP (sQ (sQ sR)))) (fun w hS => run_ldBR underlying48 rfl rfl rfl (hS.blk (i := 2) rfl)) ?_
    refine AT 10 rfl (hH42.sub (sP (sQ (sQ sR)))) (fun w hS => run_move e1_38) ?_
    refine AT 11 rfl (hH42.sub (sP (sQ (sQ sR)))) (fun w hS => mV (I _) rfl) ?_
    refine AN.two 1 12 (by kernel_rfl) ?_ ?_
    ·refine AO.read rfl gnone rfl hH42 (sP (sQ (sQ sR))) (run_ld underlying26 rfl rfl (hH42.cell (i := 2) rfl rfl)) ?_
     refine A1 12 ?_
     refine AO.callP rfl gnone rfl hH42 (sP (sQ (sQ sR))) (c_grid_Readers _ _ _  _) (run_call3 call57 rfl rfl rfl) ?_
     intro w45 hH46
     refine A1 13 ?_
     refine AO.callF rfl gnone rfl hH46 (sP (sQ (sQ sR))) (c_spell_constant_1 K b3 f (readersG f.rel s ((lst (ownersG f.rel s)).getD k.toNat 0)) (sub_r (f := f.fc) hR ‹f.kind = 3› _ _) _ (hK.trans hH46.kw) (hf.mono (hK.trans hH46.kw)) (hH46.blk (i := 4) rfl) (hT.hp hH46)) (run_callC1 call52 (cs := [.pointer (some ⟨b3, 0, none⟩)]) rfl rfl) ?_
     intro v49 w50 Z52 hH51 hp53
     have hH54 : Hp _ w50 (_ :: _ :: _ :: _ :: _ :: (Z52 ++ Z)) := hH51.zin (L := [_, _, _, _, _]) (L' := Z)
     have hv55 := hp53
     refine AT 14 rfl (hH54.sub (sP (sQ (sQ (sP (sP (sA sR))))))) (fun w hS => run_bld (vs := [(0, I 6), (2, S (f.names.getD ((lst (ownersG f.rel s)).getD k.toNat 0).toNat tx0)), (3, v49)]) rfl (built_nodeTN (one_slv hv55).2 6 (f.names.getD ((lst (ownersG f.rel s)).getD k.toNat 0).toNat tx0) (namesOf f.names (readersG f.rel s ((lst (ownersG f.rel s)).getD k.toNat 0))))) ?_
     refine A1 15 ?_
     refine AO.new rfl gnone rfl hH54 (sP (sQ (sQ (sP (sP (sA sR)))))) (f := fun b => .slice (some ⟨b, 0, none⟩) 1 1) (run_mkRecs nodeL_len underlying26 rfl rfl rfl (l := [(kindR 6 (f.names.getD ((lst (ownersG f.rel s)).getD k.toNat 0).toNat tx0) v49 (namesOf f.names (readersG f.rel s ((lst (ownersG f.rel s)).getD k.toNat 0))))]) rfl (by decide) (by decide) rfl) ?_
     intro b58 w56 hH57
     refine A1 16 ?_
     refine AO.app rfl gnone rfl hH57 (j := 2) rfl (fun _ => (sQ (sP (sQ (sQ (sP (sP (sA sR)))))))) (Hp.slFlat nodeL_len hH57 (i := 0) (l := [(kindR 6 (f.names.getD ((lst (ownersG f.rel s)).getD k.toNat 0).toNat tx0) v49 (namesOf f.names (readersG f.rel s ((lst (ownersG f.rel s)).getD k.toNat 0))))]) rfl (by simp [maxLen])) rfl rfl underlying26 rfl rfl (size := 5) (bytes := 80) rfl rfl rfl (by decide) (node1_one (kindR_v hv55)) (by simp only [List.length_cons, List.length_nil]; omega) (by simp only [maxLen, List.length_cons, List.length_nil]; omega) ?_
     intro v61 w59 hH60
     simp only [z0, z1] at hH60
     refine AT 17 rfl (hH60.sub (sQ (sP (sQ (sQ (sP (sP (sA sR)))))))) (fun w hS => fA underlying28 4 rfl sizeOf26 e6_38) ?_
     refine A1 18 ?_
     refine AO.set rfl gnone hH60 (j := 3) rfl (sQ (sP (sQ (sQ (sP (sP (sA sR))))))) (run_st rfl rfl (v := v61) rfl (row_cells (hH60.get (i := 2) rfl)).1 (row_cells (hH60.get (i := 2) rfl)).2 (hH60.blk (i := 3) rfl) (by first | (show 4 < 5; decide) | decide | (simp only [List.size_toArray, nodeL_len]; decide) | simp)) ?_
     intro w64 hH65
     simp only [z0, z1] at hH65
     refine AD ?_
     refine CW.region ?_
     refine V (run_add e47_38 rfl (by omega)) ?_
     refine V (mV (I _) rfl) ?_
     refine RL.nil ?_
     refine ⟨(k + 1, v61, (gs ++ [(kindR 6 (f.names.getD ((lst (ownersG f.rel s)).getD k.toNat 0).toNat tx0) v49 (namesOf f.names (readersG f.rel s ((lst (ownersG f.rel s)).getD k.toNat 0))))]), (Z52 ++ Z)), ?_, fr38.u4.u4.u4.u4.u4.u4, (Hp.conv (hH65.sub (sQ sR)) (by first | rfl | (simp; done) | (simp [nodeL, kidsR, kindR, NodeR.kind, NodeR.place, NodeR.text, NodeR.nv, NodeR.kv]; done))), (congrArg I (by first | rfl | omega)), ?_, ?_, ?_, ?_, ?_⟩
     ·((try dsimp only); omega)
     ·omega
     ·omega
     ·rw [rules_next (f := f.fc) h0 ‹k < _›, List.map_append, hm]; exact congrArg (_ ++ [·]) (rule_nd (f := f.fc) (w := s) (o := ((lst (ownersG f.rel s)).getD k.toNat 0)))
     ·exact (hF.mono (Le.zz fun y hy => List.mem_append_right _ hy)).snoc (NodeV.mono (Le.zz fun y hy => List.mem_append_left _ hy) (kindR_v hv55))
     ·simp only [List.length_append, List.length_singleton]; omega
    ·refine AO.callP rfl gnone rfl hH42 (sP (sQ (sQ sR))) (c_grid_Readers _ _ _  _) (run_call3 call57 rfl rfl rfl) ?_
     intro w66 hH67
     refine AN.two 1 13 (by kernel_rfl) ?_ ?_
     ·refine AO.read rfl gnone rfl hH67 (sP (sQ (sQ sR))) (run_ld underlying26 rfl rfl (hH67.cell (i := 2) rfl rfl)) ?_
      refine A1 13 ?_
      refine AO.callF rfl gnone rfl hH67 (sP (sQ (sQ sR))) (c_spell_constant_1 K b3 f (readersG f.rel s ((lst (ownersG f.rel s)).getD k.toNat 0)) (sub_r (f := f.fc) hR ‹f.kind = 3› _ _) _ (hK.trans hH67.kw) (hf.mono (hK.trans hH67.kw)) (hH67.blk (i := 4) rfl) (hT.hp hH67)) (run_callC1 call52 (cs := [.pointer (some ⟨b3, 0, none⟩)]) rfl rfl) ?_
      intro v72 w73 Z75 hH74 hp76
      have hH77 : Hp _ w73 (_ :: _ :: _ :: _ :: _ :: (Z75 ++ Z)) := hH74.zin (L := [_, _, _, _, _]) (L' := Z)
      have hv78 := hp76
      refine AT 14 rfl (hH77.sub (sP (sQ (sQ (sP (sP (sA sR))))))) (fun w hS => run_bld (vs := [(0, I 6), (2, S (f.names.getD ((lst (ownersG f.rel s)).getD k.toNat 0).toNat tx0)), (3, v72)]) rfl (built_nodeTN (one_slv hv78).2 6 (f.names.getD ((lst (ownersG f.rel s)).getD k.toNat 0).toNat tx0) (namesOf f.names (readersG f.rel s ((lst (ownersG f.rel s)).getD k.toNat 0))))) ?_
      refine A1 15 ?_
      refine AO.new rfl gnone rfl hH77 (sP (sQ (sQ (sP (sP (sA sR)))))) (f := fun b => .slice (some ⟨b, 0, none⟩) 1 1) (run_mkRecs nodeL_len underlying26 rfl rfl rfl (l := [(kindR 6 (f.names.getD ((lst (ownersG f.rel s)).getD k.toNat 0).toNat tx0) v72 (namesOf f.names (readersG f.rel s ((lst (ownersG f.rel s)).getD k.toNat 0))))]) rfl (by decide) (by decide) rfl) ?_
      intro b81 w79 hH80
      refine A1 16 ?_
      refine AO.app rfl gnone rfl hH80 (j := 2) rfl (fun _ => (sQ (sP (sQ (sQ (sP (sP (sA sR)))))))) (Hp.slFlat nodeL_len hH80 (i := 0) (l := [(kindR 6 (f.names.getD ((lst (ownersG f.rel s)).getD k.toNat 0).toNat tx0) v72 (namesOf f.names (readersG f.rel s ((lst (ownersG f.rel s)).getD k.toNat 0))))]) rfl (by simp [maxLen])) rfl rfl underlying26 rfl rfl (size := 5) (bytes := 80) rfl rfl rfl (by decide) (node1_one (kindR_v hv78)) (by simp only [List.length_cons, List.length_nil]; omega) (by simp only [maxLen, List.length_cons, List.length_nil]; omega) ?_
      intro v84 w82 hH83
      simp only [z0, z1] at hH83
      refine AT 17 rfl (hH83.sub (sQ (sP (sQ (sQ (sP (sP (sA sR)))))))) (fun w hS => fA underlying28 4 rfl sizeOf26 e6_38) ?_
      refine A1 18 ?_
      refine AO.set rfl gnone hH83 (j := 3) rfl (sQ (sP (sQ (sQ (sP (sP (sA sR))))))) (run_st rfl rfl (v := v84) rfl (row_cells (hH83.get (i := 2) rfl)).1 (row_cells (hH83.get (i := 2) rfl)).2 (hH83.blk (i := 3) rfl) (by first | (show 4 < 5; decide) | decide | (simp only [List.size_toArray, nodeL_len]; decide) | simp)) ?_
      intro w87 hH88
      simp only [z0, z1] at hH88
      refine AD ?_
      refine CW.region ?_
      refine V (run_add e47_38 rfl (by omega)) ?_
      refine V (mV (I _) rfl) ?_
      refine RL.nil ?_
      refine ⟨(k + 1, v84, (gs ++ [(kindR 6 (f.names.getD ((lst (ownersG f.rel s)).getD k.toNat 0).toNat tx0) v72 (namesOf f.names (readersG f.rel s ((lst (ownersG f.rel s)).getD k.toNat 0))))]), (Z75 ++ Z)), ?_, fr38.u4.u4.u4.u4.u4.u4, (Hp.conv (hH88.sub (sQ sR)) (by first | rfl | (simp; done) | (simp [nodeL, kidsR, kindR, NodeR.kind, NodeR.place, NodeR.text, NodeR.nv, NodeR.kv]; done))), (congrArg I (by first | rfl | omega)), ?_, ?_, ?_, ?_, ?_⟩
      ·((try dsimp only); omega)
      ·omega
      ·omega
      ·rw [rules_next (f := f.fc) h0 ‹k < _›, List.map_append, hm]; exact congrArg (_ ++ [·]) (rule_nd (f := f.fc) (w := s) (o := ((lst (ownersG f.rel s)).getD k.toNat 0)))
      ·exact (hF.mono (Le.zz fun y hy => List.mem_append_right _ hy)).snoc (NodeV.mono (Le.zz fun y hy => List.mem_append_left _ hy) (kindR_v hv78))
      ·simp only [List.length_append, List.length_singleton]; omega
     ·refine AO.callF rfl gnone rfl hH67 (sP (sQ (sQ sR))) (c_spell_constant_1 K b3 f (readersG f.rel s ((lst (ownersG f.rel s)).getD k.toNat 0)) (sub_r (f := f.fc) hR ‹f.kind = 3› _ _) _ (hK.trans hH67.kw) (hf.mono (hK.trans hH67.kw)) (hH67.blk (i := 4) rfl) (hT.hp hH67)) (run_callC1 call52 (cs := [.pointer (some ⟨b3, 0, none⟩)]) rfl rfl) ?_
      intro v91 w92 Z94 hH93 hp95
      have hH96 : Hp _ w92 (_ :: _ :: _ :: _ :: _ :: (Z94 ++ Z)) := hH93.zin (L := [_, _, _, _, _]) (L' := Z)
      have hv97 := hp95
      refine AT 14 rfl (hH96.sub (sP (sQ (sQ (sP (sP (sA sR))))))) (fun w hS => run_bld (vs := [(0, I 6), (2, S (f.names.getD ((lst (ownersG f.rel s)).getD k.toNat 0).toNat tx0)), (3, v91)]) rfl (built_nodeTN (one_slv hv97).2 6 (f.names.getD ((lst (ownersG f.rel s)).getD k.toNat 0).toNat tx0) (namesOf f.names (readersG f.rel s ((lst (ownersG f.rel s)).getD k.toNat 0))))) ?_
      refine AN.two 1 15 (by kernel_rfl) ?_ ?_
      ·refine AO.read rfl gnone rfl hH96 (sP (sQ (sQ (sP (sP (sA sR)))))) (run_ld underlying26 rfl rfl (hH96.cell (i := 2) rfl rfl)) ?_
       refine A1 15 ?_
       refine AO.new rfl gnone rfl hH96 (sP (sQ (sQ (sP (sP (sA sR)))))) (f := fun b => .slice (some ⟨b, 0, none⟩) 1 1) (run_mkRecs nodeL_len underlying26 rfl rfl rfl (l := [(kindR 6 (f.names.getD ((lst (ownersG f.rel s)).getD k.toNat 0).toNat tx0) v91 (namesOf f.names (readersG f.rel s ((lst (ownersG f.rel s)).getD k.toNat 0))))]) rfl (by decide) (by decide) rfl) ?_
       intro b102 w100 hH101
       refine A1 16 ?_
       refine AO.app rfl gnone rfl hH101 (j := 2) rfl (fun _ => (sQ (sP (sQ (sQ (sP (sP (sA sR)))))))) (Hp.slFlat nodeL_len hH101 (i := 0) (l := [(kindR 6 (f.names.getD ((lst (ownersG f.rel s)).getD k.toNat 0).toNat tx0) v91 (namesOf f.names (readersG f.rel s ((lst (ownersG f.rel s)).getD k.toNat 0))))]) rfl (by simp [maxLen])) rfl rfl underlying26 rfl rfl (size := 5) (bytes := 80) rfl rfl rfl (by decide) (node1_one (kindR_v hv97)) (by simp only [List.length_cons, List.length_nil]; omega) (by simp only [maxLen, List.length_cons, List.length_nil]; omega) ?_
       intro v105 w103 hH104
       simp only [z0, z1] at hH104
       refine AT 17 rfl (hH104.sub (sQ (sP (sQ (sQ (sP (sP (sA sR)))))))) (fun w hS => fA underlying28 4 rfl sizeOf26 e6_38) ?_
       refine A1 18 ?_
       refine AO.set rfl gnone hH104 (j := 3) rfl (sQ (sP (sQ (sQ (sP (sP (sA sR))))))) (run_st rfl rfl (v := v105) rfl (row_cells (hH104.get (i := 2) rfl)).1 (row_cells (hH104.get (i := 2) rfl)).2 (hH104.blk (i := 3) rfl) (by first | (show 4 < 5; decide) | decide | (simp only [List.size_toArray, nodeL_len]; decide) | simp)) ?_
       intro w108 hH109
       simp only [z0, z1] at hH109
       refine AD ?_
       refine CW.region ?_
       refine V (run_add e47_38 rfl (by omega)) ?_
       refine V (mV (I _) rfl) ?_
       refine RL.nil ?_
       refine ⟨(k + 1, v105, (gs ++ [(kindR 6 (f.names.getD ((lst (ownersG f.rel s)).getD k.toNat 0).toNat tx0) v91 (namesOf f.names (readersG f.rel s ((lst (ownersG f.rel s)).getD k.toNat 0))))]), (Z94 ++ Z)), ?_, fr38.u4.u4.u4.u4.u4.u4, (Hp.conv (hH109.sub (sQ sR)) (by first | rfl | (simp; done) | (simp [nodeL, kidsR, kindR, NodeR.kind, NodeR.place, NodeR.text, NodeR.nv, NodeR.kv]; done))), (congrArg I (by first | rfl | omega)), ?_, ?_, ?_, ?_, ?_⟩
       ·((try dsimp only); omega)
       ·omega
       ·omega
       ·rw [rules_next (f := f.fc) h0 ‹k < _›, List.map_append, hm]; exact congrArg (_ ++ [·]) (rule_nd (f := f.fc) (w := s) (o := ((lst (ownersG f.rel s)).getD k.toNat 0)))
       ·exact (hF.mono (Le.zz fun y hy => List.mem_append_right _ hy)).snoc (NodeV.mono (Le.zz fun y hy => List.mem_append_left _ hy) (kindR_v hv97))
       ·simp only [List.length_append, List.length_singleton]; omega
      ·refine AO.new rfl gnone rfl hH96 (sP (sQ (sQ (sP (sP (sA sR)))))) (f := fun b => .slice (some ⟨b, 0, none⟩) 1 1) (run_mkRecs nodeL_len underlying26 rfl rfl rfl (l := [(kindR 6 (f.names.getD ((lst (ownersG f.rel s)).getD k.toNat 0).toNat tx0) v91 (namesOf f.names (readersG f.rel s ((lst (ownersG f.rel s)).getD k.toNat 0))))]) rfl (by decide) (by decide) rfl) ?_
       intro b112 w110 hH111
       refine A1 1 ?_
       refine AO.read rfl gnone rfl hH111 (sQ (sP (sQ (sQ (sP (sP (sA sR))))))) (run_ld underlying26 rfl rfl (hH111.cell (i := 3) rfl rfl)) ?_
       refine A1 16 ?_
       refine AO.app rfl gnone rfl hH111 (j := 2) rfl (fun _ => (sQ (sP (sQ (sQ (sP (sP (sA sR)))))))) (Hp.slFlat nodeL_len hH111 (i := 0) (l := [(kindR 6 (f.names.getD ((lst (ownersG f.rel s)).getD k.toNat 0).toNat tx0) v91 (namesOf f.names (readersG f.rel s ((lst (ownersG f.rel s)).getD k.toNat 0))))]) rfl (by simp [maxLen])) rfl rfl underlying26 rfl rfl (size := 5) (bytes := 80) rfl rfl rfl (by decide) (node1_one (kindR_v hv97)) (by simp only [List.length_cons, List.length_nil]; omega) (by simp only [maxLen, List.length_cons, List.length_nil]; omega) ?_
       intro v117 w115 hH116
       simp only [z0, z1] at hH116
       refine AT 17 rfl (hH116.sub (sQ (sP (sQ (sQ (sP (sP (sA sR)))))))) (fun w hS => fA underlying28 4 rfl sizeOf26 e6_38) ?_
       refine A1 18 ?_
       refine AO.set rfl gnone hH116 (j := 3) rfl (sQ (sP (sQ (sQ (sP (sP (sA sR))))))) (run_st rfl rfl (v := v117) rfl (row_cells (hH116.get (i := 2) rfl)).1 (row_cells (hH116.get (i := 2) rfl)).2 (hH116.blk (i := 3) rfl) (by first | (show 4 < 5; decide) | decide | (simp only [List.size_toArray, nodeL_len]; decide) | simp)) ?_
       intro w120 hH121
       simp only [z0, z1] at hH121
       refine AD ?_
       refine CW.region ?_
       refine V (run_add e47_38 rfl (by omega)) ?_
       refine V (mV (I _) rfl) ?_
       refine RL.nil ?_
       refine ⟨(k + 1, v117, (gs ++ [(kindR 6 (f.names.getD ((lst (ownersG f.rel s)).getD k.toNat 0).toNat tx0) v91 (namesOf f.names (readersG f.rel s ((lst (ownersG f.rel s)).getD k.toNat 0))))]), (Z94 ++ Z)), ?_, fr38.u4.u4.u4.u4.u4.u4, (Hp.conv (hH121.sub (sQ sR)) (by first | rfl | (simp; done) | (simp [nodeL, kidsR, kindR, NodeR.kind, NodeR.place, NodeR.text, NodeR.nv, NodeR.kv]; done))), (congrArg I (by first | rfl | omega)), ?_, ?_, ?_, ?_, ?_⟩
       ·((try dsimp only); omega)
       ·omega
       ·omega
       ·rw [rules_next (f := f.fc) h0 ‹k < _›, List.map_append, hm]; exact congrArg (_ ++ [·]) (rule_nd (f := f.fc) (w := s) (o := ((lst (ownersG f.rel s)).getD k.toNat 0)))
       ·exact (hF.mono (Le.zz fun y hy => List.mem_append_right _ hy)).snoc (NodeV.mono (Le.zz fun y hy => List.mem_append_left _ hy) (kindR_v hv97))
       ·simp only [List.length_append, List.length_singleton]; omega
   ·refine CW.exit (id := 1) rfl ?_
    refine SR ?_
    obtain ⟨Z122, hz123, hv124, -⟩ := (hH38.perm (((pC pR).trans pS).trans (pC pR))).frz (K)
    have hH125 : Hp _ w38 (_ :: _ :: _ :: _ :: (Z122 ++ Z)) := hz123.zin (L := [_, _, _, _]) (L' := Z)
    have hN126 : NodeV (Kz K (Z122 ++ Z)) ((kidsR (kindN f.fc) kv gs)) := kidsR_v (hv124.mono (Le.zz fun x hx => List.mem_append_left _ hx)) (hF.mono (Le.zz fun x hx => List.mem_append_right _ hx))
    refine V (run_ldA (cs := nodeL ((kidsR (kindN f.fc) kv gs))) underlying28 rfl rfl e6_38 (rangeAt_cells (hH125.blk (i := 1) rfl))) ?_
    refine RL.set hH125 (i := 2) rfl (run_stW (c' := (nodeL ((kidsR (kindN f.fc) kv gs))).toArray) rfl e4_38 rfl (nodeL_one hN126) (hH125.blk (i := 2) rfl) rfl) ?_
    intro w127 hH128
    simp only [z0, z1] at hH128
    refine RL.nil ?_
    refine CW.ret ?_
    refine outCg Tryz.results26 e4_38 hH128 (i := 2) rfl underlying28 rfl rfl ⟨(Z122 ++ Z), (hH128.sub (sQ (sQ (sQ (sQ sR))))), (kidsR (kindN f.fc) kv gs), rfl, ?_, hN126⟩
    exact nd_3 ‹_› (hm.trans (rules_all ‹_›))
  ·refine SR ?_
   refine V (run_eql rfl rfl) ?_
   refine V (aV (B _) rfl) ?_
   refine RL.nil ?_
   refine CW.condP rfl (fun h130 => ?_) (fun h130 => ?_)
   ·refine SR ?_
    refine V (fA underlying50 2 rfl sizeOf48 rfl) ?_
    refine V (run_ldBR underlying48 rfl rfl rfl (hH14.blk (i := 3) rfl)) ?_
    refine V (mV (U _) rfl) ?_
    refine RL.callP rfl hH14 (c_hasse_Point _ _  _ (hT.hp hH14)) (run_call2 call58 rfl rfl) ?_
    intro w131 hH132
    refine V (run_move (by conv => lhs; whnf)) ?_
    refine V (run_extract rfl (v := I _) rfl) ?_
    refine V (run_extract rfl (v := B _) rfl) ?_
    refine V (aV (I _) rfl) ?_
    refine V (aV (B _) rfl) ?_
    refine RL.nil ?_
    refine CW.region ?_
    refine V (fA underlying50 1 rfl sizeOf45 rfl) ?_
    refine V (run_ld underlying45 rfl rfl (hH132.cell (i := 3) rfl rfl)) ?_
    refine V (mV (I _) rfl) ?_
    refine V (run_indexAddrS ((hf.mono hK).names.sl.hp hH132) underlying45 sizeOf9 rfl rfl (by first | omega | exact own_at (f := f.fc) hR ‹f.kind = 3› s h0 ‹k < _› | exact pt_in (f := f.fc) hR ‹f.kind = 4› hw | exact lv_in (f := f.fc) (kind_cases hR ‹_› ‹_› ‹_›) hw)) ?_
    refine V (run_ld underlying9 rfl rfl (((hf.mono hK).names.sl.hp hH132).cell _ _ (txL_at (by first | omega | exact own_at (f := f.fc) hR ‹f.kind = 3› s h0 ‹k < _› | exact pt_in (f := f.fc) hR ‹f.kind = 4› hw | exact lv_in (f := f.fc) (kind_cases hR ‹_› ‹_› ‹_›) hw)))) ?_
    refine V (fA underlying28 2 rfl sizeOf9 rfl) ?_
    refine RL.set hH132 (i := 1) rfl (run_st rfl rfl (v := .string _) rfl rfl rfl (hH132.blk (i := 1) rfl) (by first | (show 2 < 5; decide) | decide | (simp only [List.size_toArray, nodeL_len]; decide) | simp)) ?_
    intro w134 hH135
    simp only [z0, z1] at hH135
    refine RL.nil ?_
    refine SR ?_
    have hN136 : NodeV (Kz K []) ((kindR (kindN f.fc) (f.names.getD (pointV f.rel s).1.toNat tx0) (.slice none 0 0) [])) := kindR_v (SlV.nil _ _)
    refine V (run_ldA (cs := nodeL ((kindR (kindN f.fc) (f.names.getD (pointV f.rel s).1.toNat tx0) (.slice none 0 0) []))) underlying28 rfl rfl rfl (rangeAt_cells (hH135.blk (i := 1) rfl))) ?_
    refine RL.set hH135 (i := 2) rfl (run_stW (c' := (nodeL ((kindR (kindN f.fc) (f.names.getD (pointV f.rel s).1.toNat tx0) (.slice none 0 0) []))).toArray) rfl rfl rfl (nodeL_one hN136) (hH135.blk (i := 2) rfl) rfl) ?_
    intro w137 hH138
    simp only [z0, z1] at hH138
    refine RL.nil ?_
    refine CW.ret ?_
    refine outCg Tryz.results26 rfl hH138 (i := 2) rfl underlying28 rfl rfl ⟨[], (hH138.sub (sQ (sQ (sQ (sQ sR))))), (kindR (kindN f.fc) (f.names.getD (pointV f.rel s).1.toNat tx0) (.slice none 0 0) []), rfl, ?_, hN136⟩
    exact nd_4 ‹_›
   ·refine SR ?_
    refine V (fA underlying50 1 rfl sizeOf45 rfl) ?_
    refine V (run_ld underlying45 rfl rfl (hH14.cell (i := 3) rfl rfl)) ?_
    refine V (run_lenSl ((hf.mono hK).names.sl.hp hH14) rfl underlying45 rfl) ?_
    refine V (mV (U _) rfl) ?_
    refine RL.callP rfl hH14 (c_rung_Level _ _  _) (run_call2 call59 rfl rfl) ?_
    intro w139 hH140
    refine V (run_move (by conv => lhs; whnf)) ?_
    refine V (run_extract rfl (v := I _) rfl) ?_
    refine V (run_extract rfl (v := B _) rfl) ?_
    refine V (aV (I _) rfl) ?_
    refine V (aV (B _) rfl) ?_
    refine RL.nil ?_
    refine CW.region ?_
    refine V (fA underlying50 1 rfl sizeOf45 rfl) ?_
    refine V (run_ld underlying45 rfl rfl (hH140.cell (i := 3) rfl rfl)) ?_
    refine V (mV (I _) rfl) ?_
    refine V (run_indexAddrS ((hf.mono hK).names.sl.hp hH140) underlying45 sizeOf9 rfl rfl (by first | omega | exact own_at (f := f.fc) hR ‹f.kind = 3› s h0 ‹k < _› | exact pt_in (f := f.fc) hR ‹f.kind = 4› hw | exact lv_in (f := f.fc) (kind_cases hR ‹_› ‹_› ‹_›) hw)) ?_
    refine V (run_ld underlying9 rfl rfl (((hf.mono hK).names.sl.hp hH140).cell _ _ (txL_at (by first | omega | exact own_at (f := f.fc) hR ‹f.kind = 3› s h0 ‹k < _› | exact pt_in (f := f.fc) hR ‹f.kind = 4› hw | exact lv_in (f := f.fc) (kind_cases hR ‹_› ‹_› ‹_›) hw)))) ?_
    refine V (fA underlying28 2 rfl sizeOf9 rfl) ?_
    refine RL.set hH140 (i := 1) rfl (run_st rfl rfl (v := .string _) rfl rfl rfl (hH140.blk (i := 1) rfl) (by first | (show 2 < 5; decide) | decide | (simp only [List.size_toArray, nodeL_len]; decide) | simp)) ?_
    intro w142 hH143
    simp only [z0, z1] at hH143
    refine RL.nil ?_
    refine SR ?_
    have hN144 : NodeV (Kz K []) ((kindR (kindN f.fc) (f.names.getD (level f.names.length s).1.toNat tx0) (.slice none 0 0) [])) := kindR_v (SlV.nil _ _)
    refine V (run_ldA (cs := nodeL ((kindR (kindN f.fc) (f.names.getD (level f.names.length s).1.toNat tx0) (.slice none 0 0) []))) underlying28 rfl rfl rfl (rangeAt_cells (hH143.blk (i := 1) rfl))) ?_
    refine RL.set hH143 (i := 2) rfl (run_stW (c' := (nodeL ((kindR (kindN f.fc) (f.names.getD (level f.names.length s).1.toNat tx0) (.slice none 0 0) []))).toArray) rfl rfl rfl (nodeL_one hN144) (hH143.blk (i := 2) rfl) rfl) ?_
    intro w145 hH146
    simp only [z0, z1] at hH146
    refine RL.nil ?_
    refine CW.ret ?_
    refine outCg Tryz.results26 rfl hH146 (i := 2) rfl underlying28 rfl rfl ⟨[], (hH146.sub (sQ (sQ (sQ (sQ sR))))), (kindR (kindN f.fc) (f.names.getD (level f.names.length s).1.toNat tx0) (.slice none 0 0) []), rfl, ?_, hN144⟩
    exact nd_1 ‹_› ‹_› ‹_›

theorem c_spell_Node (K : Vu) (s : Shp) (e : El) (w : World) (hK : Le K (Kw w)) (hs : ShpV K s) (hT : Tab w) : Calls Tryz.prog 12 #[.agg (shpC s), .agg (elC e)] w (PureF K (fun K' u => ∃ n : NodeR, u = .agg (nodeL n).toArray ∧ n.nd = nodeF s.sh e ∧ NodeV K' n) w) := by
 have hsl := sh_len s
 have hm := hs.facs.small
 unfold maxLen at hm
 refine enter Tryz.func12 rfl Tryz.ntmps12 rfl ?_
 have hH := Hp.start w
 refine SR ?_
 refine RL.new rfl hH (f := fun b => (.pointer (some ⟨b, 0, none⟩))) (run_box (v := .agg _) rfl) ?_
 intro b3 w1 hH2
 refine RL.new rfl hH2 (f := fun b => (.pointer (some ⟨b, 0, none⟩))) (run_box (v := .agg _) rfl) ?_
 intro b6 w4 hH5
 refine RL.new rfl hH5 (f := fun b => (.pointer (some ⟨b, 0, none⟩))) (run_alloc Tryz.zeroValue28) ?_
 intro b9 w7 hH8
 refine RL.nil ?_
 refine CW.seq ?_
 refine SR ?_
 refine V (run_ldA (cs := [B _, _]) underlying24 rfl rfl rfl (rangeAt_cells (hH8.blk (i := 2) rfl))) ?_
 refine V (run_ldEl underlying34 rfl rfl rfl (hH8.blk (i := 1) rfl)) ?_
 refine RL.callP rfl hH8 (c_shape_Fits _ _  _ ((hs.mono hK).mono hH8.kw) (hT.hp hH8)) (run_call2 call18 rfl rfl) ?_
 intro w10 hH11
 refine V (run_not rfl) ?_
 refine RL.nil ?_
 refine CW.cond rfl (fun h14 => ?_) (fun h14 => ?_)
 ·refine SR ?_
  refine V (run_bld (vs := []) rfl built_node0) ?_
  refine RL.set hH11 (i := 0) rfl (run_stW (c' := (nodeL node0).toArray) rfl rfl rfl (nodeL_one (node0_v (K := Kw w))) (hH11.blk (i := 0) rfl) rfl) ?_
  intro w15 hH16
  simp only [z0, z1] at hH16
  refine RL.nil ?_
  refine CW.ret ?_
  refine outCg Tryz.results12 rfl hH16 (i := 0) rfl underlying28 rfl rfl ⟨[], (hH16.sub (sQ (sQ (sQ sR)))), node0, rfl, ?_, node0_v⟩
  rw [nodeF_no (nt ‹(!fitsS s.sh e) = true›)]; exact node0_nd
 ·refine CW.skip ?_
  refine CW.seq ?_
  refine SR ?_
  refine V (fA underlying24 0 rfl sizeOf4 rfl) ?_
  refine V (run_ld underlying4 rfl rfl (hH11.cell (i := 2) rfl (v := B _) rfl)) ?_
  refine V (run_not rfl) ?_
  refine RL.nil ?_
  refine CW.cond rfl (fun h19 => ?_) (fun h19 => ?_)
  ·refine CW.seq ?_
   have hfit := nf ‹(!fitsS s.sh e) = false›
   have hfl := fit_len hfit
   refine CW.regionS (by kernel_rfl) hH11 (sQ sR) ?_
   intro w20 hH21
   refine AT 0 rfl (hH21.sub (sQ sR)) (fun w hS => fA underlying24 1 rfl sizeOf22 rfl) ?_
   refine AT 1 rfl (hH21.sub (sQ sR)) (fun w hS => run_ld underlying22 rfl rfl (hS.cell (i := 1) rfl rfl)) ?_
   refine AT 2 rfl (hH21.sub (sQ sR)) (fun w hS => run_indexAddrS ((hs.mono hK).facs.sl.hp hS) underlying22 sizeOf50 rfl rfl (by omega)) ?_
   refine AT 3 rfl (hH21.sub (sQ sR)) (fun w hS => run_ldE (dv := fac0) facL_len ((hs.mono hK).facs.sl.hp hS) underlying50 rfl rfl rfl (by omega)) ?_
   refine AT 4 rfl (hH21.sub (sQ sR)) (fun w hS => run_indexAddrA underlying34 sizeOf32 rfl rfl (by omega)) ?_
   refine AT 5 rfl (hH21.sub (sQ sR)) (fun w hS => run_ld underlying32 rfl rfl (hS.cell (i := 0) rfl (elC_at _ (by omega)))) ?_
   refine A1 6 ?_
   refine AO.callF rfl gnone rfl hH21 (sQ sR) (c_spell_constant K (s.facs.getD (0 : Int).toNat fac0) (e (0 : Int).toNat) (fitR hfit (k := 0) (by omega) (by omega)).1 (fitR hfit (k := 0) (by omega) (by omega)).2 _ (hK.trans hH21.kw) (hs.at (k := 0) (by omega) (by omega)) (hT.hp hH21)) (run_call2 call26 rfl rfl) ?_
   intro v24 w25 Z27 hH26 hp28
   have hH29 : Hp _ w25 (_ :: _ :: _ :: Z27) := hH26.zin0 (L := [_, _, _])
   obtain ⟨n30, rfl, nd31, nv32⟩ := hp28
   refine A1 7 ?_
   refine AO.set rfl gnone hH29 (j := 0) rfl (sQ (sP (sP (List.nil_sublist _)))) (run_stW (c' := (nodeL n30).toArray) rfl rfl rfl (nodeL_one nv32) (hH29.blk (i := 0) rfl) rfl) ?_
   intro w35 hH36
   simp only [z0, z1] at hH36
   refine AD ?_
   refine CW.ret ?_
   refine outCg Tryz.results12 rfl hH36 (i := 0) rfl underlying28 rfl rfl ⟨Z27, (hH36.sub (sQ (sQ (sQ sR)))), n30, rfl, ?_, nv32⟩
   rw [nodeF_1 (nf ‹(!fitsS s.sh e) = false›) (nt ‹(!s.tuple) = true›)]; exact nd31
  ·refine CW.skip ?_
   refine SR ?_
   refine V (run_bld (vs := [(0, I 4)]) rfl (built_nodeK 4)) ?_
   refine RL.new rfl hH11 (f := fun b => (.pointer (some ⟨b, 0, none⟩))) (run_alloc Tryz.zeroValue28) ?_
   intro b39 w37 hH38
   refine RL.set hH38 (i := 0) rfl (run_stW (c' := (nodeL (kindR 4 tx0 (.slice none 0 0) [])).toArray) rfl rfl rfl (nodeL_one (kindR_v (SlV.nil (Kw w) _))) (hH38.blk (i := 0) rfl) rfl) ?_
   intro w40 hH41
   simp only [z0, z1] at hH41
   have hH42 := hH41.nilRow 28 5
   refine RL.nil ?_
   refine CW.seq ?_
   refine SR ?_
   refine V (fA underlying24 1 rfl sizeOf22 rfl) ?_
   refine V (run_ld underlying22 rfl rfl (hH42.cell (i := 4) rfl rfl)) ?_
   refine V (run_lenSl ((hs.mono hK).facs.sl.hp hH42) rfl underlying22 rfl) ?_
   refine V (mV (I 0) rfl) ?_
   refine RL.nil ?_
   refine CW.block ?_
   have hfit := nf ‹(!fitsS s.sh e) = false›
   have hfl := fit_len hfit
   refine CW.loop (G := (Int) × (Value) × (List NodeR) × (List Ent)) (fun (⟨k, kv, gs, Z⟩ : (Int) × (Value) × (List NodeR) × (List Ent)) s' w' => (Fr [6, 7, 27, 28, 29, 30, 31, 32, 33, 34, 35, 36, 37, 38, 39, 40, 41, 42] _ s') ∧ (Hp w w' (.row kv 28 5 (gs.length) (gs.flatMap nodeL) :: .blk b39 (.cells ((nodeL (kidsR 4 kv gs)).toArray) 28 (0, 0)) :: _ :: _ :: _ :: Z)) ∧ (s' 27 = I k) ∧ (0 ≤ k) ∧ (k ≤ s.facs.length) ∧ (gs.map NodeR.nd = constsTo s.sh e k) ∧ (NodesV (Kz K Z) gs) ∧ ((gs.length : Int) = k)) (fun (⟨k, kv, gs, Z⟩ : (Int) × (Value) × (List NodeR) × (List Ent)) => (s.facs.length - k).toNat) ((0, (.slice none 0 0 : Value), [], [])) ⟨Fr.refl _ _, hH42, rfl, (by omega), (by omega), rfl, NodesV.nil _, rfl⟩ ?_
   rintro ⟨k, kv, gs, Z⟩ sg43 w43 ⟨fr43, hH43, e27_43, h0, hk, hm, hF, hb⟩
   have e3_43 : sg43 3 = Pn _ _ := (fr43 3 rfl).trans rfl
   have e4_43 : sg43 4 = Pn _ _ := (fr43 4 rfl).trans rfl
   have e5_43 : sg43 5 = Pn _ _ := (fr43 5 rfl).trans rfl
   have e25_43 := (fr43 25 rfl).trans (by conv => lhs; whnf)
   have e26_43 : sg43 26 = I _ := (fr43 26 rfl).trans rfl
   refine SR ?_
   refine V (run_lss e27_43 e26_43) ?_
   refine RL.nil ?_
   refine CW.seq ?_
   refine CW.condP rfl (fun h45 => ?_) (fun h45 => ?_)
   ·refine CW.skip ?_
    refine CW.seq ?_
    refine CW.block ?_
    refine SR ?_
    refine V (run_move e27_43) ?_
    refine V (run_indexAddrS ((hs.mono hK).facs.sl.hp hH43) underlying22 sizeOf50 e25_43 e27_43 (by omega)) ?_
    refine V (run_ldE (dv := fac0) facL_len ((hs.mono hK).facs.sl.hp hH43) underlying50 rfl rfl rfl (by omega)) ?_
    refine RL.new rfl hH43 (f := fun b => (.pointer (some ⟨b, 0, none⟩))) (run_alloc zero_fac) ?_
    intro b48 w46 hH47
    refine V (aV (I _) rfl) ?_
    refine RL.set hH47 (i := 0) rfl (run_stFac ((hs.mono hK).at (by omega) (by omega)) rfl rfl rfl (hH47.blk (i := 0) rfl)) ?_
    intro w49 hH50
    simp only [z0, z1] at hH50
    refine RL.nil ?_
    refine CW.regionS (by kernel_rfl) hH50 (sP (sQ (sQ sR))) ?_
    intro w51 hH52
    refine AT 0 rfl (hH52.sub (sP (sQ (sQ sR)))) (fun w hS => fA underlying28 4 rfl sizeOf26 e5_43) ?_
    refine AT 2 rfl (hH52.sub (sP (sQ (sQ sR)))) (fun w hS => run_ldFac underlying50 rfl rfl rfl (hS.blk (i := 0) rfl)) ?_
    refine AT 3 rfl (hH52.sub (sP (sQ (sQ sR)))) (fun w hS => mV (I _) rfl) ?_
    refine AT 4 rfl (hH52.sub (sP (sQ (sQ sR)))) (fun w hS => run_indexAddrA underlying34 sizeOf32 e3_43 rfl (by omega)) ?_
    refine AT 5 rfl (hH52.sub (sP (sQ (sQ sR)))) (fun w hS => run_ld underlying32 rfl rfl (hS.cell (i := 2) rfl (elC_at _ (by omega)))) ?_
    refine AN.two 1 6 (by kernel_rfl) ?_ ?_
    ·refine AO.read rfl gnone rfl hH52 (sP (sQ (sQ sR))) (run_ld underlying26 rfl rfl (hH52.cell (i := 2) rfl rfl)) ?_
     refine A1 6 ?_
     refine AO.callF rfl gnone rfl hH52 (sP (sQ (sQ sR))) (c_spell_constant K (s.facs.getD k.toNat fac0) (e k.toNat) (fitR hfit h0 (by omega)).1 (fitR hfit h0 (by omega)).2 _ (hK.trans hH52.kw) (hs.at h0 (by omega)) (hT.hp hH52)) (run_call2 call26 rfl rfl) ?_
     intro v57 w58 Z60 hH59 hp61
     have hH62 : Hp _ w58 (_ :: _ :: _ :: _ :: _ :: _ :: (Z60 ++ Z)) := hH59.zin (L := [_, _, _, _, _, _]) (L' := Z)
     obtain ⟨n63, rfl, nd64, nv65⟩ := hp61
     refine A1 7 ?_
     refine AO.new rfl gnone rfl hH62 (sP (sQ (sQ (sP (sP (sP (sA sR))))))) (f := fun b => .slice (some ⟨b, 0, none⟩) 1 1) (run_mkRecs nodeL_len underlying26 rfl rfl rfl (l := [n63]) rfl (by decide) (by decide) rfl) ?_
     intro b68 w66 hH67
     refine A1 8 ?_
     refine AO.app rfl gnone rfl hH67 (j := 2) rfl (fun _ => (sQ (sP (sQ (sQ (sP (sP (sP (sA sR))))))))) (Hp.slFlat nodeL_len hH67 (i := 0) (l := [n63]) rfl (by simp [maxLen])) rfl rfl underlying26 rfl rfl (size := 5) (bytes := 80) rfl rfl rfl (by decide) (node1_one nv65) (by simp only [List.length_cons, List.length_nil]; omega) (by simp only [maxLen, List.length_cons, List.length_nil]; omega) ?_
     intro v71 w69 hH70
     simp only [z0, z1] at hH70
     refine AT 9 rfl (hH70.sub (sQ (sP (sQ (sQ (sP (sP (sP (sA sR))))))))) (fun w hS => fA underlying28 4 rfl sizeOf26 e5_43) ?_
     refine A1 10 ?_
     refine AO.set rfl gnone hH70 (j := 3) rfl (sQ (sP (sQ (sQ (sP (sP (sP (sA sR)))))))) (run_st rfl rfl (v := v71) rfl (row_cells (hH70.get (i := 2) rfl)).1 (row_cells (hH70.get (i := 2) rfl)).2 (hH70.blk (i := 3) rfl) (by first | (show 4 < 5; decide) | decide | (simp only [List.size_toArray, nodeL_len]; decide) | simp)) ?_
     intro w74 hH75
     simp only [z0, z1] at hH75
     refine AD ?_
     refine CW.region ?_
     refine V (run_add e27_43 rfl (by omega)) ?_
     refine V (mV (I _) rfl) ?_
     refine RL.nil ?_
     refine ⟨(k + 1, v71, (gs ++ [n63]), (Z60 ++ Z)), ?_, fr43.u4.u4.u4.u4.u1.u1, (Hp.conv (hH75.sub (sQ (sQ sR))) (by first | rfl | (simp; done) | (simp [nodeL, kidsR, kindR, NodeR.kind, NodeR.place, NodeR.text, NodeR.nv, NodeR.kv]; done))), (congrArg I (by first | rfl | omega)), ?_, ?_, ?_, ?_, ?_⟩
     ·((try dsimp only); omega)
     ·omega
     ·omega
     ·rw [consts_nextR h0, List.map_append, hm]; exact congrArg (_ ++ [·]) nd64
     ·exact (hF.mono (Le.zz fun y hy => List.mem_append_right _ hy)).snoc (NodeV.mono (Le.zz fun y hy => List.mem_append_left _ hy) nv65)
     ·simp only [List.length_append, List.length_singleton]; omega
    ·refine AO.callF rfl gnone rfl hH52 (sP (sQ (sQ sR))) (c_spell_constant K (s.facs.getD k.toNat fac0) (e k.toNat) (fitR hfit h0 (by omega)).1 (fitR hfit h0 (by omega)).2 _ (hK.trans hH52.kw) (hs.at h0 (by omega)) (hT.hp hH52)) (run_call2 call26 rfl rfl) ?_
     intro v78 w79 Z81 hH80 hp82
     have hH83 : Hp _ w79 (_ :: _ :: _ :: _ :: _ :: _ :: (Z81 ++ Z)) := hH80.zin (L := [_, _, _, _, _, _]) (L' := Z)
     obtain ⟨n84, rfl, nd85, nv86⟩ := hp82
     refine AN.two 1 7 (by kernel_rfl) ?_ ?_
     ·refine AO.read rfl gnone rfl hH83 (sP (sQ (sQ (sP (sP (sP (sA sR))))))) (run_ld underlying26 rfl rfl (hH83.cell (i := 2) rfl rfl)) ?_
      refine A1 7 ?_
      refine AO.new rfl gnone rfl hH83 (sP (sQ (sQ (sP (sP (sP (sA sR))))))) (f := fun b => .slice (some ⟨b, 0, none⟩) 1 1) (run_mkRecs nodeL_len underlying26 rfl rfl rfl (l := [n84]) rfl (by decide) (by decide) rfl) ?_
      intro b91 w89 hH90
      refine A1 8 ?_
      refine AO.app rfl gnone rfl hH90 (j := 2) rfl (fun _ => (sQ (sP (sQ (sQ (sP (sP (sP (sA sR))))))))) (Hp.slFlat nodeL_len hH90 (i := 0) (l := [n84]) rfl (by simp [maxLen])) rfl rfl underlying26 rfl rfl (size := 5) (bytes := 80) rfl rfl rfl (by decide) (node1_one nv86) (by simp only [List.length_cons, List.length_nil]; omega) (by simp only [maxLen, List.length_cons, List.length_nil]; omega) ?_
      intro v94 w92 hH93
      simp only [z0, z1] at hH93
      refine AT 9 rfl (hH93.sub (sQ (sP (sQ (sQ (sP (sP (sP (sA sR))))))))) (fun w hS => fA underlying28 4 rfl sizeOf26 e5_43) ?_
      refine A1 10 ?_
      refine AO.set rfl gnone hH93 (j := 3) rfl (sQ (sP (sQ (sQ (sP (sP (sP (sA sR)))))))) (run_st rfl rfl (v := v94) rfl (row_cells (hH93.get (i := 2) rfl)).1 (row_cells (hH93.get (i := 2) rfl)).2 (hH93.blk (i := 3) rfl) (by first | (show 4 < 5; decide) | decide | (simp only [List.size_toArray, nodeL_len]; decide) | simp)) ?_
      intro w97 hH98
      simp only [z0, z1] at hH98
      refine AD ?_
      refine CW.region ?_
      refine V (run_add e27_43 rfl (by omega)) ?_
      refine V (mV (I _) rfl) ?_
      refine RL.nil ?_
      refine ⟨(k + 1, v94, (gs ++ [n84]), (Z81 ++ Z)), ?_, fr43.u4.u4.u4.u4.u1.u1, (Hp.conv (hH98.sub (sQ (sQ sR))) (by first | rfl | (simp; done) | (simp [nodeL, kidsR, kindR, NodeR.kind, NodeR.place, NodeR.text, NodeR.nv, NodeR.kv]; done))), (congrArg I (by first | rfl | omega)), ?_, ?_, ?_, ?_, ?_⟩
      ·((try dsimp only); omega)
      ·omega
      ·omega
      ·rw [consts_nextR h0, List.map_append, hm]; exact congrArg (_ ++ [·]) nd85
      ·exact (hF.mono (Le.zz fun y hy => List.mem_append_right _ hy)).snoc (NodeV.mono (Le.zz fun y hy => List.mem_append_left _ hy) nv86)
      ·simp only [List.length_append, List.length_singleton]; omega
     ·refine AO.new rfl gnone rfl hH83 (sP (sQ (sQ (sP (sP (sP (sA sR))))))) (f := fun b => .slice (some ⟨b, 0, none⟩) 1 1) (run_mkRecs nodeL_len underlying26 rfl rfl rfl (l := [n84]) rfl (by decide) (by decide) rfl) ?_
      intro b101 w99 hH100
      refine A1 1 ?_
      refine AO.read rfl gnone rfl hH100 (sQ (sP (sQ (sQ (sP (sP (sP (sA sR)))))))) (run_ld underlying26 rfl rfl (hH100.cell (i := 3) rfl rfl)) ?_
      refine A1 8 ?_
      refine AO.app rfl gnone rfl hH100 (j := 2) rfl (fun _ => (sQ (sP (sQ (sQ (sP (sP (sP (sA sR))))))))) (Hp.slFlat nodeL_len hH100 (i := 0) (l := [n84]) rfl (by simp [maxLen])) rfl rfl underlying26 rfl rfl (size := 5) (bytes := 80) rfl rfl rfl (by decide) (node1_one nv86) (by simp only [List.length_cons, List.length_nil]; omega) (by simp only [maxLen, List.length_cons, List.length_nil]; omega) ?_
      intro v106 w104 hH105
      simp only [z0, z1] at hH105
      refine AT 9 rfl (hH105.sub (sQ (sP (sQ (sQ (sP (sP (sP (sA sR))))))))) (fun w hS => fA underlying28 4 rfl sizeOf26 e5_43) ?_
      refine A1 10 ?_
      refine AO.set rfl gnone hH105 (j := 3) rfl (sQ (sP (sQ (sQ (sP (sP (sP (sA sR)))))))) (run_st rfl rfl (v := v106) rfl (row_cells (hH105.get (i := 2) rfl)).1 (row_cells (hH105.get (i := 2) rfl)).2 (hH105.blk (i := 3) rfl) (by first | (show 4 < 5; decide) | decide | (simp only [List.size_toArray, nodeL_len]; decide) | simp)) ?_
      intro w109 hH110
      simp only [z0, z1] at hH110
      refine AD ?_
      refine CW.region ?_
      refine V (run_add e27_43 rfl (by omega)) ?_
      refine V (mV (I _) rfl) ?_
      refine RL.nil ?_
      refine ⟨(k + 1, v106, (gs ++ [n84]), (Z81 ++ Z)), ?_, fr43.u4.u4.u4.u4.u1.u1, (Hp.conv (hH110.sub (sQ (sQ sR))) (by first | rfl | (simp; done) | (simp [nodeL, kidsR, kindR, NodeR.kind, NodeR.place, NodeR.text, NodeR.nv, NodeR.kv]; done))), (congrArg I (by first | rfl | omega)), ?_, ?_, ?_, ?_, ?_⟩
      ·((try dsimp only); omega)
      ·omega
      ·omega
      ·rw [consts_nextR h0, List.map_append, hm]; exact congrArg (_ ++ [·]) nd85
      ·exact (hF.mono (Le.zz fun y hy => List.mem_append_right _ hy)).snoc (NodeV.mono (Le.zz fun y hy => List.mem_append_left _ hy) nv86)
      ·simp only [List.length_append, List.length_singleton]; omega
   ·refine CW.exit (id := 0) rfl ?_
    refine SR ?_
    obtain ⟨Z111, hz112, hv113, -⟩ := hH43.frz (K)
    have hH114 : Hp _ w43 (_ :: _ :: _ :: _ :: (Z111 ++ Z)) := hz112.zin (L := [_, _, _, _]) (L' := Z)
    have hN115 : NodeV (Kz K (Z111 ++ Z)) ((kidsR 4 kv gs)) := kidsR_v (hv113.mono (Le.zz fun x hx => List.mem_append_left _ hx)) (hF.mono (Le.zz fun x hx => List.mem_append_right _ hx))
    refine V (run_ldA (cs := nodeL ((kidsR 4 kv gs))) underlying28 rfl rfl e5_43 (rangeAt_cells (hH114.blk (i := 0) rfl))) ?_
    refine RL.set hH114 (i := 1) rfl (run_stW (c' := (nodeL ((kidsR 4 kv gs))).toArray) rfl e4_43 rfl (nodeL_one hN115) (hH114.blk (i := 1) rfl) rfl) ?_
    intro w116 hH117
    simp only [z0, z1] at hH117
    refine RL.nil ?_
    refine CW.ret ?_
    refine outCg Tryz.results12 e4_43 hH117 (i := 1) rfl underlying28 rfl rfl ⟨(Z111 ++ Z), (hH117.sub (sQ (sQ (sQ (sQ sR))))), (kidsR 4 kv gs), rfl, ?_, hN115⟩
    exact nodeF_t hfit (nf ‹(!s.tuple) = false›) (by omega) hm

theorem c_term_commas (n : Int) (f : FuncId) (cs : List Value) (T : Int → Tx) (hn : 0 ≤ n ∧ n ≤ 9223372036854775807) (hsz : ((upto n).map fun i => (T i).size + 1).sum ≤ 999999996) (w : World) (hf : ∀ args w, (callFunc f args).run Tryz.prog w = .ok (.enter f args) w) (go : ∀ i w', Below w.heap.size w w' → 0 ≤ i → i < n → Calls Tryz.prog f (I i :: cs).toArray w' (Pure (S (T i)) w')) : Calls Tryz.prog 105 #[I n, .func (.func f) #[] cs.toArray] w (Pure (S (commasTo T n)) w) := by
 refine enter Tryz.func105 rfl Tryz.ntmps105 rfl ?_
 have hH := Hp.start w
 refine SR ?_
 refine V (aV (.string ⟨#[]⟩) rfl) ?_
 refine RL.nil ?_
 refine SR ?_
 refine V (aV (.slice none 0 0) rfl) ?_
 have hH1 := hH.nilRow 5 1
 refine RL.nil ?_
 refine CW.seq ?_
 refine SR ?_
 refine V (mV (I _) rfl) ?_
 refine V (mV (I 0) rfl) ?_
 refine RL.nil ?_
 refine CW.block ?_
 refine CW.loop (G := (Int) × (Tx) × (Value)) (fun (⟨k, m, v5⟩ : (Int) × (Tx) × (Value)) s' w' => (Fr [5, 6, 8, 9, 10, 11, 12, 13, 14, 15, 16, 17, 18, 19, 20, 21] _ s') ∧ (Hp w w' (.row v5 5 1 (m.size) (byL m) :: _)) ∧ (s' 5 = v5) ∧ (s' 8 = I k) ∧ (0 ≤ k) ∧ (k ≤ n) ∧ (m = commasTo T k)) (fun (⟨k, m, v5⟩ : (Int) × (Tx) × (Value)) => (n - k).toNat) ((0, tx0, (.slice none 0 0 : Value))) ⟨Fr.refl _ _, hH1, rfl, rfl, (by omega), (by omega), rfl⟩ ?_
 rintro ⟨k, m, v5⟩ sg2 w2 ⟨fr2, hH2, e5_2, e8_2, h0, hk, hm⟩
 have e1_2 : sg2 1 = .func _ _ _ := (fr2 1 rfl).trans rfl
 have e4_2 : sg2 4 = .string _ := (fr2 4 rfl).trans rfl
 have e7_2 : sg2 7 = I _ := (fr2 7 rfl).trans rfl
 subst hm
 refine SR ?_
 refine V (run_lss e8_2 e7_2) ?_
 refine RL.nil ?_
 refine CW.seq ?_
 refine CW.condP rfl (fun h4 => ?_) (fun h4 => ?_)
 ·refine CW.skip ?_
  refine CW.seq ?_
  refine CW.block ?_
  refine SR ?_
  refine V (run_move e8_2) ?_
  refine V (aV (I _) rfl) ?_
  refine RL.nil ?_
  refine CW.seq ?_
  refine SR ?_
  refine V (mV (I _) rfl) ?_
  refine V (run_gtr rfl rfl) ?_
  refine RL.nil ?_
  refine CW.condP rfl (fun h6 => ?_) (fun h6 => ?_)
  ·refine CW.region ?_
   refine V (run_move e5_2) ?_
   refine RL.new rfl hH2 (f := fun b => (.slice (some ⟨b, 0, none⟩) 1 1)) (run_mkL underlying117 rfl rfl (sz := 1) (vs := [.int .u8 44]) rfl rfl (by decide) (by decide) rfl rfl) ?_
   intro b9 w7 hH8
   (try simp only [List.flatMap_cons, List.flatMap_nil, clI, clB, clS, clP, clL, clA, List.append_nil, List.cons_append, List.nil_append] at hH8)
   refine RL.app rfl hH8 (i := 1) rfl (hH8.slBlk (i := 0) (n := 1) (sz := 1) rfl rfl (by decide)) rfl rfl underlying117 rfl rfl (size := 1) (bytes := 1) rfl rfl rfl (by decide) (by simp [Value.oneCell']) (by have := T_sz T h0 ‹k < n›; omega) (by have := T_sz T h0 ‹k < n›; simp only [maxLen]; omega) ?_
   intro v10 w11 hH12
   simp only [z0, z1] at hH12
   refine V (run_assign (by conv => lhs; whnf)) ?_
   refine RL.nil ?_
   refine CW.region ?_
   refine V (run_move (by conv => lhs; whnf)) ?_
   refine V (run_move e1_2) ?_
   refine V (mV (I _) rfl) ?_
   refine RL.callP rfl hH12 (go _ _ hH12.below (by omega) (by omega)) (run_callC1 hf (cs := cs) rfl rfl) ?_
   intro w13 hH14
   refine RL.appS rfl hH14 (i := 1) rfl rfl rfl underlying117 underlying9 rfl rfl rfl rfl (by have := T_sz T h0 ‹k < n›; (try simp only [List.length_cons, List.length_nil]); omega) ?_
   intro v15 w16 hH17
   simp only [z0, z1] at hH17
   refine V (run_assign (by conv => lhs; whnf)) ?_
   refine RL.nil ?_
   refine CW.region ?_
   refine V (run_add e8_2 rfl (by omega)) ?_
   refine V (mV (I _) rfl) ?_
   refine RL.nil ?_
   refine ⟨(k + 1, commasTo T (k + 1), v15), ?_, fr2.u4.u4.u4.u4.u1, (Hp.conv (hH17.sub (sQ sR)) (by first | (rw [← commas_2 ‹0 < k›, tx_size_app, tx_size_app, byL_app, byL_app]; rfl) | (rw [← commas_1 (show k = 0 by omega), tx_size_app, byL_app]))), rfl, (congrArg I (by first | rfl | omega)), ?_, ?_, ?_⟩
   ·((try dsimp only); omega)
   ·omega
   ·omega
   ·rfl
  ·refine CW.skip ?_
   refine CW.region ?_
   refine V (run_move e5_2) ?_
   refine V (run_move e1_2) ?_
   refine V (mV (I _) rfl) ?_
   refine RL.callP rfl hH2 (go _ _ hH2.below (by omega) (by omega)) (run_callC1 hf (cs := cs) rfl rfl) ?_
   intro w18 hH19
   refine RL.appS rfl hH19 (i := 0) rfl rfl rfl underlying117 underlying9 rfl rfl rfl rfl (by have := T_sz T h0 ‹k < n›; (try simp only [List.length_cons, List.length_nil]); omega) ?_
   intro v20 w21 hH22
   simp only [z0, z1] at hH22
   refine V (run_assign (by conv => lhs; whnf)) ?_
   refine RL.nil ?_
   refine CW.region ?_
   refine V (run_add e8_2 rfl (by omega)) ?_
   refine V (mV (I _) rfl) ?_
   refine RL.nil ?_
   refine ⟨(k + 1, commasTo T (k + 1), v20), ?_, fr2.u4.u4.u4.u1, (Hp.conv hH22 (by first | (rw [← commas_2 ‹0 < k›, tx_size_app, tx_size_app, byL_app, byL_app]; rfl) | (rw [← commas_1 (show k = 0 by omega), tx_size_app, byL_app]))), rfl, (congrArg I (by first | rfl | omega)), ?_, ?_, ?_⟩
   ·((try dsimp only); omega)
   ·omega
   ·omega
   ·rfl
 ·refine CW.exit (id := 0) rfl ?_
  refine SR ?_
  refine V (run_move e5_2) ?_
  refine V (run_convBS (s := (commasTo T k)) (hH2.sl (i := 0) rfl) underlying117 underlying5 underlying9 rfl) ?_
  refine V (aV (.string _) rfl) ?_
  refine RL.nil ?_
  refine CW.ret ?_
  refine outP1 Tryz.results105 ?_ hH2.below
  exact congrArg S (by rw [show n = k by omega])

theorem c_term_names_1 (b : Nat) (n : NodeR) (i : Int) (hi : 0 ≤ i ∧ i < n.names.length) (w : World) (hn : NodeV (Kw w) n) (hb : w.heap[b]? = some (.cells (nodeL n).toArray 28 (0, 0))) : Calls Tryz.prog 106 #[I i, .pointer (some ⟨b, 0, none⟩)] w (Pure (S (n.names.getD i.toNat wd0).text) w) := by
 refine enter Tryz.func106 rfl Tryz.ntmps106 rfl ?_
 have hH := Hp.start w
 refine SR ?_
 refine V (aV (.string ⟨#[]⟩) rfl) ?_
 refine RL.nil ?_
 refine SR ?_
 refine V (fA underlying28 3 rfl sizeOf25 rfl) ?_
 refine V (run_ldV (hn.names_.sl.hp hH) underlying25 rfl rfl (hH.extCell hb rfl)) ?_
 refine V (mV (I _) rfl) ?_
 refine V (run_indexAddrS (hn.names_.sl.hp hH) underlying25 sizeOf53 rfl rfl (by omega)) ?_
 refine V (fA underlying53 0 rfl sizeOf9 rfl) ?_
 refine V (run_ldE1 (dv := wd0) (off := 0) wdL_len (hn.names_.sl.hp hH) underlying9 rfl rfl (by omega) rfl) ?_
 refine V (aV (.string _) rfl) ?_
 refine RL.nil ?_
 refine CW.ret ?_
 refine outP1 Tryz.results106 ?_ hH.below
 rfl

theorem c_term_kids_1 (b : Nat) (n : NodeR) (i : Int) (hi : 0 ≤ i ∧ i < n.kids.length) (htx : TxN n.nd) (w : World) (hn : NodeV (Kw w) n) (hb : w.heap[b]? = some (.cells (nodeL n).toArray 28 (0, 0))) (ih : ∀ x ∈ n.kids, TxN x.nd → ∀ w, NodeV (Kw w) x → Calls Tryz.prog 29 #[.agg (nodeL x).toArray] w (Pure (S (textF x.nd)) w)) : Calls Tryz.prog 107 #[I i, .pointer (some ⟨b, 0, none⟩)] w (Pure (S (textF (n.kids.getD i.toNat node0).nd)) w) := by
 refine enter Tryz.func107 rfl Tryz.ntmps107 rfl ?_
 have hH := Hp.start w
 refine SR ?_
 refine V (aV (.string ⟨#[]⟩) rfl) ?_
 refine RL.nil ?_
 refine SR ?_
 refine V (fA underlying28 4 rfl sizeOf26 rfl) ?_
 refine V (run_ldV (hn.kids_.sl.hp hH) underlying26 rfl rfl (hH.extCell hb rfl)) ?_
 refine V (mV (I _) rfl) ?_
 refine V (run_indexAddrS (hn.kids_.sl.hp hH) underlying26 sizeOf28 rfl rfl (by omega)) ?_
 refine V (run_ldE (dv := node0) nodeL_len (hn.kids_.sl.hp hH) underlying28 rfl rfl rfl (by omega)) ?_
 refine RL.callP rfl hH (ih _ (List.mem_of_getElem? (getD_at (d := node0) hi.1 hi.2)) (htx.kidR (List.mem_of_getElem? (getD_at (d := node0) hi.1 hi.2))) _ (NodeV.mono hH.kw (hn.at hi.1 hi.2))) (run_call1 call29 rfl) ?_
 intro w1 hH2
 refine V (aV (.string _) rfl) ?_
 refine RL.nil ?_
 refine CW.ret ?_
 refine outP1 Tryz.results107 ?_ hH2.below
 rfl

theorem c_term_names (n : NodeR) (htx : TxN n.nd) (w : World) (hn : NodeV (Kw w) n) : Calls Tryz.prog 67 #[.agg (nodeL n).toArray] w (Pure (S (namesT n.nd.names)) w) := by
 have hm1 := hn.kids_.small
 have hm2 := hn.names_.small
 unfold maxLen at hm1 hm2
 refine enter Tryz.func67 rfl Tryz.ntmps67 rfl ?_
 have hH := Hp.start w
 refine SR ?_
 refine RL.new rfl hH (f := fun b => (.pointer (some ⟨b, 0, none⟩))) (run_box (v := .agg _) rfl) ?_
 intro b3 w1 hH2
 refine V (aV (.string ⟨#[]⟩) rfl) ?_
 refine RL.nil ?_
 refine SR ?_
 refine V (fA underlying28 3 rfl sizeOf25 rfl) ?_
 refine V (run_ldV (hn.names_.sl.hp hH2) underlying25 rfl rfl (hH2.cell (i := 0) rfl rfl)) ?_
 refine V (run_lenSl (hn.names_.sl.hp hH2) rfl underlying25 rfl) ?_
 refine V (run_mkF1 (by conv => lhs; whnf)) ?_
 refine RL.callP rfl hH2 (c_term_commas _ 106 [.pointer (some ⟨b3, 0, none⟩)] (fun i => (n.names.getD i.toNat wd0).text) (by omega) (names_bd htx) _ call106 (fun i w h h0 h1 => c_term_names_1 b3 n i ⟨h0, h1⟩ w (NodeV.mono (hH2.kw.trans (Kw.below h)) hn) (keep h (hH2.blk (i := 0) rfl)))) (run_call2 call105 rfl rfl) ?_
 intro w4 hH5
 refine V (aV (.string _) rfl) ?_
 refine RL.nil ?_
 refine CW.ret ?_
 refine outP1 Tryz.results67 ?_ hH5.below
 exact congrArg S (names_commas n)

theorem c_term_kids (n : NodeR) (htx : TxN n.nd) (w : World) (hn : NodeV (Kw w) n) (ih : ∀ x ∈ n.kids, TxN x.nd → ∀ w, NodeV (Kw w) x → Calls Tryz.prog 29 #[.agg (nodeL x).toArray] w (Pure (S (textF x.nd)) w)) : Calls Tryz.prog 68 #[.agg (nodeL n).toArray] w (Pure (S (commasF (n.nd.kids.map textF))) w) := by
 have hm1 := hn.kids_.small
 have hm2 := hn.names_.small
 unfold maxLen at hm1 hm2
 refine enter Tryz.func68 rfl Tryz.ntmps68 rfl ?_
 have hH := Hp.start w
 refine SR ?_
 refine RL.new rfl hH (f := fun b => (.pointer (some ⟨b, 0, none⟩))) (run_box (v := .agg _) rfl) ?_
 intro b3 w1 hH2
 refine V (aV (.string ⟨#[]⟩) rfl) ?_
 refine RL.nil ?_
 refine SR ?_
 refine V (fA underlying28 4 rfl sizeOf26 rfl) ?_
 refine V (run_ldV (hn.kids_.sl.hp hH2) underlying26 rfl rfl (hH2.cell (i := 0) rfl rfl)) ?_
 refine V (run_lenSl (hn.kids_.sl.hp hH2) rfl underlying26 rfl) ?_
 refine V (run_mkF1 (by conv => lhs; whnf)) ?_
 refine RL.callP rfl hH2 (c_term_commas _ 107 [.pointer (some ⟨b3, 0, none⟩)] (fun i => textF (n.kids.getD i.toNat node0).nd) (by omega) (kids_bd htx) _ call107 (fun i w h h0 h1 => c_term_kids_1 b3 n i ⟨h0, h1⟩ htx w (NodeV.mono (hH2.kw.trans (Kw.below h)) hn) (keep h (hH2.blk (i := 0) rfl)) ih)) (run_call2 call105 rfl rfl) ?_
 intro w4 hH5
 refine V (aV (.string _) rfl) ?_
 refine RL.nil ?_
 refine CW.ret ?_
 refine outP1 Tryz.results68 ?_ hH5.below
 exact congrArg S (kids_commas n)

theorem s_text (n : NodeR) (htx : TxN n.nd) (w : World) (hn : NodeV (Kw w) n) (ih : ∀ x ∈ n.kids, TxN x.nd → ∀ w, NodeV (Kw w) x → Calls Tryz.prog 29 #[.agg (nodeL x).toArray] w (Pure (S (textF x.nd)) w)) : Calls Tryz.prog 29 #[.agg (nodeL n).toArray] w (Pure (S (textF n.nd)) w) := by
 have hm1 := hn.kids_.small
 have hm2 := hn.names_.small
 unfold maxLen at hm1 hm2
 have hkd := htx.kind
 rw [nd_kind] at hkd
 refine enter Tryz.func29 rfl Tryz.ntmps29 rfl ?_
 have hH := Hp.start w
 refine SR ?_
 refine RL.new rfl hH (f := fun b => (.pointer (some ⟨b, 0, none⟩))) (run_box (v := .agg _) rfl) ?_
 intro b3 w1 hH2
 refine V (aV (.string ⟨#[]⟩) rfl) ?_
 refine RL.nil ?_
 refine CW.seq ?_
 refine SR ?_
 refine V (fA underlying28 0 rfl sizeOf3 rfl) ?_
 refine V (run_ld underlying3 rfl rfl (hH2.cell (i := 0) rfl (v := I _) rfl)) ?_
 refine RL.nil ?_
 refine CW.block ?_
 refine CW.seq ?_
 refine SR ?_
 refine V (run_eql rfl rfl) ?_
 refine V (aV (B _) rfl) ?_
 refine RL.nil ?_
 refine CW.condP rfl (fun h5 => ?_) (fun h5 => ?_)
 ·refine CW.skip ?_
  refine CW.condT (bT h5) ?_
  refine SR ?_
  refine V (fA underlying28 2 rfl sizeOf9 rfl) ?_
  refine V (run_ld underlying9 rfl rfl (hH2.cell (i := 0) rfl (v := .string _) rfl)) ?_
  refine V (aV (.string _) rfl) ?_
  refine RL.nil ?_
  refine CW.ret ?_
  refine outP1 Tryz.results29 ?_ hH2.below
  (refine congrArg S ?_; first | (rw [text_eq, nd_kind, if_pos (.inl ‹n.kind = 1›), nd_text]; done) | (rw [text_eq, nd_kind, if_pos (.inr ‹n.kind = 2›), nd_text]; done) | (rw [text_eq, nd_kind, if_neg (by omega), if_pos ‹n.kind = 3›]; rfl) | (rw [text_eq, nd_kind, if_neg (by omega), if_neg (by omega), if_pos ‹n.kind = 4›]; rfl) | (rw [text_eq, nd_kind, if_neg (by omega), if_neg (by omega), if_neg (by omega), if_pos ‹n.kind = 5›]; rfl) | (rw [text_eq, nd_kind, if_neg (by omega), if_neg (by omega), if_neg (by omega), if_neg (by omega), if_pos ‹n.kind = 6›, nd_text]; rfl) | (rw [text_eq, nd_kind, if_neg (by omega), if_neg (by omega), if_neg (by omega), if_neg (by omega), if_neg (by omega)]))
 ·refine CW.region ?_
  refine V (run_eql rfl rfl) ?_
  refine V (aV (B _) rfl) ?_
  refine RL.nil ?_
  refine CW.condP rfl (fun h7 => ?_) (fun h7 => ?_)
  ·refine SR ?_
   refine V (fA underlying28 2 rfl sizeOf9 rfl) ?_
   refine V (run_ld underlying9 rfl rfl (hH2.cell (i := 0) rfl (v := .string _) rfl)) ?_
   refine V (aV (.string _) rfl) ?_
   refine RL.nil ?_
   refine CW.ret ?_
   refine outP1 Tryz.results29 ?_ hH2.below
   (refine congrArg S ?_; first | (rw [text_eq, nd_kind, if_pos (.inl ‹n.kind = 1›), nd_text]; done) | (rw [text_eq, nd_kind, if_pos (.inr ‹n.kind = 2›), nd_text]; done) | (rw [text_eq, nd_kind, if_neg (by omega), if_pos ‹n.kind = 3›]; rfl) | (rw [text_eq, nd_kind, if_neg (by omega), if_neg (by omega), if_pos ‹n.kind = 4›]; rfl) | (rw [text_eq, nd_kind, if_neg (by omega), if_neg (by omega), if_neg (by omega), if_pos ‹n.kind = 5›]; rfl) | (rw [text_eq, nd_kind, if_neg (by omega), if_neg (by omega), if_neg (by omega), if_neg (by omega), if_pos ‹n.kind = 6›, nd_text]; rfl) | (rw [text_eq, nd_kind, if_neg (by omega), if_neg (by omega), if_neg (by omega), if_neg (by omega), if_neg (by omega)]))
  ·refine SR ?_
   refine V (run_eql rfl rfl) ?_
   refine V (aV (B _) rfl) ?_
   refine RL.nil ?_
   refine CW.condP rfl (fun h9 => ?_) (fun h9 => ?_)
   ·refine SR ?_
    refine V (run_ldA (cs := nodeL _) underlying28 rfl rfl rfl (rangeAt_cells (hH2.blk (i := 0) rfl))) ?_
    refine RL.callP rfl hH2 (c_term_names n htx _ (NodeV.mono hH2.kw hn)) (run_call1 call67 rfl) ?_
    intro w10 hH11
    refine V (run_addS rfl rfl (by have ha := htx.nmT; have hb := htx.kdT; have hc := htx.txT; rw [nd_text] at hc; (try simp only [tx_size_app]); (try simp only [tsz1, tsz2]); omega)) ?_
    refine V (run_addS rfl rfl (by have ha := htx.nmT; have hb := htx.kdT; have hc := htx.txT; rw [nd_text] at hc; (try simp only [tx_size_app]); (try simp only [tsz1, tsz2]); omega)) ?_
    refine V (aV (.string _) rfl) ?_
    refine RL.nil ?_
    refine CW.ret ?_
    refine outP1 Tryz.results29 ?_ hH11.below
    (refine congrArg S ?_; first | (rw [text_eq, nd_kind, if_pos (.inl ‹n.kind = 1›), nd_text]; done) | (rw [text_eq, nd_kind, if_pos (.inr ‹n.kind = 2›), nd_text]; done) | (rw [text_eq, nd_kind, if_neg (by omega), if_pos ‹n.kind = 3›]; rfl) | (rw [text_eq, nd_kind, if_neg (by omega), if_neg (by omega), if_pos ‹n.kind = 4›]; rfl) | (rw [text_eq, nd_kind, if_neg (by omega), if_neg (by omega), if_neg (by omega), if_pos ‹n.kind = 5›]; rfl) | (rw [text_eq, nd_kind, if_neg (by omega), if_neg (by omega), if_neg (by omega), if_neg (by omega), if_pos ‹n.kind = 6›, nd_text]; rfl) | (rw [text_eq, nd_kind, if_neg (by omega), if_neg (by omega), if_neg (by omega), if_neg (by omega), if_neg (by omega)]))
   ·refine SR ?_
    refine V (run_eql rfl rfl) ?_
    refine V (aV (B _) rfl) ?_
    refine RL.nil ?_
    refine CW.condP rfl (fun h13 => ?_) (fun h13 => ?_)
    ·refine SR ?_
     refine V (run_ldA (cs := nodeL _) underlying28 rfl rfl rfl (rangeAt_cells (hH2.blk (i := 0) rfl))) ?_
     refine RL.callP rfl hH2 (c_term_kids n htx _ (NodeV.mono hH2.kw hn) ih) (run_call1 call68 rfl) ?_
     intro w14 hH15
     refine V (run_addS rfl rfl (by have ha := htx.nmT; have hb := htx.kdT; have hc := htx.txT; rw [nd_text] at hc; (try simp only [tx_size_app]); (try simp only [tsz1, tsz2]); omega)) ?_
     refine V (run_addS rfl rfl (by have ha := htx.nmT; have hb := htx.kdT; have hc := htx.txT; rw [nd_text] at hc; (try simp only [tx_size_app]); (try simp only [tsz1, tsz2]); omega)) ?_
     refine V (aV (.string _) rfl) ?_
     refine RL.nil ?_
     refine CW.ret ?_
     refine outP1 Tryz.results29 ?_ hH15.below
     (refine congrArg S ?_; first | (rw [text_eq, nd_kind, if_pos (.inl ‹n.kind = 1›), nd_text]; done) | (rw [text_eq, nd_kind, if_pos (.inr ‹n.kind = 2›), nd_text]; done) | (rw [text_eq, nd_kind, if_neg (by omega), if_pos ‹n.kind = 3›]; rfl) | (rw [text_eq, nd_kind, if_neg (by omega), if_neg (by omega), if_pos ‹n.kind = 4›]; rfl) | (rw [text_eq, nd_kind, if_neg (by omega), if_neg (by omega), if_neg (by omega), if_pos ‹n.kind = 5›]; rfl) | (rw [text_eq, nd_kind, if_neg (by omega), if_neg (by omega), if_neg (by omega), if_neg (by omega), if_pos ‹n.kind = 6›, nd_text]; rfl) | (rw [text_eq, nd_kind, if_neg (by omega), if_neg (by omega), if_neg (by omega), if_neg (by omega), if_neg (by omega)]))
    ·refine SR ?_
     refine V (run_eql rfl rfl) ?_
     refine V (aV (B _) rfl) ?_
     refine RL.nil ?_
     refine CW.condP rfl (fun h17 => ?_) (fun h17 => ?_)
     ·refine SR ?_
      refine V (run_ldA (cs := nodeL _) underlying28 rfl rfl rfl (rangeAt_cells (hH2.blk (i := 0) rfl))) ?_
      refine RL.callP rfl hH2 (c_term_kids n htx _ (NodeV.mono hH2.kw hn) ih) (run_call1 call68 rfl) ?_
      intro w18 hH19
      refine V (run_addS rfl rfl (by have ha := htx.nmT; have hb := htx.kdT; have hc := htx.txT; rw [nd_text] at hc; (try simp only [tx_size_app]); (try simp only [tsz1, tsz2]); omega)) ?_
      refine V (run_addS rfl rfl (by have ha := htx.nmT; have hb := htx.kdT; have hc := htx.txT; rw [nd_text] at hc; (try simp only [tx_size_app]); (try simp only [tsz1, tsz2]); omega)) ?_
      refine V (aV (.string _) rfl) ?_
      refine RL.nil ?_
      refine CW.ret ?_
      refine outP1 Tryz.results29 ?_ hH19.below
      (refine congrArg S ?_; first | (rw [text_eq, nd_kind, if_pos (.inl ‹n.kind = 1›), nd_text]; done) | (rw [text_eq, nd_kind, if_pos (.inr ‹n.kind = 2›), nd_text]; done) | (rw [text_eq, nd_kind, if_neg (by omega), if_pos ‹n.kind = 3›]; rfl) | (rw [text_eq, nd_kind, if_neg (by omega), if_neg (by omega), if_pos ‹n.kind = 4›]; rfl) | (rw [text_eq, nd_kind, if_neg (by omega), if_neg (by omega), if_neg (by omega), if_pos ‹n.kind = 5›]; rfl) | (rw [text_eq, nd_kind, if_neg (by omega), if_neg (by omega), if_neg (by omega), if_neg (by omega), if_pos ‹n.kind = 6›, nd_text]; rfl) | (rw [text_eq, nd_kind, if_neg (by omega), if_neg (by omega), if_neg (by omega), if_neg (by omega), if_neg (by omega)]))
     ·refine SR ?_
      refine V (run_eql rfl rfl) ?_
      refine V (aV (B _) rfl) ?_
      refine RL.nil ?_
      refine CW.condP rfl (fun h21 => ?_) (fun h21 => ?_)
      ·refine CW.seq ?_
       refine CW.regionD (by kernel_rfl) hH2 ?_
       intro w22 hH23
       refine AT 0 rfl (hH23.sub sR) (fun w hS => fA underlying28 2 rfl sizeOf9 rfl) ?_
       refine AT 1 rfl (hH23.sub sR) (fun w hS => run_ld underlying9 rfl rfl (hS.cell (i := 0) rfl (v := .string _) rfl)) ?_
       refine AT 2 rfl (hH23.sub sR) (fun w hS => run_addS rfl rfl (by have ha := htx.nmT; have hb := htx.kdT; have hc := htx.txT; rw [nd_text] at hc; (try simp only [tx_size_app]); (try simp only [tsz1, tsz2]); omega)) ?_
       refine AT 3 rfl (hH23.sub sR) (fun w hS => run_ldA (cs := nodeL _) underlying28 rfl rfl rfl (rangeAt_cells (hS.blk (i := 0) rfl))) ?_
       refine A1 4 ?_
       refine AO.callP rfl gnone rfl hH23 sR (c_term_names n htx _ (NodeV.mono hH23.kw hn)) (run_call1 call67 rfl) ?_
       intro w24 hH25
       refine AT 5 rfl (hH25.sub sR) (fun w hS => run_addS rfl rfl (by have ha := htx.nmT; have hb := htx.kdT; have hc := htx.txT; rw [nd_text] at hc; (try simp only [tx_size_app]); (try simp only [tsz1, tsz2]); omega)) ?_
       refine AT 6 rfl (hH25.sub sR) (fun w hS => run_addS rfl rfl (by have ha := htx.nmT; have hb := htx.kdT; have hc := htx.txT; rw [nd_text] at hc; (try simp only [tx_size_app]); (try simp only [tsz1, tsz2]); omega)) ?_
       refine AT 7 rfl (hH25.sub sR) (fun w hS => aV (.string _) rfl) ?_
       refine AD ?_
       refine CW.ret ?_
       refine outP1 Tryz.results29 ?_ hH25.below
       (refine congrArg S ?_; first | (rw [text_eq, nd_kind, if_pos (.inl ‹n.kind = 1›), nd_text]; done) | (rw [text_eq, nd_kind, if_pos (.inr ‹n.kind = 2›), nd_text]; done) | (rw [text_eq, nd_kind, if_neg (by omega), if_pos ‹n.kind = 3›]; rfl) | (rw [text_eq, nd_kind, if_neg (by omega), if_neg (by omega), if_pos ‹n.kind = 4›]; rfl) | (rw [text_eq, nd_kind, if_neg (by omega), if_neg (by omega), if_neg (by omega), if_pos ‹n.kind = 5›]; rfl) | (rw [text_eq, nd_kind, if_neg (by omega), if_neg (by omega), if_neg (by omega), if_neg (by omega), if_pos ‹n.kind = 6›, nd_text]; rfl) | (rw [text_eq, nd_kind, if_neg (by omega), if_neg (by omega), if_neg (by omega), if_neg (by omega), if_neg (by omega)]))
      ·refine SR ?_
       refine V (run_eql rfl rfl) ?_
       refine V (aV (B _) rfl) ?_
       refine RL.nil ?_
       refine CW.condF (bF ((by omega))) ?_
       refine SR ?_
       refine V (run_eql rfl rfl) ?_
       refine V (aV (B _) rfl) ?_
       refine RL.nil ?_
       refine CW.condF (bF ((by omega))) ?_
       refine SR ?_
       refine V (run_eql rfl rfl) ?_
       refine V (aV (B _) rfl) ?_
       refine RL.nil ?_
       refine CW.condF (bF ((by omega))) ?_
       refine SR ?_
       refine V (run_eql rfl rfl) ?_
       refine V (aV (B _) rfl) ?_
       refine RL.nil ?_
       refine CW.condF (bF ((by omega))) ?_
       refine SR ?_
       refine V (run_eql rfl rfl) ?_
       refine V (aV (B _) rfl) ?_
       refine RL.nil ?_
       refine CW.condF (bF ((by omega))) ?_
       refine CW.skip ?_
       refine SR ?_
       refine V (aV (.string ⟨#[]⟩) rfl) ?_
       refine RL.nil ?_
       refine CW.ret ?_
       refine outP1 Tryz.results29 ?_ hH2.below
       (refine congrArg S ?_; first | (rw [text_eq, nd_kind, if_pos (.inl ‹n.kind = 1›), nd_text]; done) | (rw [text_eq, nd_kind, if_pos (.inr ‹n.kind = 2›), nd_text]; done) | (rw [text_eq, nd_kind, if_neg (by omega), if_pos ‹n.kind = 3›]; rfl) | (rw [text_eq, nd_kind, if_neg (by omega), if_neg (by omega), if_pos ‹n.kind = 4›]; rfl) | (rw [text_eq, nd_kind, if_neg (by omega), if_neg (by omega), if_neg (by omega), if_pos ‹n.kind = 5›]; rfl) | (rw [text_eq, nd_kind, if_neg (by omega), if_neg (by omega), if_neg (by omega), if_neg (by omega), if_pos ‹n.kind = 6›, nd_text]; rfl) | (rw [text_eq, nd_kind, if_neg (by omega), if_neg (by omega), if_neg (by omega), if_neg (by omega), if_neg (by omega)]))
theorem c_term_Text (n : NodeR) : TxN n.nd → ∀ w, NodeV (Kw w) n → Calls Tryz.prog 29 #[.agg (nodeL n).toArray] w (Pure (S (textF n.nd)) w) := node_ind (C := fun n => TxN n.nd → ∀ w, NodeV (Kw w) n → Calls Tryz.prog 29 #[.agg (nodeL n).toArray] w (Pure (S (textF n.nd)) w)) (fun n ih htx w hn => s_text n htx w hn ih) n

theorem c_spell_Text (s : Shp) (e : El) (w : World) (hs : ShpV (Kw w) s) (hT : Tab w) : Calls Tryz.prog 14 #[.agg (shpC s), .agg (elC e)] w (Pure (S (spellF s.sh e)) w) := by
 refine enter Tryz.func14 rfl Tryz.ntmps14 rfl ?_
 have hH := Hp.start w
 refine SR ?_
 refine RL.new rfl hH (f := fun b => (.pointer (some ⟨b, 0, none⟩))) (run_box (v := .agg _) rfl) ?_
 intro b3 w1 hH2
 refine RL.new rfl hH2 (f := fun b => (.pointer (some ⟨b, 0, none⟩))) (run_box (v := .agg _) rfl) ?_
 intro b6 w4 hH5
 refine V (aV (.string ⟨#[]⟩) rfl) ?_
 refine RL.nil ?_
 refine SR ?_
 refine V (run_ldA (cs := [B _, _]) underlying24 rfl rfl rfl (rangeAt_cells (hH5.blk (i := 1) rfl))) ?_
 refine V (run_ldEl underlying34 rfl rfl rfl (hH5.blk (i := 0) rfl)) ?_
 refine RL.callF rfl hH5 (c_spell_Node (Kw w) s e _ hH5.kw hs (hT.hp hH5)) (run_call2 call12 rfl rfl) ?_
 intro v9 w10 Z12 hH11 hp13
 have hH14 : Hp _ w10 (_ :: _ :: Z12) := hH11.zin0 (L := [_, _])
 obtain ⟨n15, rfl, nd16, nv17⟩ := hp13
 refine RL.callP rfl hH14 (c_term_Text n15 (by rw [nd16]; exact node_tx _ _) _ (NodeV.mono (hH14.kz (Le.refl _) (fun x hx => (mT (mT hx)))) nv17)) (run_call1 call29 rfl) ?_
 intro w18 hH19
 refine V (run_addS rfl rfl (by rw [nd16]; have hq := (node_tx s.sh e).text; (try simp only [tx_size_app]); (try simp only [tsz1, tsz2, *]); omega)) ?_
 refine V (aV (.string _) rfl) ?_
 refine RL.nil ?_
 refine CW.ret ?_
 refine outP1 Tryz.results14 ?_ hH19.below
 (rw [nd16]; rfl)

theorem c_clearancelaw11_alive  (w : World) (hT : Tab w) : Calls Tryz.prog 8 #[] w (Pure (B true) w) := by
 refine enter Tryz.func8 rfl Tryz.ntmps8 rfl ?_
 have hH := Hp.start w
 refine SR ?_
 refine V (aV (B false) rfl) ?_
 refine RL.nil ?_
 refine SR ?_
 refine RL.new rfl hH (f := fun b => (.slice (some ⟨b, 0, none⟩) 2 2)) (run_mkL underlying45 rfl rfl (sz := 1) (vs := [.string ⟨#[112]⟩, .string ⟨#[113]⟩]) rfl rfl (by decide) (by decide) rfl rfl) ?_
 intro b3 w1 hH2
 (try simp only [List.flatMap_cons, List.flatMap_nil, clI, clB, clS, clP, clL, clA, List.append_nil, List.cons_append, List.nil_append] at hH2)
 have hH4 : Hp _ w1 ([Ent.blk b3 (.cells (txL exPQ).toArray 9 (0, 0))]) := Hp.zin0 (Z := [Ent.blk b3 (.cells (txL exPQ).toArray 9 (0, 0))]) (L := []) hH2
 have hv5 : SlV (Kz (Kw w) [Ent.blk b3 (.cells (txL exPQ).toArray 9 (0, 0))]) (.slice (some ⟨b3, 0, none⟩) 2 2) 1 2 (txL exPQ) := slv_blk (List.mem_cons_self ..) rfl (by simp [maxLen])
 refine V (run_bld (vs := [(0, U 3#64), (1, U 2#64)]) rfl built_up2) ?_
 refine V (run_bld (vs := [(0, I 2), (1, .agg ((relL twoR).drop 1).toArray)]) rfl built_relA) ?_
 refine V (run_bld (vs := [(0, I 3), (1, .slice (some ⟨b3, 0, none⟩) 2 2), (2, .agg (relC twoR))]) rfl (built_facR 3 b3 2 exPQ)) ?_
 refine RL.new rfl hH4 (f := fun b => (.slice (some ⟨b, 0, none⟩) 1 1)) (run_mkFacs underlying22 rfl rfl rfl (l := [_]) rfl (by decide) (by decide) rfl) ?_
 intro b8 w6 hH7
 have hH9 : Hp _ w6 (([Ent.blk b8 (.cells ([(⟨3, .slice (some ⟨b3, 0, none⟩) 2 2, exPQ, twoR⟩ : Fac)].flatMap facL).toArray 50 (0, 0))] ++ [Ent.blk b3 (.cells (txL exPQ).toArray 9 (0, 0))])) := Hp.zin (Z := [Ent.blk b8 (.cells ([(⟨3, .slice (some ⟨b3, 0, none⟩) 2 2, exPQ, twoR⟩ : Fac)].flatMap facL).toArray 50 (0, 0))]) (L := []) (L' := [Ent.blk b3 (.cells (txL exPQ).toArray 9 (0, 0))]) hH7
 have hv10 : SlV (Kz (Kw w) ([Ent.blk b8 (.cells ([(⟨3, .slice (some ⟨b3, 0, none⟩) 2 2, exPQ, twoR⟩ : Fac)].flatMap facL).toArray 50 (0, 0))] ++ [Ent.blk b3 (.cells (txL exPQ).toArray 9 (0, 0))])) (.slice (some ⟨b8, 0, none⟩) 1 1) 67 1 ([(⟨3, .slice (some ⟨b3, 0, none⟩) 2 2, exPQ, twoR⟩ : Fac)].flatMap facL) := slv_blk (List.mem_cons_self ..) (flat_length facL_len [_]) (by simp [maxLen])
 refine V (run_bld (vs := [(1, .slice (some ⟨b8, 0, none⟩) 1 1)]) rfl (built_shp1 rfl)) ?_
 have hs11 : ShpV (Kz (Kw w) (([Ent.blk b8 (.cells ([(⟨3, .slice (some ⟨b3, 0, none⟩) 2 2, exPQ, twoR⟩ : Fac)].flatMap facL).toArray 50 (0, 0))] ++ [Ent.blk b3 (.cells (txL exPQ).toArray 9 (0, 0))]))) (⟨false, .slice (some ⟨b8, 0, none⟩) 1 1, [(⟨3, .slice (some ⟨b3, 0, none⟩) 2 2, exPQ, twoR⟩ : Fac)]⟩ : Shp) := ⟨hv10, fun x hx => by rw [List.mem_singleton.1 hx]; exact ⟨hv5.mono (Le.zz fun y hy => List.mem_append_right _ hy)⟩⟩
 refine RL.new rfl hH9 (f := fun b => (.pointer (some ⟨b, 0, none⟩))) (run_alloc Tryz.zeroValue24) ?_
 intro b14 w12 hH13
 refine RL.set hH13 (i := 0) rfl (run_stW (c' := #[B false, .slice (some ⟨b8, 0, none⟩) 1 1]) rfl rfl rfl (by simp [Value.oneCell']) (hH13.blk (i := 0) rfl) rfl) ?_
 intro w15 hH16
 simp only [z0, z1] at hH16
 refine RL.nil ?_
 refine SR ?_
 refine V (run_bld (vs := [(0, .string ⟨#[113]⟩)]) rfl (built_wdLs _)) ?_
 refine RL.new rfl hH16 (f := fun b => (.slice (some ⟨b, 0, none⟩) 1 1)) (run_mkRecs wdL_len underlying25 rfl rfl rfl (l := [_]) rfl (by decide) (by decide) rfl) ?_
 intro b19 w17 hH18
 have hH20 : Hp _ w17 (_ :: ([Ent.blk b19 (.cells ([(⟨⟨#[113]⟩, 0⟩ : Wd)].flatMap wdL).toArray 53 (0, 0))] ++ ([Ent.blk b8 (.cells ([(⟨3, .slice (some ⟨b3, 0, none⟩) 2 2, exPQ, twoR⟩ : Fac)].flatMap facL).toArray 50 (0, 0))] ++ [Ent.blk b3 (.cells (txL exPQ).toArray 9 (0, 0))]))) := Hp.zin (Z := [Ent.blk b19 (.cells ([(⟨⟨#[113]⟩, 0⟩ : Wd)].flatMap wdL).toArray 53 (0, 0))]) (L := [_]) (L' := ([Ent.blk b8 (.cells ([(⟨3, .slice (some ⟨b3, 0, none⟩) 2 2, exPQ, twoR⟩ : Fac)].flatMap facL).toArray 50 (0, 0))] ++ [Ent.blk b3 (.cells (txL exPQ).toArray 9 (0, 0))])) hH18
 have hv21 : SlV (Kz (Kw w) ([Ent.blk b19 (.cells ([(⟨⟨#[113]⟩, 0⟩ : Wd)].flatMap wdL).toArray 53 (0, 0))] ++ ([Ent.blk b8 (.cells ([(⟨3, .slice (some ⟨b3, 0, none⟩) 2 2, exPQ, twoR⟩ : Fac)].flatMap facL).toArray 50 (0, 0))] ++ [Ent.blk b3 (.cells (txL exPQ).toArray 9 (0, 0))]))) (.slice (some ⟨b19, 0, none⟩) 1 1) 2 1 ([(⟨⟨#[113]⟩, 0⟩ : Wd)].flatMap wdL) := slv_blk (List.mem_cons_self ..) (flat_length wdL_len [_]) (by simp [maxLen])
 refine V (run_bld (vs := [(0, I 6), (2, S ⟨#[112]⟩), (3, .slice (some ⟨b19, 0, none⟩) 1 1)]) rfl (built_nodeTN rfl 6 ⟨#[112]⟩ [⟨⟨#[113]⟩, 0⟩])) ?_
 refine RL.new rfl hH20 (f := fun b => (.slice (some ⟨b, 0, none⟩) 1 1)) (run_mkRecs nodeL_len underlying26 rfl rfl rfl (l := [_]) rfl (by decide) (by decide) rfl) ?_
 intro b24 w22 hH23
 have hH25 : Hp _ w22 (_ :: ([Ent.blk b24 (.cells ([(kindR 6 ⟨#[112]⟩ (.slice (some ⟨b19, 0, none⟩) 1 1) [⟨⟨#[113]⟩, 0⟩])].flatMap nodeL).toArray 28 (0, 0))] ++ ([Ent.blk b19 (.cells ([(⟨⟨#[113]⟩, 0⟩ : Wd)].flatMap wdL).toArray 53 (0, 0))] ++ ([Ent.blk b8 (.cells ([(⟨3, .slice (some ⟨b3, 0, none⟩) 2 2, exPQ, twoR⟩ : Fac)].flatMap facL).toArray 50 (0, 0))] ++ [Ent.blk b3 (.cells (txL exPQ).toArray 9 (0, 0))])))) := Hp.zin (Z := [Ent.blk b24 (.cells ([(kindR 6 ⟨#[112]⟩ (.slice (some ⟨b19, 0, none⟩) 1 1) [⟨⟨#[113]⟩, 0⟩])].flatMap nodeL).toArray 28 (0, 0))]) (L := [_]) (L' := ([Ent.blk b19 (.cells ([(⟨⟨#[113]⟩, 0⟩ : Wd)].flatMap wdL).toArray 53 (0, 0))] ++ ([Ent.blk b8 (.cells ([(⟨3, .slice (some ⟨b3, 0, none⟩) 2 2, exPQ, twoR⟩ : Fac)].flatMap facL).toArray 50 (0, 0))] ++ [Ent.blk b3 (.cells (txL exPQ).toArray 9 (0, 0))]))) hH23
 have hv26 : SlV (Kz (Kw w) ([Ent.blk b24 (.cells ([(kindR 6 ⟨#[112]⟩ (.slice (some ⟨b19, 0, none⟩) 1 1) [⟨⟨#[113]⟩, 0⟩])].flatMap nodeL).toArray 28 (0, 0))] ++ ([Ent.blk b19 (.cells ([(⟨⟨#[113]⟩, 0⟩ : Wd)].flatMap wdL).toArray 53 (0, 0))] ++ ([Ent.blk b8 (.cells ([(⟨3, .slice (some ⟨b3, 0, none⟩) 2 2, exPQ, twoR⟩ : Fac)].flatMap facL).toArray 50 (0, 0))] ++ [Ent.blk b3 (.cells (txL exPQ).toArray 9 (0, 0))])))) (.slice (some ⟨b24, 0, none⟩) 1 1) 5 1 ([(kindR 6 ⟨#[112]⟩ (.slice (some ⟨b19, 0, none⟩) 1 1) [⟨⟨#[113]⟩, 0⟩])].flatMap nodeL) := slv_blk (List.mem_cons_self ..) (flat_length nodeL_len [_]) (by simp [maxLen])
 refine V (run_bld (vs := [(0, I 5), (4, .slice (some ⟨b24, 0, none⟩) 1 1)]) rfl (built_nodeKd 5 b24 1 [(kindR 6 ⟨#[112]⟩ (.slice (some ⟨b19, 0, none⟩) 1 1) [⟨⟨#[113]⟩, 0⟩])])) ?_
 have hn27 : NodeV (Kz (Kw w) (([Ent.blk b24 (.cells ([(kindR 6 ⟨#[112]⟩ (.slice (some ⟨b19, 0, none⟩) 1 1) [⟨⟨#[113]⟩, 0⟩])].flatMap nodeL).toArray 28 (0, 0))] ++ ([Ent.blk b19 (.cells ([(⟨⟨#[113]⟩, 0⟩ : Wd)].flatMap wdL).toArray 53 (0, 0))] ++ ([Ent.blk b8 (.cells ([(⟨3, .slice (some ⟨b3, 0, none⟩) 2 2, exPQ, twoR⟩ : Fac)].flatMap facL).toArray 50 (0, 0))] ++ [Ent.blk b3 (.cells (txL exPQ).toArray 9 (0, 0))]))))) (kidsR 5 (.slice (some ⟨b24, 0, none⟩) 1 1) [(kindR 6 ⟨#[112]⟩ (.slice (some ⟨b19, 0, none⟩) 1 1) [⟨⟨#[113]⟩, 0⟩])]) := kidsR_v hv26 ⟨fun x hx => by rw [List.mem_singleton.1 hx]; exact kindR_v (hv21.mono (Le.zz fun y hy => List.mem_append_right _ hy))⟩
 have hnd : (kidsR 5 (.slice (some ⟨b24, 0, none⟩) 1 1) [(kindR 6 ⟨#[112]⟩ (.slice (some ⟨b19, 0, none⟩) 1 1) [⟨⟨#[113]⟩, 0⟩])]).nd = exNd := by rw [kidsR_nd, List.map_cons, List.map_nil, kindR_nd]; rfl
 refine RL.new rfl hH25 (f := fun b => (.pointer (some ⟨b, 0, none⟩))) (run_alloc Tryz.zeroValue28) ?_
 intro b30 w28 hH29
 refine RL.set hH29 (i := 0) rfl (run_stW (c' := (nodeL (kidsR 5 (.slice (some ⟨b24, 0, none⟩) 1 1) [(kindR 6 ⟨#[112]⟩ (.slice (some ⟨b19, 0, none⟩) 1 1) [⟨⟨#[113]⟩, 0⟩])])).toArray) rfl rfl rfl (nodeL_one hn27) (hH29.blk (i := 0) rfl) rfl) ?_
 intro w31 hH32
 simp only [z0, z1] at hH32
 refine RL.nil ?_
 refine SR ?_
 refine V (run_ldA (cs := [B _, _]) underlying24 rfl rfl rfl (rangeAt_cells (hH32.blk (i := 1) rfl))) ?_
 refine V (run_ldA (cs := nodeL _) underlying28 rfl rfl rfl (rangeAt_cells (hH32.blk (i := 0) rfl))) ?_
 refine RL.callP rfl hH32 (c_spell_Elem (⟨false, .slice (some ⟨b8, 0, none⟩) 1 1, [(⟨3, .slice (some ⟨b3, 0, none⟩) 2 2, exPQ, twoR⟩ : Fac)]⟩ : Shp) (kidsR 5 (.slice (some ⟨b24, 0, none⟩) 1 1) [(kindR 6 ⟨#[112]⟩ (.slice (some ⟨b19, 0, none⟩) 1 1) [⟨⟨#[113]⟩, 0⟩])]) _ (hs11.mono (hH32.kz (Le.refl _) (fun x hx => (mT (mT (List.mem_append_right _ (List.mem_append_right _ hx))))))) (NodeV.mono (hH32.kz (Le.refl _) (fun x hx => (mT (mT hx)))) hn27) (hT.hp hH32)) (run_call2 call9 rfl rfl) ?_
 intro w33 hH34
 refine V (run_move (by conv => lhs; whnf)) ?_
 refine V (run_extract rfl (v := .agg _) rfl) ?_
 refine V (run_extract rfl (v := .agg _) rfl) ?_
 refine RL.new rfl hH34 (f := fun b => (.pointer (some ⟨b, 0, none⟩))) (run_alloc zero_el) ?_
 intro b37 w35 hH36
 refine RL.new rfl hH36 (f := fun b => (.pointer (some ⟨b, 0, none⟩))) (run_alloc zero_flt) ?_
 intro b40 w38 hH39
 refine RL.set hH39 (i := 1) rfl (run_stEl rfl rfl rfl (hH39.blk (i := 1) rfl)) ?_
 intro w41 hH42
 simp only [z0, z1] at hH42
 refine RL.set hH42 (i := 0) rfl (run_stW (c' := (fltL _).toArray) rfl rfl rfl (by simp [fltL, Value.oneCell']) (hH42.blk (i := 0) rfl) rfl) ?_
 intro w43 hH44
 simp only [z0, z1] at hH44
 refine RL.nil ?_
 refine SR ?_
 refine V (run_ldA (cs := fltL _) underlying36 rfl rfl rfl (rangeAt_cells (hH44.blk (i := 0) rfl))) ?_
 refine V (run_bld (vs := []) rfl (built_fltL0)) ?_
 refine V (run_eqlT (eq_flt _ _) rfl rfl) ?_
 refine V (mV (B _) rfl) ?_
 refine RL.gT rfl (bT ((by rw [hnd]; exact exG_E.1))) ?_
 refine V (run_ldEl underlying34 rfl rfl rfl (hH44.blk (i := 1) rfl)) ?_
 refine RL.gT rfl (bT ((by rw [hnd]; exact exG_E.1))) ?_
 refine V (run_bld (vs := [(0, U 1#64)]) rfl (built_el1 _)) ?_
 refine RL.gT rfl (bT ((by rw [hnd]; exact exG_E.1))) ?_
 refine V (run_eqlEl elT_fact rfl rfl) ?_
 refine V (run_pickT (bT ((by rw [hnd]; exact exG_E.1))) (v := B _) rfl) ?_
 refine V (mV (B _) rfl) ?_
 refine RL.gT rfl (bT ((by rw [hnd]; exact exG_E.2))) ?_
 refine V (run_ldA (cs := [B _, _]) underlying24 rfl rfl rfl (rangeAt_cells (hH44.blk (i := 3) rfl))) ?_
 refine RL.gT rfl (bT ((by rw [hnd]; exact exG_E.2))) ?_
 refine V (run_ldEl underlying34 rfl rfl rfl (hH44.blk (i := 1) rfl)) ?_
 refine RL.gT rfl (bT ((by rw [hnd]; exact exG_E.2))) ?_
 refine RL.callP rfl hH44 (c_spell_Text (⟨false, .slice (some ⟨b8, 0, none⟩) 1 1, [(⟨3, .slice (some ⟨b3, 0, none⟩) 2 2, exPQ, twoR⟩ : Fac)]⟩ : Shp) _ _ (hs11.mono (hH44.kz (Le.refl _) (fun x hx => (mT (mT (mT (mT (List.mem_append_right _ (List.mem_append_right _ hx))))))))) (hT.hp hH44)) (run_call2 call14 rfl rfl) ?_
 intro w47 hH48
 refine RL.gT rfl (bT ((by rw [hnd]; exact exG_E.2))) ?_
 refine V (run_eqlS rfl rfl) ?_
 refine V (run_pickT (bT ((by rw [hnd]; exact exG_E.2))) (v := B _) rfl) ?_
 refine V (aV (B _) rfl) ?_
 refine RL.nil ?_
 refine CW.ret ?_
 refine outP1 Tryz.results8 (congrArg B ?_) hH48.below
 exact decide_eq_true (by rw [hnd]; exact exG_S exG_E.2)

theorem c_clearancelaw11_SpellElem (s : Shp) (n : NodeR) (hz : NodeZ n) (w : World) (hs : ShpV (Kw w) s) (hn : NodeV (Kw w) n) (hT : Tab w) : Calls Tryz.prog 3 #[.agg (shpC s), .agg (nodeL n).toArray] w (Pure (B true) w) := by
 refine enter Tryz.func3 rfl Tryz.ntmps3 rfl ?_
 have hH := Hp.start w
 refine SR ?_
 refine RL.new rfl hH (f := fun b => (.pointer (some ⟨b, 0, none⟩))) (run_box (v := .agg _) rfl) ?_
 intro b3 w1 hH2
 refine RL.new rfl hH2 (f := fun b => (.pointer (some ⟨b, 0, none⟩))) (run_box (v := .agg _) rfl) ?_
 intro b6 w4 hH5
 refine V (aV (B false) rfl) ?_
 refine RL.nil ?_
 refine CW.seq ?_
 refine SR ?_
 refine V (run_ldA (cs := [B _, _]) underlying24 rfl rfl rfl (rangeAt_cells (hH5.blk (i := 1) rfl))) ?_
 refine RL.callP rfl hH5 (c_clearancelaw07_Big _  _ (hs.mono hH5.kw)) (run_call1 call6 rfl) ?_
 intro w7 hH8
 refine V (mV (B _) rfl) ?_
 refine RL.split (dj := 11) rfl (fun h10 => ?_) (fun h10 => ?_)
 ·refine RL.gF rfl rfl (bR (c := true) h10) rfl ?_
  refine RL.gF rfl rfl (bR (c := true) h10) rfl ?_
  refine RL.gF rfl rfl (bR (c := true) h10) rfl ?_
  refine V (run_pickT (bR (c := true) h10) (v := B true) rfl) ?_
  refine RL.nil ?_
  refine CW.condT rfl ?_
  refine SR ?_
  refine RL.callP rfl hH8 (c_clearancelaw11_alive   _ (hT.hp hH8)) (run_call0 call8) ?_
  intro w11 hH12
  refine V (aV (B _) rfl) ?_
  refine RL.nil ?_
  refine CW.ret ?_
  refine outP1 Tryz.results3 (congrArg B ?_) hH12.below
  rfl
 ·refine RL.gT rfl (bR (c := false) h10) ?_
  refine V (run_ldA (cs := nodeL _) underlying28 rfl rfl rfl (rangeAt_cells (hH8.blk (i := 0) rfl))) ?_
  refine RL.gT rfl (bR (c := false) h10) ?_
  refine RL.new rfl hH8 (f := fun b => (.slice (some ⟨b, 0, none⟩) 1 1)) (run_mkRecs nodeL_len underlying26 rfl rfl rfl (l := [_]) rfl (by decide) (by decide) rfl) ?_
  intro b16 w14 hH15
  refine RL.gT rfl (bR (c := false) h10) ?_
  refine RL.callT rfl (c_clearancelaw10_Big _ [n] _ (Hp.slFlat nodeL_len hH15 (i := 0) (l := [_]) rfl (by simp [maxLen])) ⟨fun x hx => by rw [List.mem_singleton.1 hx]; exact NodeV.mono hH15.kw hn⟩) (run_call1 call7 rfl) ?_
  rintro _ w19 ⟨⟨b22, rfl⟩, hb20⟩
  have hH21 := hH15.call hb20
  refine V (run_pickF (bR (c := false) h10) (v := B _) rfl) ?_
  refine RL.nil ?_
  refine CW.cond rfl (fun h24 => ?_) (fun h24 => ?_)
  ·refine SR ?_
   refine RL.callP rfl hH21 (c_clearancelaw11_alive   _ (hT.hp hH21)) (run_call0 call8) ?_
   intro w25 hH26
   refine V (aV (B _) rfl) ?_
   refine RL.nil ?_
   refine CW.ret ?_
   refine outP1 Tryz.results3 (congrArg B ?_) hH26.below
   rfl
  ·refine CW.skip ?_
   refine SR ?_
   refine V (run_ldA (cs := [B _, _]) underlying24 rfl rfl rfl (rangeAt_cells (hH21.blk (i := 2) rfl))) ?_
   refine V (run_ldA (cs := nodeL _) underlying28 rfl rfl rfl (rangeAt_cells (hH21.blk (i := 1) rfl))) ?_
   refine RL.callP rfl hH21 (c_spell_Elem _ _  _ (hs.mono hH21.kw) (hn.mono hH21.kw) (hT.hp hH21)) (run_call2 call9 rfl rfl) ?_
   intro w28 hH29
   refine V (run_move (by conv => lhs; whnf)) ?_
   refine V (run_extract rfl (v := .agg _) rfl) ?_
   refine V (run_extract rfl (v := .agg _) rfl) ?_
   refine RL.new rfl hH29 (f := fun b => (.pointer (some ⟨b, 0, none⟩))) (run_alloc zero_el) ?_
   intro b32 w30 hH31
   refine RL.new rfl hH31 (f := fun b => (.pointer (some ⟨b, 0, none⟩))) (run_alloc zero_flt) ?_
   intro b35 w33 hH34
   refine RL.set hH34 (i := 1) rfl (run_stEl rfl rfl rfl (hH34.blk (i := 1) rfl)) ?_
   intro w36 hH37
   simp only [z0, z1] at hH37
   refine RL.set hH37 (i := 0) rfl (run_stW (c' := (fltL _).toArray) rfl rfl rfl (by simp [fltL, Value.oneCell']) (hH37.blk (i := 0) rfl) rfl) ?_
   intro w38 hH39
   simp only [z0, z1] at hH39
   refine RL.nil ?_
   refine SR ?_
   refine V (run_ldA (cs := [B _, _]) underlying24 rfl rfl rfl (rangeAt_cells (hH39.blk (i := 4) rfl))) ?_
   refine V (run_ldA (cs := nodeL _) underlying28 rfl rfl rfl (rangeAt_cells (hH39.blk (i := 3) rfl))) ?_
   refine RL.callP rfl hH39 (c_clearanceref11_Elem s n hz _ (hs.mono hH39.kw) (NodeV.mono hH39.kw hn)) (run_call2 call10 rfl rfl) ?_
   intro w40 hH41
   refine V (run_move (by conv => lhs; whnf)) ?_
   refine V (run_extract rfl (v := .agg _) rfl) ?_
   refine V (run_extract rfl (v := .agg _) rfl) ?_
   refine RL.new rfl hH41 (f := fun b => (.pointer (some ⟨b, 0, none⟩))) (run_alloc zero_el) ?_
   intro b44 w42 hH43
   refine RL.new rfl hH43 (f := fun b => (.pointer (some ⟨b, 0, none⟩))) (run_alloc zero_flt) ?_
   intro b47 w45 hH46
   refine RL.set hH46 (i := 1) rfl (run_stEl rfl rfl rfl (hH46.blk (i := 1) rfl)) ?_
   intro w48 hH49
   simp only [z0, z1] at hH49
   refine RL.set hH49 (i := 0) rfl (run_stW (c' := (fltL _).toArray) rfl rfl rfl (by simp [fltL, Value.oneCell']) (hH49.blk (i := 0) rfl) rfl) ?_
   intro w50 hH51
   simp only [z0, z1] at hH51
   refine RL.nil ?_
   refine SR ?_
   refine V (run_ldEl underlying34 rfl rfl rfl (hH51.blk (i := 3) rfl)) ?_
   refine V (run_ldEl underlying34 rfl rfl rfl (hH51.blk (i := 1) rfl)) ?_
   refine V (run_eqlEl elT_fact rfl rfl) ?_
   refine V (mV (B _) rfl) ?_
   refine RL.gT rfl (bT ((fun _ _ => rfl))) ?_
   refine V (run_ldA (cs := fltL _) underlying36 rfl rfl rfl (rangeAt_cells (hH51.blk (i := 2) rfl))) ?_
   refine RL.gT rfl (bT ((fun _ _ => rfl))) ?_
   refine V (run_ldA (cs := fltL _) underlying36 rfl rfl rfl (rangeAt_cells (hH51.blk (i := 0) rfl))) ?_
   refine RL.gT rfl (bT ((fun _ _ => rfl))) ?_
   refine V (run_eqlT (eq_flt _ _) rfl rfl) ?_
   refine V (run_pickT (bT ((fun _ _ => rfl))) (v := B _) rfl) ?_
   refine V (mV (B _) rfl) ?_
   refine RL.gT rfl (bT (rfl)) ?_
   refine RL.callP rfl hH51 (c_clearancelaw11_alive   _ (hT.hp hH51)) (run_call0 call8) ?_
   intro w54 hH55
   refine V (run_pickT (bT (rfl)) (v := B _) rfl) ?_
   refine V (aV (B _) rfl) ?_
   refine RL.nil ?_
   refine CW.ret ?_
   refine outP1 Tryz.results3 (congrArg B ?_) hH55.below
   rfl

end Go.Proofs.YtningfhcklabmaaGreatDoor.W
