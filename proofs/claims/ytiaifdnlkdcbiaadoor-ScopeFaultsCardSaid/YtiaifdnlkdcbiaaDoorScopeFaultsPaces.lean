/-
  The walks of the functions that the laws of this seat reach, part 3: each returns what its plain counterpart tells, and turns nothing that was there.
-/
import Derived.Test.YtiaifdnlkdcbiaaDoorProg
import Derived.Test.YtiaifdnlkdcbiaaDoorEnv
import Derived.Test.YtiaifdnlkdcbiaaDoorPlain
import Derived.Test.YtiaifdnlkdcbiaaDoorBase
import Derived.Test.YtiaifdnlkdcbiaaDoorOrd
import Derived.Test.YtiaifdnlkdcbiaaDoorRel
import Derived.Test.YtiaifdnlkdcbiaaDoorClo
import Derived.Test.YtiaifdnlkdcbiaaDoorCov
import Derived.Test.YtiaifdnlkdcbiaaDoorArr
import Derived.Test.YtiaifdnlkdcbiaaDoorHas
import Derived.Test.YtiaifdnlkdcbiaaDoorGrd
import Derived.Test.YtiaifdnlkdcbiaaDoorStr
import Derived.Test.YtiaifdnlkdcbiaaDoorVu
import Derived.Test.YtiaifdnlkdcbiaaDoorShp
import Derived.Test.YtiaifdnlkdcbiaaDoorShl
import Derived.Test.YtiaifdnlkdcbiaaDoorShq
import Derived.Test.YtiaifdnlkdcbiaaDoorShr
import Derived.Test.YtiaifdnlkdcbiaaDoorCut
import Derived.Test.YtiaifdnlkdcbiaaDoorRec
import Derived.Test.YtiaifdnlkdcbiaaDoorScp
import Derived.Test.YtiaifdnlkdcbiaaDoorScq
import Derived.Test.YtiaifdnlkdcbiaaDoorScj
import Derived.Test.YtiaifdnlkdcbiaaDoorJdg
import Derived.Test.YtiaifdnlkdcbiaaDoorFlt
import Derived.Test.YtiaifdnlkdcbiaaDoorAdd
import Derived.Test.YtiaifdnlkdcbiaaDoorRgt
import Derived.Test.YtiaifdnlkdcbiaaDoorAlv
import Derived.Test.YtiaifdnlkdcbiaaDoorKee
import Derived.Test.YtiaifdnlkdcbiaaDoorMin
import Derived.Test.YtiaifdnlkdcbiaaDoorScopeFaultsPacesB
namespace Go.Proofs.YtiaifdnlkdcbiaaDoor.W
open Go Go.RowKit Go.Proofs.YtiaifdnlkdcbiaaDoor.E Go.Proofs.YtiaifdnlkdcbiaaDoor.M
set_option linter.unusedVariables false
set_option linter.unusedSimpArgs false
set_option maxRecDepth 100000
open Tryd

theorem c_clearanceref13_named (s : Scp) (c : CmdR) (hsm : Sm s c) (w : World) (hs : ScpV (Kw w) s) (hc : CmdV (Kw w) c) : Calls Tryd.prog 33 #[.agg (scpC s), .agg (cmdL c).toArray] w (PureRow 33 2 (namedL s c).length ((namedL s c).flatMap fltL) w) := by
 have hm1 := hsm.nl
 have hm2 := hsm.pl
 have hnb := fun t => nfind_bd (textsF c.names) t
 refine enter Tryd.func33 rfl Tryd.ntmps33 rfl ?_
 have hH := Hp.start w
 refine SR ?_
 refine RL.new rfl hH (f := fun b => (.pointer (some ⟨b, 0, none⟩))) (run_box (v := .agg _) rfl) ?_
 intro b3 w1 hH2
 refine RL.new rfl hH2 (f := fun b => (.pointer (some ⟨b, 0, none⟩))) (run_box (v := .agg _) rfl) ?_
 intro b6 w4 hH5
 refine V (aV (.slice none 0 0) rfl) ?_
 refine RL.nil ?_
 refine SR ?_
 refine V (aV (.slice none 0 0) rfl) ?_
 have hH7 := hH5.nilRow 33 2
 refine RL.nil ?_
 refine SR ?_
 refine V (fA underlying45 4 rfl sizeOf39 rfl) ?_
 refine V (run_ldV (hc.names.sl.hp hH7) underlying39 rfl rfl (hH7.cell (i := 1) rfl rfl)) ?_
 refine RL.callR rfl hH7 (c_clearanceref13_texts _ c.names (by omega) _ (hc.names.sl.hp hH7)) (run_call1 call60 rfl) ?_
 intro v10 w8 hH9
 refine V (run_assign (by conv => lhs; whnf)) ?_
 refine RL.nil ?_
 refine SR ?_
 refine V (fA underlying45 0 rfl sizeOf3 rfl) ?_
 refine V (run_ld underlying3 rfl rfl (hH9.cell (i := 2) rfl (v := I _) rfl)) ?_
 refine V (run_eql rfl rfl) ?_
 refine V (mV (B _) rfl) ?_
 refine RL.splitP (dj := 18) rfl (fun h12 => ?_) (fun h12 => ?_)
 ·refine RL.gF rfl rfl (bT h12) rfl ?_
  refine RL.gF rfl rfl (bT h12) rfl ?_
  refine RL.gF rfl rfl (bT h12) rfl ?_
  refine V (run_pickT (bT h12) (v := B true) rfl) ?_
  refine V (aV (B _) rfl) ?_
  refine RL.nil ?_
  refine CW.seq ?_
  refine SR ?_
  refine V (aV (I 0) rfl) ?_
  refine RL.nil ?_
  refine CW.block ?_
  refine CW.loop (G := (Int) × (List Flt) × (Value)) (fun (⟨k, m, v5⟩ : (Int) × (List Flt) × (Value)) s' w' => (Fr [5, 8, 9, 23, 24, 25, 26, 27, 28, 29, 30, 31, 32, 33, 34, 35, 36, 37, 38, 39, 40, 41, 42, 43, 44, 45, 46, 47, 48, 49, 50, 51, 52, 53, 54, 55, 56, 57, 58, 59, 60, 61, 62, 63, 64, 65, 66, 67, 68, 69, 70, 71, 72, 73, 74, 75, 76, 77, 78, 79, 80, 81, 82, 83, 84, 85] _ s') ∧ (Hp w w' (_ :: .row v5 33 2 (m.length) (m.flatMap fltL) :: _)) ∧ (s' 5 = v5) ∧ (s' 8 = I k) ∧ (0 ≤ k) ∧ (k ≤ c.names.length) ∧ (m = namesTo s c k)) (fun (⟨k, m, v5⟩ : (Int) × (List Flt) × (Value)) => (c.names.length - k).toNat) ((0, [], (.slice none 0 0 : Value))) ⟨Fr.refl _ _, hH9, rfl, rfl, (by omega), (by omega), rfl⟩ ?_
  rintro ⟨k, m, v5⟩ sg13 w13 ⟨fr13, hH13, e5_13, e8_13, h0, hk, hm⟩
  have e2_13 : sg13 2 = Pn _ _ := (fr13 2 rfl).trans rfl
  have e3_13 : sg13 3 = Pn _ _ := (fr13 3 rfl).trans rfl
  have e4_13 := (fr13 4 rfl).trans (by conv => lhs; whnf)
  have e6_13 := (fr13 6 rfl).trans (by conv => lhs; whnf)
  have e7_13 : sg13 7 = B _ := (fr13 7 rfl).trans rfl
  have hml := names_len s c k
  rw [← hm] at hml
  refine CW.seq ?_
  refine SR ?_
  refine V (run_move e8_13) ?_
  refine V (run_move e6_13) ?_
  refine V (run_lenSl (hH13.sl (i := 0) rfl) rfl underlying75 rfl) ?_
  refine V (run_lss rfl rfl) ?_
  refine RL.nil ?_
  refine CW.condP rfl (fun h15 => ?_) (fun h15 => ?_)
  ·refine CW.skip ?_
   refine CW.seq ?_
   refine CW.block ?_
   refine SR ?_
   refine V (fA underlying45 4 rfl sizeOf39 e3_13) ?_
   refine V (run_ldV (hc.names.sl.hp hH13) underlying39 rfl rfl (hH13.cell (i := 2) rfl rfl)) ?_
   refine V (run_move e8_13) ?_
   refine V (run_indexAddrS (hc.names.sl.hp hH13) underlying39 sizeOf38 rfl rfl (by first | omega | (simp only [texts_len] at *; omega))) ?_
   refine V (fA underlying38 1 rfl sizeOf3 rfl) ?_
   refine V (run_ldE1 (dv := wd0) (off := 1) wdL_len (hc.names.sl.hp hH13) underlying3 rfl rfl (by first | omega | (simp only [texts_len] at *; omega)) rfl) ?_
   refine V (aV (I _) rfl) ?_
   refine RL.nil ?_
   refine SR ?_
   refine V (fA underlying45 0 rfl sizeOf3 e3_13) ?_
   refine V (run_ld underlying3 rfl rfl (hH13.cell (i := 2) rfl (v := I _) rfl)) ?_
   refine V (run_eql rfl rfl) ?_
   refine RL.nil ?_
   refine CW.condP rfl (fun h17 => ?_) (fun h17 => ?_)
   ·refine CW.seq ?_
    refine CW.regionD (by kernel_rfl) hH13 ?_
    intro w18 hH19
    refine AT 0 rfl (hH19.sub sR) (fun w hS => run_ldA (cs := scpL _) underlying25 rfl rfl e2_13 (rangeAt_cells (hS.blk (i := 3) rfl))) ?_
    refine AT 1 rfl (hH19.sub sR) (fun w hS => run_move e6_13) ?_
    refine AT 2 rfl (hH19.sub sR) (fun w hS => run_move e8_13) ?_
    refine AT 3 rfl (hH19.sub sR) (fun w hS => run_indexAddrS (hS.sl (i := 0) rfl) underlying75 sizeOf9 rfl rfl (by first | omega | (simp only [texts_len] at *; omega))) ?_
    refine AT 4 rfl (hH19.sub sR) (fun w hS => run_ld underlying9 rfl rfl ((hS.sl (i := 0) rfl).cell _ _ (txL_at (by first | omega | (simp only [texts_len] at *; omega))))) ?_
    refine A1 5 ?_
    refine AO.callP rfl gnone rfl hH19 sR (c_clearanceref13_lives _ _  _ (hs.mono hH19.kw)) (run_call2 call34 rfl rfl) ?_
    intro w20 hH21
    refine AT 6 rfl (hH21.sub sR) (fun w hS => run_notP rfl) ?_
    refine AD ?_
    refine CW.condP rfl (fun h25 => ?_) (fun h25 => ?_)
    ·refine CW.region ?_
     refine V (run_move e5_13) ?_
     refine V (mV (I _) rfl) ?_
     refine V (run_bld (vs := [(0, I 3), (1, I _)]) rfl (built_fltL _ _)) ?_
     refine RL.new rfl hH21 (f := fun b => (.slice (some ⟨b, 0, none⟩) 1 1)) (run_mkRecs fltL_len underlying26 rfl rfl rfl (l := [(⟨3, (c.names.getD k.toNat wd0).place⟩ : Flt)]) rfl (by decide) (by decide) rfl) ?_
     intro b28 w26 hH27
     refine RL.app rfl hH27 (i := 2) rfl (Hp.slFlat fltL_len hH27 (i := 0) (l := [(⟨3, (c.names.getD k.toNat wd0).place⟩ : Flt)]) rfl (by simp [maxLen])) rfl rfl underlying26 rfl rfl (size := 2) (bytes := 16) rfl rfl rfl (by decide) (by simp [fltL, Value.oneCell']) (by simp only [List.length_cons, List.length_nil]; omega) (by simp only [maxLen, List.length_cons, List.length_nil]; omega) ?_
     intro v29 w30 hH31
     simp only [z0, z1] at hH31
     refine V (run_assign (by conv => lhs; whnf)) ?_
     refine RL.nil ?_
     refine CW.region ?_
     refine V (run_move e8_13) ?_
     refine V (run_add rfl rfl (by omega)) ?_
     refine V (aV (I _) rfl) ?_
     refine RL.nil ?_
     refine ⟨(k + 1, m ++ [⟨3, (c.names.getD k.toNat wd0).place⟩], v29), ?_, fr13.u4.u4.u4.u4.u4.u4.u4.u1.u1, (Hp.conv (hH31.sub (sQ sR)) (by first | rfl | simp)), rfl, (congrArg I (by first | rfl | omega)), ?_, ?_, ?_⟩
     ·simp only [texts_len] at *; omega
     ·omega
     ·simp only [texts_len] at *; omega
     ·simp only [texts_len] at *; rw [names_next h0, ← hm]; first | rw [nm_p1 h0 ‹k < _› ‹c.op = 3› ‹_›] | rw [nm_p2 h0 ‹k < _› ‹c.op = 3› (Decidable.of_not_not ‹¬ ¬ _›) ‹_›] | rw [nm_n1 ‹¬ c.op = 3› ‹_›] | rw [nm_n2 h0 ‹k < _› (by omega) ‹_›] | rw [nm_p3 h0 ‹k < _› ‹c.op = 3› (Decidable.of_not_not ‹¬ ¬ _›) ‹_›, List.append_nil] | rw [nm_n3 h0 ‹k < _› ‹¬ c.op = 3› ‹_› ‹_›, List.append_nil] | rw [nm_n4 ‹¬ c.op = 3› ‹_› (by omega), List.append_nil]
    ·refine CW.seq ?_
     refine CW.regionD (by kernel_rfl) hH21 ?_
     intro w32 hH33
     refine AT 0 rfl (hH33.sub sR) (fun w hS => run_ldA (cs := scpL _) underlying25 rfl rfl e2_13 (rangeAt_cells (hS.blk (i := 3) rfl))) ?_
     refine AT 1 rfl (hH33.sub sR) (fun w hS => run_move e6_13) ?_
     refine AT 2 rfl (hH33.sub sR) (fun w hS => run_move e8_13) ?_
     refine AT 3 rfl (hH33.sub sR) (fun w hS => run_indexAddrS (hS.sl (i := 0) rfl) underlying75 sizeOf9 rfl rfl (by first | omega | (simp only [texts_len] at *; omega))) ?_
     refine AT 4 rfl (hH33.sub sR) (fun w hS => run_ld underlying9 rfl rfl ((hS.sl (i := 0) rfl).cell _ _ (txL_at (by first | omega | (simp only [texts_len] at *; omega))))) ?_
     refine A1 5 ?_
     refine AO.callP rfl gnone rfl hH33 sR (c_clearanceref13_Lat _ _  _ (hs.mono hH33.kw)) (run_call2 call10 rfl rfl) ?_
     intro w34 hH35
     refine AT 6 rfl (hH35.sub sR) (fun w hS => run_lss rfl rfl) ?_
     refine AD ?_
     refine CW.condP rfl (fun h37 => ?_) (fun h37 => ?_)
     ·refine CW.region ?_
      refine V (run_move e5_13) ?_
      refine V (mV (I _) rfl) ?_
      refine V (run_bld (vs := [(0, I 4), (1, I _)]) rfl (built_fltL _ _)) ?_
      refine RL.new rfl hH35 (f := fun b => (.slice (some ⟨b, 0, none⟩) 1 1)) (run_mkRecs fltL_len underlying26 rfl rfl rfl (l := [(⟨4, (c.names.getD k.toNat wd0).place⟩ : Flt)]) rfl (by decide) (by decide) rfl) ?_
      intro b40 w38 hH39
      refine RL.app rfl hH39 (i := 2) rfl (Hp.slFlat fltL_len hH39 (i := 0) (l := [(⟨4, (c.names.getD k.toNat wd0).place⟩ : Flt)]) rfl (by simp [maxLen])) rfl rfl underlying26 rfl rfl (size := 2) (bytes := 16) rfl rfl rfl (by decide) (by simp [fltL, Value.oneCell']) (by simp only [List.length_cons, List.length_nil]; omega) (by simp only [maxLen, List.length_cons, List.length_nil]; omega) ?_
      intro v41 w42 hH43
      simp only [z0, z1] at hH43
      refine V (run_assign (by conv => lhs; whnf)) ?_
      refine RL.nil ?_
      refine CW.region ?_
      refine V (run_move e8_13) ?_
      refine V (run_add rfl rfl (by omega)) ?_
      refine V (aV (I _) rfl) ?_
      refine RL.nil ?_
      refine ⟨(k + 1, m ++ [⟨4, (c.names.getD k.toNat wd0).place⟩], v41), ?_, fr13.u4.u4.u4.u4.u4.u4.u4.u4.u4.u1, (Hp.conv (hH43.sub (sQ sR)) (by first | rfl | simp)), rfl, (congrArg I (by first | rfl | omega)), ?_, ?_, ?_⟩
      ·simp only [texts_len] at *; omega
      ·omega
      ·simp only [texts_len] at *; omega
      ·simp only [texts_len] at *; rw [names_next h0, ← hm]; first | rw [nm_p1 h0 ‹k < _› ‹c.op = 3› ‹_›] | rw [nm_p2 h0 ‹k < _› ‹c.op = 3› (Decidable.of_not_not ‹¬ ¬ _›) ‹_›] | rw [nm_n1 ‹¬ c.op = 3› ‹_›] | rw [nm_n2 h0 ‹k < _› (by omega) ‹_›] | rw [nm_p3 h0 ‹k < _› ‹c.op = 3› (Decidable.of_not_not ‹¬ ¬ _›) ‹_›, List.append_nil] | rw [nm_n3 h0 ‹k < _› ‹¬ c.op = 3› ‹_› ‹_›, List.append_nil] | rw [nm_n4 ‹¬ c.op = 3› ‹_› (by omega), List.append_nil]
     ·refine CW.skip ?_
      refine CW.region ?_
      refine V (run_move e8_13) ?_
      refine V (run_add rfl rfl (by omega)) ?_
      refine V (aV (I _) rfl) ?_
      refine RL.nil ?_
      refine ⟨(k + 1, m, v5), ?_, fr13.u4.u4.u4.u4.u4.u4.u4.u1.u1.u1, (Hp.conv hH35 (by first | rfl | simp)), e5_13, (congrArg I (by first | rfl | omega)), ?_, ?_, ?_⟩
      ·simp only [texts_len] at *; omega
      ·omega
      ·simp only [texts_len] at *; omega
      ·simp only [texts_len] at *; rw [names_next h0, ← hm]; first | rw [nm_p1 h0 ‹k < _› ‹c.op = 3› ‹_›] | rw [nm_p2 h0 ‹k < _› ‹c.op = 3› (Decidable.of_not_not ‹¬ ¬ _›) ‹_›] | rw [nm_n1 ‹¬ c.op = 3› ‹_›] | rw [nm_n2 h0 ‹k < _› (by omega) ‹_›] | rw [nm_p3 h0 ‹k < _› ‹c.op = 3› (Decidable.of_not_not ‹¬ ¬ _›) ‹_›, List.append_nil] | rw [nm_n3 h0 ‹k < _› ‹¬ c.op = 3› ‹_› ‹_›, List.append_nil] | rw [nm_n4 ‹¬ c.op = 3› ‹_› (by omega), List.append_nil]
   ·refine CW.seq ?_
    refine CW.regionD (by kernel_rfl) hH13 ?_
    intro w44 hH45
    refine AT 0 rfl (hH45.sub sR) (fun w hS => run_move e6_13) ?_
    refine AT 1 rfl (hH45.sub sR) (fun w hS => run_move e6_13) ?_
    refine AT 2 rfl (hH45.sub sR) (fun w hS => run_move e8_13) ?_
    refine AT 3 rfl (hH45.sub sR) (fun w hS => run_indexAddrS (hS.sl (i := 0) rfl) underlying75 sizeOf9 rfl rfl (by first | omega | (simp only [texts_len] at *; omega))) ?_
    refine AT 4 rfl (hH45.sub sR) (fun w hS => run_ld underlying9 rfl rfl ((hS.sl (i := 0) rfl).cell _ _ (txL_at (by first | omega | (simp only [texts_len] at *; omega))))) ?_
    refine AT 6 rfl (hH45.sub sR) (fun w hS => run_move e8_13) ?_
    refine A1 5 ?_
    refine AO.callP rfl gnone rfl hH45 sR (c_clearanceref02_Find _ _ _  _ (hH45.sl (i := 0) rfl)) (run_call2 call61 rfl rfl) ?_
    intro w46 hH47
    refine AT 7 rfl (hH47.sub sR) (fun w hS => run_lss rfl rfl) ?_
    refine AT 8 rfl (hH47.sub sR) (fun w hS => mV (B _) rfl) ?_
    refine AN.splitP (dj := 70) rfl (fun h49 => ?_) (fun h49 => ?_)
    ·refine AK 9 rfl rfl (bT h49) (hH47.sub sR) ?_
     refine AK 10 rfl rfl (bT h49) (hH47.sub sR) ?_
     refine AU 11 rfl rfl rfl (hH47.sub sR) ?_
     refine AU 12 rfl rfl rfl (hH47.sub sR) ?_
     refine AU 13 rfl rfl rfl (hH47.sub sR) ?_
     refine AU 14 rfl rfl rfl (hH47.sub sR) ?_
     refine AU 15 rfl rfl rfl (hH47.sub sR) ?_
     refine AU 16 rfl rfl rfl (hH47.sub sR) ?_
     refine AK 17 rfl rfl (bT h49) (hH47.sub sR) ?_
     refine AT 18 rfl (hH47.sub sR) (fun w hS => run_pickT (bT h49) (v := B true) rfl) ?_
     refine AD ?_
     refine CW.condT rfl ?_
     refine CW.region ?_
     refine V (run_move e5_13) ?_
     refine V (mV (I _) rfl) ?_
     refine V (run_bld (vs := [(0, I 3), (1, I _)]) rfl (built_fltL _ _)) ?_
     refine RL.new rfl hH47 (f := fun b => (.slice (some ⟨b, 0, none⟩) 1 1)) (run_mkRecs fltL_len underlying26 rfl rfl rfl (l := [(⟨3, (c.names.getD k.toNat wd0).place⟩ : Flt)]) rfl (by decide) (by decide) rfl) ?_
     intro b52 w50 hH51
     refine RL.app rfl hH51 (i := 2) rfl (Hp.slFlat fltL_len hH51 (i := 0) (l := [(⟨3, (c.names.getD k.toNat wd0).place⟩ : Flt)]) rfl (by simp [maxLen])) rfl rfl underlying26 rfl rfl (size := 2) (bytes := 16) rfl rfl rfl (by decide) (by simp [fltL, Value.oneCell']) (by simp only [List.length_cons, List.length_nil]; omega) (by simp only [maxLen, List.length_cons, List.length_nil]; omega) ?_
     intro v53 w54 hH55
     simp only [z0, z1] at hH55
     refine V (run_assign (by conv => lhs; whnf)) ?_
     refine RL.nil ?_
     refine CW.region ?_
     refine V (run_move e8_13) ?_
     refine V (run_add rfl rfl (by omega)) ?_
     refine V (aV (I _) rfl) ?_
     refine RL.nil ?_
     refine ⟨(k + 1, m ++ [⟨3, (c.names.getD k.toNat wd0).place⟩], v53), ?_, fr13.u4.u4.u4.u4.u4.u4.u4.u4.u4.u4.u1.u1, (Hp.conv (hH55.sub (sQ sR)) (by first | rfl | simp)), rfl, (congrArg I (by first | rfl | omega)), ?_, ?_, ?_⟩
     ·simp only [texts_len] at *; omega
     ·omega
     ·simp only [texts_len] at *; omega
     ·simp only [texts_len] at *; rw [names_next h0, ← hm]; first | rw [nm_p1 h0 ‹k < _› ‹c.op = 3› ‹_›] | rw [nm_p2 h0 ‹k < _› ‹c.op = 3› (Decidable.of_not_not ‹¬ ¬ _›) ‹_›] | rw [nm_n1 ‹¬ c.op = 3› ‹_›] | rw [nm_n2 h0 ‹k < _› (by omega) ‹_›] | rw [nm_p3 h0 ‹k < _› ‹c.op = 3› (Decidable.of_not_not ‹¬ ¬ _›) ‹_›, List.append_nil] | rw [nm_n3 h0 ‹k < _› ‹¬ c.op = 3› ‹_› ‹_›, List.append_nil] | rw [nm_n4 ‹¬ c.op = 3› ‹_› (by omega), List.append_nil]
    ·refine AG 9 rfl rfl (bF h49) (hH47.sub sR) (fun w hS => run_move e7_13) ?_
     refine AG 10 rfl rfl (bF h49) (hH47.sub sR) (fun w hS => mV (B _) rfl) ?_
     refine AG 11 rfl rfl rfl (hH47.sub sR) (fun w hS => run_ldA (cs := scpL _) underlying25 rfl rfl e2_13 (rangeAt_cells (hS.blk (i := 3) rfl))) ?_
     refine AG 12 rfl rfl rfl (hH47.sub sR) (fun w hS => run_move e6_13) ?_
     refine AG 13 rfl rfl rfl (hH47.sub sR) (fun w hS => run_move e8_13) ?_
     refine AG 14 rfl rfl rfl (hH47.sub sR) (fun w hS => run_indexAddrS (hS.sl (i := 0) rfl) underlying75 sizeOf9 rfl rfl (by first | omega | (simp only [texts_len] at *; omega))) ?_
     refine AG 15 rfl rfl rfl (hH47.sub sR) (fun w hS => run_ld underlying9 rfl rfl ((hS.sl (i := 0) rfl).cell _ _ (txL_at (by first | omega | (simp only [texts_len] at *; omega))))) ?_
     refine A1 16 ?_
     refine AO.callP rfl (gsome rfl rfl) rfl hH47 sR (c_clearanceref13_lives _ _  _ (hs.mono hH47.kw)) (run_call2 call34 rfl rfl) ?_
     intro w56 hH57
     refine AG 17 rfl rfl (bF h49) (hH57.sub sR) (fun w hS => run_pickT rfl (v := B _) rfl) ?_
     refine AT 18 rfl (hH57.sub sR) (fun w hS => run_pickF (bF h49) (v := B _) rfl) ?_
     refine AD ?_
     refine CW.condP rfl (fun h60 => ?_) (fun h60 => ?_)
     ·refine CW.region ?_
      refine V (run_move e5_13) ?_
      refine V (mV (I _) rfl) ?_
      refine V (run_bld (vs := [(0, I 3), (1, I _)]) rfl (built_fltL _ _)) ?_
      refine RL.new rfl hH57 (f := fun b => (.slice (some ⟨b, 0, none⟩) 1 1)) (run_mkRecs fltL_len underlying26 rfl rfl rfl (l := [(⟨3, (c.names.getD k.toNat wd0).place⟩ : Flt)]) rfl (by decide) (by decide) rfl) ?_
      intro b63 w61 hH62
      refine RL.app rfl hH62 (i := 2) rfl (Hp.slFlat fltL_len hH62 (i := 0) (l := [(⟨3, (c.names.getD k.toNat wd0).place⟩ : Flt)]) rfl (by simp [maxLen])) rfl rfl underlying26 rfl rfl (size := 2) (bytes := 16) rfl rfl rfl (by decide) (by simp [fltL, Value.oneCell']) (by simp only [List.length_cons, List.length_nil]; omega) (by simp only [maxLen, List.length_cons, List.length_nil]; omega) ?_
      intro v64 w65 hH66
      simp only [z0, z1] at hH66
      refine V (run_assign (by conv => lhs; whnf)) ?_
      refine RL.nil ?_
      refine CW.region ?_
      refine V (run_move e8_13) ?_
      refine V (run_add rfl rfl (by omega)) ?_
      refine V (aV (I _) rfl) ?_
      refine RL.nil ?_
      refine ⟨(k + 1, m ++ [⟨3, (c.names.getD k.toNat wd0).place⟩], v64), ?_, fr13.u4.u4.u4.u4.u4.u4.u4.u4.u4.u4.u1.u1, (Hp.conv (hH66.sub (sQ sR)) (by first | rfl | simp)), rfl, (congrArg I (by first | rfl | omega)), ?_, ?_, ?_⟩
      ·simp only [texts_len] at *; omega
      ·omega
      ·simp only [texts_len] at *; omega
      ·simp only [texts_len] at *; rw [names_next h0, ← hm]; first | rw [nm_p1 h0 ‹k < _› ‹c.op = 3› ‹_›] | rw [nm_p2 h0 ‹k < _› ‹c.op = 3› (Decidable.of_not_not ‹¬ ¬ _›) ‹_›] | rw [nm_n1 ‹¬ c.op = 3› ‹_›] | rw [nm_n2 h0 ‹k < _› (by omega) ‹_›] | rw [nm_p3 h0 ‹k < _› ‹c.op = 3› (Decidable.of_not_not ‹¬ ¬ _›) ‹_›, List.append_nil] | rw [nm_n3 h0 ‹k < _› ‹¬ c.op = 3› ‹_› ‹_›, List.append_nil] | rw [nm_n4 ‹¬ c.op = 3› ‹_› (by omega), List.append_nil]
     ·refine CW.skip ?_
      refine CW.region ?_
      refine V (run_move e8_13) ?_
      refine V (run_add rfl rfl (by omega)) ?_
      refine V (aV (I _) rfl) ?_
      refine RL.nil ?_
      refine ⟨(k + 1, m, v5), ?_, fr13.u4.u4.u4.u4.u4.u4.u4.u4.u4, (Hp.conv hH57 (by first | rfl | simp)), e5_13, (congrArg I (by first | rfl | omega)), ?_, ?_, ?_⟩
      ·simp only [texts_len] at *; omega
      ·omega
      ·simp only [texts_len] at *; omega
      ·simp only [texts_len] at *; rw [names_next h0, ← hm]; first | rw [nm_p1 h0 ‹k < _› ‹c.op = 3› ‹_›] | rw [nm_p2 h0 ‹k < _› ‹c.op = 3› (Decidable.of_not_not ‹¬ ¬ _›) ‹_›] | rw [nm_n1 ‹¬ c.op = 3› ‹_›] | rw [nm_n2 h0 ‹k < _› (by omega) ‹_›] | rw [nm_p3 h0 ‹k < _› ‹c.op = 3› (Decidable.of_not_not ‹¬ ¬ _›) ‹_›, List.append_nil] | rw [nm_n3 h0 ‹k < _› ‹¬ c.op = 3› ‹_› ‹_›, List.append_nil] | rw [nm_n4 ‹¬ c.op = 3› ‹_› (by omega), List.append_nil]
  ·refine CW.exit (id := 0) rfl ?_
   refine CW.seq ?_
   refine SR ?_
   refine V (aV (I 0) rfl) ?_
   refine RL.nil ?_
   refine CW.block ?_
   have hk2 : k = c.names.length := by simp only [texts_len] at *; omega
   rw [hk2] at hm
   refine CW.loop (G := (Int) × (List Flt) × (Value)) (fun (⟨i, m1, v5⟩ : (Int) × (List Flt) × (Value)) s' w' => (Fr [5, 10, 11, 86, 87, 88, 89, 90, 91, 92, 93, 94, 95, 96, 97, 98, 99, 100, 101, 102, 103, 104, 105, 106, 107, 108, 109, 110, 111, 112, 113, 114, 115, 116, 117, 118, 119] _ s') ∧ (Hp w w' (_ :: .row v5 33 2 (m1.length) (m1.flatMap fltL) :: _)) ∧ (s' 5 = v5) ∧ (s' 10 = I i) ∧ (0 ≤ i) ∧ (i ≤ c.pairs.length) ∧ (m1 = m ++ pairsTo c i) ∧ (m1.length ≤ 300 + 2 * i.toNat)) (fun (⟨i, m1, v5⟩ : (Int) × (List Flt) × (Value)) => (c.pairs.length - i).toNat) ((0, m, (v5 : Value))) ⟨Fr.refl _ _, hH13, e5_13, rfl, (by omega), (by omega), (List.append_nil m).symm, (by omega)⟩ ?_
   rintro ⟨i, m1, v5⟩ sg67 w67 ⟨fr67, hH67, e5_67, e10_67, i0, i1, hm3, hml1⟩
   have e3_67 := (fr67 3 rfl).trans e3_13
   have e4_67 := (fr67 4 rfl).trans e4_13
   have e6_67 := (fr67 6 rfl).trans e6_13
   refine CW.seq ?_
   refine SR ?_
   refine V (run_move e10_67) ?_
   refine V (fA underlying45 5 rfl sizeOf40 e3_67) ?_
   refine V (run_ldV (hc.pairs.sl.hp hH67) underlying40 rfl rfl (hH67.cell (i := 2) rfl rfl)) ?_
   refine V (run_lenSl (hc.pairs.sl.hp hH67) rfl underlying40 rfl) ?_
   refine V (run_lss rfl rfl) ?_
   refine RL.nil ?_
   refine CW.condP rfl (fun h69 => ?_) (fun h69 => ?_)
   ·refine CW.skip ?_
    refine CW.seq ?_
    refine CW.block ?_
    refine SR ?_
    refine V (aV (I 0) rfl) ?_
    refine RL.nil ?_
    refine CW.block ?_
    refine CW.loop (G := (Int) × (List Flt) × (Value)) (fun (⟨j, m2, v5⟩ : (Int) × (List Flt) × (Value)) s' w' => (Fr [5, 11, 93, 94, 95, 96, 97, 98, 99, 100, 101, 102, 103, 104, 105, 106, 107, 108, 109, 110, 111, 112, 113, 114, 115, 116, 117, 118, 119] _ s') ∧ (Hp w w' (_ :: .row v5 33 2 (m2.length) (m2.flatMap fltL) :: _)) ∧ (s' 5 = v5) ∧ (s' 11 = I j) ∧ (0 ≤ j) ∧ (j ≤ 2) ∧ (m2 = m1 ++ missTo c (c.pairs.getD i.toNat pw0) j) ∧ (m2.length ≤ m1.length + j.toNat)) (fun (⟨j, m2, v5⟩ : (Int) × (List Flt) × (Value)) => (2 - j).toNat) ((0, m1, (v5 : Value))) ⟨Fr.refl _ _, hH67, e5_67, rfl, (by omega), (by omega), (List.append_nil m1).symm, (by omega)⟩ ?_
    rintro ⟨j, m2, v5⟩ sg70 w70 ⟨fr70, hH70, e5_70, e11_70, j0, j1, hm4, hml2⟩
    have e3_70 := (fr70 3 rfl).trans e3_67
    have e4_70 := (fr70 4 rfl).trans e4_67
    have e6_70 := (fr70 6 rfl).trans e6_67
    have e10_70 := (fr70 10 rfl).trans e10_67
    have e86_70 : sg70 86 = I _ := (fr70 86 rfl).trans rfl
    have e87_70 : sg70 87 = Pn _ _ := (fr70 87 rfl).trans rfl
    have e88_70 := (fr70 88 rfl).trans (by conv => lhs; whnf)
    have e89_70 : sg70 89 = I _ := (fr70 89 rfl).trans rfl
    have e90_70 : sg70 90 = B _ := (fr70 90 rfl).trans rfl
    refine CW.seq ?_
    refine SR ?_
    refine V (run_move e11_70) ?_
    refine V (run_lss rfl rfl) ?_
    refine RL.nil ?_
    refine CW.condP rfl (fun h72 => ?_) (fun h72 => ?_)
    ·refine CW.skip ?_
     refine CW.seq ?_
     refine CW.block ?_
     refine SR ?_
     refine V (run_move e6_70) ?_
     refine V (fA underlying45 5 rfl sizeOf40 e3_70) ?_
     refine V (run_ldV (hc.pairs.sl.hp hH70) underlying40 rfl rfl (hH70.cell (i := 2) rfl rfl)) ?_
     refine V (run_move e10_70) ?_
     refine V (run_move e11_70) ?_
     refine V (run_indexAddrS (hc.pairs.sl.hp hH70) underlying40 sizeOf79 rfl rfl (by first | omega | (simp only [texts_len] at *; omega))) ?_
     refine V (run_indexAddrA underlying79 sizeOf38 rfl rfl (by first | omega | (simp only [texts_len] at *; omega))) ?_
     refine V (fA underlying38 0 rfl sizeOf9 rfl) ?_
     refine V (run_ldPwT ((hc.pairs.sl).hp hH70) underlying9 rfl rfl (by omega) (by omega)) ?_
     refine RL.callP rfl hH70 (c_clearanceref02_Find _ _ _  _ (hH70.sl (i := 0) rfl)) (run_call2 call61 rfl rfl) ?_
     intro w73 hH74
     refine V (run_lss rfl rfl) ?_
     refine RL.nil ?_
     refine CW.condP rfl (fun h76 => ?_) (fun h76 => ?_)
     ·refine CW.region ?_
      refine V (run_move e5_70) ?_
      refine V (fA underlying45 5 rfl sizeOf40 e3_70) ?_
      refine V (run_ldV (hc.pairs.sl.hp hH74) underlying40 rfl rfl (hH74.cell (i := 2) rfl rfl)) ?_
      refine V (run_move e10_70) ?_
      refine V (run_move e11_70) ?_
      refine V (run_indexAddrS (hc.pairs.sl.hp hH74) underlying40 sizeOf79 rfl rfl (by first | omega | (simp only [texts_len] at *; omega))) ?_
      refine V (run_indexAddrA underlying79 sizeOf38 rfl rfl (by first | omega | (simp only [texts_len] at *; omega))) ?_
      refine V (fA underlying38 1 rfl sizeOf3 rfl) ?_
      refine V (run_ldPwI ((hc.pairs.sl).hp hH74) underlying3 rfl rfl (by omega) (by omega)) ?_
      refine V (run_bld (vs := [(0, I 3), (1, I _)]) rfl (built_fltL _ _)) ?_
      refine RL.new rfl hH74 (f := fun b => (.slice (some ⟨b, 0, none⟩) 1 1)) (run_mkRecs fltL_len underlying26 rfl rfl rfl (l := [(⟨3, (wordAt (c.pairs.getD i.toNat pw0) j).place⟩ : Flt)]) rfl (by decide) (by decide) rfl) ?_
      intro b79 w77 hH78
      refine RL.app rfl hH78 (i := 2) rfl (Hp.slFlat fltL_len hH78 (i := 0) (l := [(⟨3, (wordAt (c.pairs.getD i.toNat pw0) j).place⟩ : Flt)]) rfl (by simp [maxLen])) rfl rfl underlying26 rfl rfl (size := 2) (bytes := 16) rfl rfl rfl (by decide) (by simp [fltL, Value.oneCell']) (by simp only [List.length_cons, List.length_nil]; omega) (by simp only [maxLen, List.length_cons, List.length_nil]; omega) ?_
      intro v80 w81 hH82
      simp only [z0, z1] at hH82
      refine V (run_assign (by conv => lhs; whnf)) ?_
      refine RL.nil ?_
      refine CW.region ?_
      refine V (run_move e11_70) ?_
      refine V (run_add rfl rfl (by omega)) ?_
      refine V (aV (I _) rfl) ?_
      refine RL.nil ?_
      refine ⟨(j + 1, m2 ++ [⟨3, (wordAt (c.pairs.getD i.toNat pw0) j).place⟩], v80), ?_, fr70.u4.u4.u4.u4.u4.u4.u4.u1, (Hp.conv (hH82.sub (sQ sR)) (by first | rfl | simp)), rfl, (congrArg I (by first | rfl | omega)), ?_, ?_, ?_, ?_⟩
      ·((try dsimp only); omega)
      ·omega
      ·omega
      ·rw [miss_next j0, ← List.append_assoc, ← hm4]; first | rw [miss_yes ‹_›] | rw [miss_no ‹_›, List.append_nil]
      ·first | omega | (simp only [List.length_append, List.length_singleton]; omega)
     ·refine CW.skip ?_
      refine CW.region ?_
      refine V (run_move e11_70) ?_
      refine V (run_add rfl rfl (by omega)) ?_
      refine V (aV (I _) rfl) ?_
      refine RL.nil ?_
      refine ⟨(j + 1, m2, v5), ?_, fr70.u4.u4.u4.u4, (Hp.conv hH74 (by first | rfl | simp)), e5_70, (congrArg I (by first | rfl | omega)), ?_, ?_, ?_, ?_⟩
      ·((try dsimp only); omega)
      ·omega
      ·omega
      ·rw [miss_next j0, ← List.append_assoc, ← hm4]; first | rw [miss_yes ‹_›] | rw [miss_no ‹_›, List.append_nil]
      ·first | omega | (simp only [List.length_append, List.length_singleton]; omega)
    ·refine CW.exit (id := 4) rfl ?_
     refine CW.region ?_
     refine V (run_move e10_70) ?_
     refine V (run_add rfl rfl (by omega)) ?_
     refine V (aV (I _) rfl) ?_
     refine RL.nil ?_
     refine ⟨(i + 1, m2, v5), ?_, (((fr67.u4.u1.u1).t fr70 rfl)).u4.u1, (Hp.conv hH70 (by first | rfl | simp)), e5_70, (congrArg I (by first | rfl | omega)), ?_, ?_, ?_, ?_⟩
     ·((try dsimp only); omega)
     ·omega
     ·omega
     ·(rw [hm4, show j = 2 by omega, miss_two, hm3, pairs_next i0, List.append_assoc])
     ·omega
   ·refine CW.exit (id := 2) rfl ?_
    refine SR ?_
    refine V (run_move e5_67) ?_
    refine V (run_assign (by conv => lhs; whnf)) ?_
    refine RL.nil ?_
    refine CW.ret ?_
    exact outR Tryd.results33 rfl hH67 (i := 1) rfl (by rw [hm3, hm, namedL, show i = c.pairs.length by omega]) (by rw [hm3, hm, namedL, show i = c.pairs.length by omega])
 ·refine RL.gT rfl (bF h12) ?_
  refine V (fA underlying45 0 rfl sizeOf3 rfl) ?_
  refine RL.gT rfl (bF h12) ?_
  refine V (run_ld underlying3 rfl rfl (hH9.cell (i := 2) rfl (v := I _) rfl)) ?_
  refine RL.gT rfl (bF h12) ?_
  refine V (run_eql rfl rfl) ?_
  refine V (run_pickF (bF h12) (v := B _) rfl) ?_
  refine V (aV (B _) rfl) ?_
  refine RL.nil ?_
  refine CW.seq ?_
  refine SR ?_
  refine V (aV (I 0) rfl) ?_
  refine RL.nil ?_
  refine CW.block ?_
  refine CW.loop (G := (Int) × (List Flt) × (Value)) (fun (⟨k, m, v5⟩ : (Int) × (List Flt) × (Value)) s' w' => (Fr [5, 8, 9, 23, 24, 25, 26, 27, 28, 29, 30, 31, 32, 33, 34, 35, 36, 37, 38, 39, 40, 41, 42, 43, 44, 45, 46, 47, 48, 49, 50, 51, 52, 53, 54, 55, 56, 57, 58, 59, 60, 61, 62, 63, 64, 65, 66, 67, 68, 69, 70, 71, 72, 73, 74, 75, 76, 77, 78, 79, 80, 81, 82, 83, 84, 85] _ s') ∧ (Hp w w' (_ :: .row v5 33 2 (m.length) (m.flatMap fltL) :: _)) ∧ (s' 5 = v5) ∧ (s' 8 = I k) ∧ (0 ≤ k) ∧ (k ≤ c.names.length) ∧ (m = namesTo s c k)) (fun (⟨k, m, v5⟩ : (Int) × (List Flt) × (Value)) => (c.names.length - k).toNat) ((0, [], (.slice none 0 0 : Value))) ⟨Fr.refl _ _, hH9, rfl, rfl, (by omega), (by omega), rfl⟩ ?_
  rintro ⟨k, m, v5⟩ sg84 w84 ⟨fr84, hH84, e5_84, e8_84, h0, hk, hm⟩
  have e2_84 : sg84 2 = Pn _ _ := (fr84 2 rfl).trans rfl
  have e3_84 : sg84 3 = Pn _ _ := (fr84 3 rfl).trans rfl
  have e4_84 := (fr84 4 rfl).trans (by conv => lhs; whnf)
  have e6_84 := (fr84 6 rfl).trans (by conv => lhs; whnf)
  have e7_84 : sg84 7 = B _ := (fr84 7 rfl).trans rfl
  have hml := names_len s c k
  rw [← hm] at hml
  refine CW.seq ?_
  refine SR ?_
  refine V (run_move e8_84) ?_
  refine V (run_move e6_84) ?_
  refine V (run_lenSl (hH84.sl (i := 0) rfl) rfl underlying75 rfl) ?_
  refine V (run_lss rfl rfl) ?_
  refine RL.nil ?_
  refine CW.condP rfl (fun h86 => ?_) (fun h86 => ?_)
  ·refine CW.skip ?_
   refine CW.seq ?_
   refine CW.block ?_
   refine SR ?_
   refine V (fA underlying45 4 rfl sizeOf39 e3_84) ?_
   refine V (run_ldV (hc.names.sl.hp hH84) underlying39 rfl rfl (hH84.cell (i := 2) rfl rfl)) ?_
   refine V (run_move e8_84) ?_
   refine V (run_indexAddrS (hc.names.sl.hp hH84) underlying39 sizeOf38 rfl rfl (by first | omega | (simp only [texts_len] at *; omega))) ?_
   refine V (fA underlying38 1 rfl sizeOf3 rfl) ?_
   refine V (run_ldE1 (dv := wd0) (off := 1) wdL_len (hc.names.sl.hp hH84) underlying3 rfl rfl (by first | omega | (simp only [texts_len] at *; omega)) rfl) ?_
   refine V (aV (I _) rfl) ?_
   refine RL.nil ?_
   refine SR ?_
   refine V (fA underlying45 0 rfl sizeOf3 e3_84) ?_
   refine V (run_ld underlying3 rfl rfl (hH84.cell (i := 2) rfl (v := I _) rfl)) ?_
   refine V (run_eql rfl rfl) ?_
   refine RL.nil ?_
   refine CW.condP rfl (fun h88 => ?_) (fun h88 => ?_)
   ·refine CW.seq ?_
    refine CW.regionD (by kernel_rfl) hH84 ?_
    intro w89 hH90
    refine AT 0 rfl (hH90.sub sR) (fun w hS => run_ldA (cs := scpL _) underlying25 rfl rfl e2_84 (rangeAt_cells (hS.blk (i := 3) rfl))) ?_
    refine AT 1 rfl (hH90.sub sR) (fun w hS => run_move e6_84) ?_
    refine AT 2 rfl (hH90.sub sR) (fun w hS => run_move e8_84) ?_
    refine AT 3 rfl (hH90.sub sR) (fun w hS => run_indexAddrS (hS.sl (i := 0) rfl) underlying75 sizeOf9 rfl rfl (by first | omega | (simp only [texts_len] at *; omega))) ?_
    refine AT 4 rfl (hH90.sub sR) (fun w hS => run_ld underlying9 rfl rfl ((hS.sl (i := 0) rfl).cell _ _ (txL_at (by first | omega | (simp only [texts_len] at *; omega))))) ?_
    refine A1 5 ?_
    refine AO.callP rfl gnone rfl hH90 sR (c_clearanceref13_lives _ _  _ (hs.mono hH90.kw)) (run_call2 call34 rfl rfl) ?_
    intro w91 hH92
    refine AT 6 rfl (hH92.sub sR) (fun w hS => run_notP rfl) ?_
    refine AD ?_
    refine CW.condP rfl (fun h96 => ?_) (fun h96 => ?_)
    ·refine CW.region ?_
     refine V (run_move e5_84) ?_
     refine V (mV (I _) rfl) ?_
     refine V (run_bld (vs := [(0, I 3), (1, I _)]) rfl (built_fltL _ _)) ?_
     refine RL.new rfl hH92 (f := fun b => (.slice (some ⟨b, 0, none⟩) 1 1)) (run_mkRecs fltL_len underlying26 rfl rfl rfl (l := [(⟨3, (c.names.getD k.toNat wd0).place⟩ : Flt)]) rfl (by decide) (by decide) rfl) ?_
     intro b99 w97 hH98
     refine RL.app rfl hH98 (i := 2) rfl (Hp.slFlat fltL_len hH98 (i := 0) (l := [(⟨3, (c.names.getD k.toNat wd0).place⟩ : Flt)]) rfl (by simp [maxLen])) rfl rfl underlying26 rfl rfl (size := 2) (bytes := 16) rfl rfl rfl (by decide) (by simp [fltL, Value.oneCell']) (by simp only [List.length_cons, List.length_nil]; omega) (by simp only [maxLen, List.length_cons, List.length_nil]; omega) ?_
     intro v100 w101 hH102
     simp only [z0, z1] at hH102
     refine V (run_assign (by conv => lhs; whnf)) ?_
     refine RL.nil ?_
     refine CW.region ?_
     refine V (run_move e8_84) ?_
     refine V (run_add rfl rfl (by omega)) ?_
     refine V (aV (I _) rfl) ?_
     refine RL.nil ?_
     refine ⟨(k + 1, m ++ [⟨3, (c.names.getD k.toNat wd0).place⟩], v100), ?_, fr84.u4.u4.u4.u4.u4.u4.u4.u1.u1, (Hp.conv (hH102.sub (sQ sR)) (by first | rfl | simp)), rfl, (congrArg I (by first | rfl | omega)), ?_, ?_, ?_⟩
     ·simp only [texts_len] at *; omega
     ·omega
     ·simp only [texts_len] at *; omega
     ·simp only [texts_len] at *; rw [names_next h0, ← hm]; first | rw [nm_p1 h0 ‹k < _› ‹c.op = 3› ‹_›] | rw [nm_p2 h0 ‹k < _› ‹c.op = 3› (Decidable.of_not_not ‹¬ ¬ _›) ‹_›] | rw [nm_n1 ‹¬ c.op = 3› ‹_›] | rw [nm_n2 h0 ‹k < _› (by omega) ‹_›] | rw [nm_p3 h0 ‹k < _› ‹c.op = 3› (Decidable.of_not_not ‹¬ ¬ _›) ‹_›, List.append_nil] | rw [nm_n3 h0 ‹k < _› ‹¬ c.op = 3› ‹_› ‹_›, List.append_nil] | rw [nm_n4 ‹¬ c.op = 3› ‹_› (by omega), List.append_nil]
    ·refine CW.seq ?_
     refine CW.regionD (by kernel_rfl) hH92 ?_
     intro w103 hH104
     refine AT 0 rfl (hH104.sub sR) (fun w hS => run_ldA (cs := scpL _) underlying25 rfl rfl e2_84 (rangeAt_cells (hS.blk (i := 3) rfl))) ?_
     refine AT 1 rfl (hH104.sub sR) (fun w hS => run_move e6_84) ?_
     refine AT 2 rfl (hH104.sub sR) (fun w hS => run_move e8_84) ?_
     refine AT 3 rfl (hH104.sub sR) (fun w hS => run_indexAddrS (hS.sl (i := 0) rfl) underlying75 sizeOf9 rfl rfl (by first | omega | (simp only [texts_len] at *; omega))) ?_
     refine AT 4 rfl (hH104.sub sR) (fun w hS => run_ld underlying9 rfl rfl ((hS.sl (i := 0) rfl).cell _ _ (txL_at (by first | omega | (simp only [texts_len] at *; omega))))) ?_
     refine A1 5 ?_
     refine AO.callP rfl gnone rfl hH104 sR (c_clearanceref13_Lat _ _  _ (hs.mono hH104.kw)) (run_call2 call10 rfl rfl) ?_
     intro w105 hH106
     refine AT 6 rfl (hH106.sub sR) (fun w hS => run_lss rfl rfl) ?_
     refine AD ?_
     refine CW.condP rfl (fun h108 => ?_) (fun h108 => ?_)
     ·refine CW.region ?_
      refine V (run_move e5_84) ?_
      refine V (mV (I _) rfl) ?_
      refine V (run_bld (vs := [(0, I 4), (1, I _)]) rfl (built_fltL _ _)) ?_
      refine RL.new rfl hH106 (f := fun b => (.slice (some ⟨b, 0, none⟩) 1 1)) (run_mkRecs fltL_len underlying26 rfl rfl rfl (l := [(⟨4, (c.names.getD k.toNat wd0).place⟩ : Flt)]) rfl (by decide) (by decide) rfl) ?_
      intro b111 w109 hH110
      refine RL.app rfl hH110 (i := 2) rfl (Hp.slFlat fltL_len hH110 (i := 0) (l := [(⟨4, (c.names.getD k.toNat wd0).place⟩ : Flt)]) rfl (by simp [maxLen])) rfl rfl underlying26 rfl rfl (size := 2) (bytes := 16) rfl rfl rfl (by decide) (by simp [fltL, Value.oneCell']) (by simp only [List.length_cons, List.length_nil]; omega) (by simp only [maxLen, List.length_cons, List.length_nil]; omega) ?_
      intro v112 w113 hH114
      simp only [z0, z1] at hH114
      refine V (run_assign (by conv => lhs; whnf)) ?_
      refine RL.nil ?_
      refine CW.region ?_
      refine V (run_move e8_84) ?_
      refine V (run_add rfl rfl (by omega)) ?_
      refine V (aV (I _) rfl) ?_
      refine RL.nil ?_
      refine ⟨(k + 1, m ++ [⟨4, (c.names.getD k.toNat wd0).place⟩], v112), ?_, fr84.u4.u4.u4.u4.u4.u4.u4.u4.u4.u1, (Hp.conv (hH114.sub (sQ sR)) (by first | rfl | simp)), rfl, (congrArg I (by first | rfl | omega)), ?_, ?_, ?_⟩
      ·simp only [texts_len] at *; omega
      ·omega
      ·simp only [texts_len] at *; omega
      ·simp only [texts_len] at *; rw [names_next h0, ← hm]; first | rw [nm_p1 h0 ‹k < _› ‹c.op = 3› ‹_›] | rw [nm_p2 h0 ‹k < _› ‹c.op = 3› (Decidable.of_not_not ‹¬ ¬ _›) ‹_›] | rw [nm_n1 ‹¬ c.op = 3› ‹_›] | rw [nm_n2 h0 ‹k < _› (by omega) ‹_›] | rw [nm_p3 h0 ‹k < _› ‹c.op = 3› (Decidable.of_not_not ‹¬ ¬ _›) ‹_›, List.append_nil] | rw [nm_n3 h0 ‹k < _› ‹¬ c.op = 3› ‹_› ‹_›, List.append_nil] | rw [nm_n4 ‹¬ c.op = 3› ‹_› (by omega), List.append_nil]
     ·refine CW.skip ?_
      refine CW.region ?_
      refine V (run_move e8_84) ?_
      refine V (run_add rfl rfl (by omega)) ?_
      refine V (aV (I _) rfl) ?_
      refine RL.nil ?_
      refine ⟨(k + 1, m, v5), ?_, fr84.u4.u4.u4.u4.u4.u4.u4.u1.u1.u1, (Hp.conv hH106 (by first | rfl | simp)), e5_84, (congrArg I (by first | rfl | omega)), ?_, ?_, ?_⟩
      ·simp only [texts_len] at *; omega
      ·omega
      ·simp only [texts_len] at *; omega
      ·simp only [texts_len] at *; rw [names_next h0, ← hm]; first | rw [nm_p1 h0 ‹k < _› ‹c.op = 3› ‹_›] | rw [nm_p2 h0 ‹k < _› ‹c.op = 3› (Decidable.of_not_not ‹¬ ¬ _›) ‹_›] | rw [nm_n1 ‹¬ c.op = 3› ‹_›] | rw [nm_n2 h0 ‹k < _› (by omega) ‹_›] | rw [nm_p3 h0 ‹k < _› ‹c.op = 3› (Decidable.of_not_not ‹¬ ¬ _›) ‹_›, List.append_nil] | rw [nm_n3 h0 ‹k < _› ‹¬ c.op = 3› ‹_› ‹_›, List.append_nil] | rw [nm_n4 ‹¬ c.op = 3› ‹_› (by omega), List.append_nil]
   ·refine CW.seq ?_
    refine CW.regionD (by kernel_rfl) hH84 ?_
    intro w115 hH116
    refine AT 0 rfl (hH116.sub sR) (fun w hS => run_move e6_84) ?_
    refine AT 1 rfl (hH116.sub sR) (fun w hS => run_move e6_84) ?_
    refine AT 2 rfl (hH116.sub sR) (fun w hS => run_move e8_84) ?_
    refine AT 3 rfl (hH116.sub sR) (fun w hS => run_indexAddrS (hS.sl (i := 0) rfl) underlying75 sizeOf9 rfl rfl (by first | omega | (simp only [texts_len] at *; omega))) ?_
    refine AT 4 rfl (hH116.sub sR) (fun w hS => run_ld underlying9 rfl rfl ((hS.sl (i := 0) rfl).cell _ _ (txL_at (by first | omega | (simp only [texts_len] at *; omega))))) ?_
    refine AT 6 rfl (hH116.sub sR) (fun w hS => run_move e8_84) ?_
    refine A1 5 ?_
    refine AO.callP rfl gnone rfl hH116 sR (c_clearanceref02_Find _ _ _  _ (hH116.sl (i := 0) rfl)) (run_call2 call61 rfl rfl) ?_
    intro w117 hH118
    refine AT 7 rfl (hH118.sub sR) (fun w hS => run_lss rfl rfl) ?_
    refine AT 8 rfl (hH118.sub sR) (fun w hS => mV (B _) rfl) ?_
    refine AN.splitP (dj := 70) rfl (fun h120 => ?_) (fun h120 => ?_)
    ·refine AK 9 rfl rfl (bT h120) (hH118.sub sR) ?_
     refine AK 10 rfl rfl (bT h120) (hH118.sub sR) ?_
     refine AU 11 rfl rfl rfl (hH118.sub sR) ?_
     refine AU 12 rfl rfl rfl (hH118.sub sR) ?_
     refine AU 13 rfl rfl rfl (hH118.sub sR) ?_
     refine AU 14 rfl rfl rfl (hH118.sub sR) ?_
     refine AU 15 rfl rfl rfl (hH118.sub sR) ?_
     refine AU 16 rfl rfl rfl (hH118.sub sR) ?_
     refine AK 17 rfl rfl (bT h120) (hH118.sub sR) ?_
     refine AT 18 rfl (hH118.sub sR) (fun w hS => run_pickT (bT h120) (v := B true) rfl) ?_
     refine AD ?_
     refine CW.condT rfl ?_
     refine CW.region ?_
     refine V (run_move e5_84) ?_
     refine V (mV (I _) rfl) ?_
     refine V (run_bld (vs := [(0, I 3), (1, I _)]) rfl (built_fltL _ _)) ?_
     refine RL.new rfl hH118 (f := fun b => (.slice (some ⟨b, 0, none⟩) 1 1)) (run_mkRecs fltL_len underlying26 rfl rfl rfl (l := [(⟨3, (c.names.getD k.toNat wd0).place⟩ : Flt)]) rfl (by decide) (by decide) rfl) ?_
     intro b123 w121 hH122
     refine RL.app rfl hH122 (i := 2) rfl (Hp.slFlat fltL_len hH122 (i := 0) (l := [(⟨3, (c.names.getD k.toNat wd0).place⟩ : Flt)]) rfl (by simp [maxLen])) rfl rfl underlying26 rfl rfl (size := 2) (bytes := 16) rfl rfl rfl (by decide) (by simp [fltL, Value.oneCell']) (by simp only [List.length_cons, List.length_nil]; omega) (by simp only [maxLen, List.length_cons, List.length_nil]; omega) ?_
     intro v124 w125 hH126
     simp only [z0, z1] at hH126
     refine V (run_assign (by conv => lhs; whnf)) ?_
     refine RL.nil ?_
     refine CW.region ?_
     refine V (run_move e8_84) ?_
     refine V (run_add rfl rfl (by omega)) ?_
     refine V (aV (I _) rfl) ?_
     refine RL.nil ?_
     refine ⟨(k + 1, m ++ [⟨3, (c.names.getD k.toNat wd0).place⟩], v124), ?_, fr84.u4.u4.u4.u4.u4.u4.u4.u4.u4.u4.u1.u1, (Hp.conv (hH126.sub (sQ sR)) (by first | rfl | simp)), rfl, (congrArg I (by first | rfl | omega)), ?_, ?_, ?_⟩
     ·simp only [texts_len] at *; omega
     ·omega
     ·simp only [texts_len] at *; omega
     ·simp only [texts_len] at *; rw [names_next h0, ← hm]; first | rw [nm_p1 h0 ‹k < _› ‹c.op = 3› ‹_›] | rw [nm_p2 h0 ‹k < _› ‹c.op = 3› (Decidable.of_not_not ‹¬ ¬ _›) ‹_›] | rw [nm_n1 ‹¬ c.op = 3› ‹_›] | rw [nm_n2 h0 ‹k < _› (by omega) ‹_›] | rw [nm_p3 h0 ‹k < _› ‹c.op = 3› (Decidable.of_not_not ‹¬ ¬ _›) ‹_›, List.append_nil] | rw [nm_n3 h0 ‹k < _› ‹¬ c.op = 3› ‹_› ‹_›, List.append_nil] | rw [nm_n4 ‹¬ c.op = 3› ‹_› (by omega), List.append_nil]
    ·refine AG 9 rfl rfl (bF h120) (hH118.sub sR) (fun w hS => run_move e7_84) ?_
     refine AG 10 rfl rfl (bF h120) (hH118.sub sR) (fun w hS => mV (B _) rfl) ?_
     refine AN.splitP (dj := 72) rfl (fun h127 => ?_) (fun h127 => ?_)
     ·refine AG 11 rfl rfl (bT h127) (hH118.sub sR) (fun w hS => run_ldA (cs := scpL _) underlying25 rfl rfl e2_84 (rangeAt_cells (hS.blk (i := 3) rfl))) ?_
      refine AG 12 rfl rfl (bT h127) (hH118.sub sR) (fun w hS => run_move e6_84) ?_
      refine AG 13 rfl rfl (bT h127) (hH118.sub sR) (fun w hS => run_move e8_84) ?_
      refine AG 14 rfl rfl (bT h127) (hH118.sub sR) (fun w hS => run_indexAddrS (hS.sl (i := 0) rfl) underlying75 sizeOf9 rfl rfl (by first | omega | (simp only [texts_len] at *; omega))) ?_
      refine AG 15 rfl rfl (bT h127) (hH118.sub sR) (fun w hS => run_ld underlying9 rfl rfl ((hS.sl (i := 0) rfl).cell _ _ (txL_at (by first | omega | (simp only [texts_len] at *; omega))))) ?_
      refine A1 16 ?_
      refine AO.callP rfl (gsome rfl (bT h127)) rfl hH118 sR (c_clearanceref13_lives _ _  _ (hs.mono hH118.kw)) (run_call2 call34 rfl rfl) ?_
      intro w128 hH129
      refine AG 17 rfl rfl (bF h120) (hH129.sub sR) (fun w hS => run_pickT (bT h127) (v := B _) rfl) ?_
      refine AT 18 rfl (hH129.sub sR) (fun w hS => run_pickF (bF h120) (v := B _) rfl) ?_
      refine AD ?_
      refine CW.condP rfl (fun h132 => ?_) (fun h132 => ?_)
      ·refine CW.region ?_
       refine V (run_move e5_84) ?_
       refine V (mV (I _) rfl) ?_
       refine V (run_bld (vs := [(0, I 3), (1, I _)]) rfl (built_fltL _ _)) ?_
       refine RL.new rfl hH129 (f := fun b => (.slice (some ⟨b, 0, none⟩) 1 1)) (run_mkRecs fltL_len underlying26 rfl rfl rfl (l := [(⟨3, (c.names.getD k.toNat wd0).place⟩ : Flt)]) rfl (by decide) (by decide) rfl) ?_
       intro b135 w133 hH134
       refine RL.app rfl hH134 (i := 2) rfl (Hp.slFlat fltL_len hH134 (i := 0) (l := [(⟨3, (c.names.getD k.toNat wd0).place⟩ : Flt)]) rfl (by simp [maxLen])) rfl rfl underlying26 rfl rfl (size := 2) (bytes := 16) rfl rfl rfl (by decide) (by simp [fltL, Value.oneCell']) (by simp only [List.length_cons, List.length_nil]; omega) (by simp only [maxLen, List.length_cons, List.length_nil]; omega) ?_
       intro v136 w137 hH138
       simp only [z0, z1] at hH138
       refine V (run_assign (by conv => lhs; whnf)) ?_
       refine RL.nil ?_
       refine CW.region ?_
       refine V (run_move e8_84) ?_
       refine V (run_add rfl rfl (by omega)) ?_
       refine V (aV (I _) rfl) ?_
       refine RL.nil ?_
       refine ⟨(k + 1, m ++ [⟨3, (c.names.getD k.toNat wd0).place⟩], v136), ?_, fr84.u4.u4.u4.u4.u4.u4.u4.u4.u4.u4.u1.u1, (Hp.conv (hH138.sub (sQ sR)) (by first | rfl | simp)), rfl, (congrArg I (by first | rfl | omega)), ?_, ?_, ?_⟩
       ·simp only [texts_len] at *; omega
       ·omega
       ·simp only [texts_len] at *; omega
       ·simp only [texts_len] at *; rw [names_next h0, ← hm]; first | rw [nm_p1 h0 ‹k < _› ‹c.op = 3› ‹_›] | rw [nm_p2 h0 ‹k < _› ‹c.op = 3› (Decidable.of_not_not ‹¬ ¬ _›) ‹_›] | rw [nm_n1 ‹¬ c.op = 3› ‹_›] | rw [nm_n2 h0 ‹k < _› (by omega) ‹_›] | rw [nm_p3 h0 ‹k < _› ‹c.op = 3› (Decidable.of_not_not ‹¬ ¬ _›) ‹_›, List.append_nil] | rw [nm_n3 h0 ‹k < _› ‹¬ c.op = 3› ‹_› ‹_›, List.append_nil] | rw [nm_n4 ‹¬ c.op = 3› ‹_› (by omega), List.append_nil]
      ·refine CW.skip ?_
       refine CW.region ?_
       refine V (run_move e8_84) ?_
       refine V (run_add rfl rfl (by omega)) ?_
       refine V (aV (I _) rfl) ?_
       refine RL.nil ?_
       refine ⟨(k + 1, m, v5), ?_, fr84.u4.u4.u4.u4.u4.u4.u4.u4.u4, (Hp.conv hH129 (by first | rfl | simp)), e5_84, (congrArg I (by first | rfl | omega)), ?_, ?_, ?_⟩
       ·simp only [texts_len] at *; omega
       ·omega
       ·simp only [texts_len] at *; omega
       ·simp only [texts_len] at *; rw [names_next h0, ← hm]; first | rw [nm_p1 h0 ‹k < _› ‹c.op = 3› ‹_›] | rw [nm_p2 h0 ‹k < _› ‹c.op = 3› (Decidable.of_not_not ‹¬ ¬ _›) ‹_›] | rw [nm_n1 ‹¬ c.op = 3› ‹_›] | rw [nm_n2 h0 ‹k < _› (by omega) ‹_›] | rw [nm_p3 h0 ‹k < _› ‹c.op = 3› (Decidable.of_not_not ‹¬ ¬ _›) ‹_›, List.append_nil] | rw [nm_n3 h0 ‹k < _› ‹¬ c.op = 3› ‹_› ‹_›, List.append_nil] | rw [nm_n4 ‹¬ c.op = 3› ‹_› (by omega), List.append_nil]
     ·refine AK 11 rfl rfl (bF h127) (hH118.sub sR) ?_
      refine AK 12 rfl rfl (bF h127) (hH118.sub sR) ?_
      refine AK 13 rfl rfl (bF h127) (hH118.sub sR) ?_
      refine AK 14 rfl rfl (bF h127) (hH118.sub sR) ?_
      refine AK 15 rfl rfl (bF h127) (hH118.sub sR) ?_
      refine AK 16 rfl rfl (bF h127) (hH118.sub sR) ?_
      refine AG 17 rfl rfl (bF h120) (hH118.sub sR) (fun w hS => run_pickF (bF h127) (v := B false) rfl) ?_
      refine AT 18 rfl (hH118.sub sR) (fun w hS => run_pickF (bF h120) (v := B _) rfl) ?_
      refine AD ?_
      refine CW.condF rfl ?_
      refine CW.skip ?_
      refine CW.region ?_
      refine V (run_move e8_84) ?_
      refine V (run_add rfl rfl (by omega)) ?_
      refine V (aV (I _) rfl) ?_
      refine RL.nil ?_
      refine ⟨(k + 1, m, v5), ?_, fr84.u4.u4.u4.u4.u4.u4.u4.u4.u4, (Hp.conv hH118 (by first | rfl | simp)), e5_84, (congrArg I (by first | rfl | omega)), ?_, ?_, ?_⟩
      ·simp only [texts_len] at *; omega
      ·omega
      ·simp only [texts_len] at *; omega
      ·simp only [texts_len] at *; rw [names_next h0, ← hm]; first | rw [nm_p1 h0 ‹k < _› ‹c.op = 3› ‹_›] | rw [nm_p2 h0 ‹k < _› ‹c.op = 3› (Decidable.of_not_not ‹¬ ¬ _›) ‹_›] | rw [nm_n1 ‹¬ c.op = 3› ‹_›] | rw [nm_n2 h0 ‹k < _› (by omega) ‹_›] | rw [nm_p3 h0 ‹k < _› ‹c.op = 3› (Decidable.of_not_not ‹¬ ¬ _›) ‹_›, List.append_nil] | rw [nm_n3 h0 ‹k < _› ‹¬ c.op = 3› ‹_› ‹_›, List.append_nil] | rw [nm_n4 ‹¬ c.op = 3› ‹_› (by omega), List.append_nil]
  ·refine CW.exit (id := 0) rfl ?_
   refine CW.seq ?_
   refine SR ?_
   refine V (aV (I 0) rfl) ?_
   refine RL.nil ?_
   refine CW.block ?_
   have hk2 : k = c.names.length := by simp only [texts_len] at *; omega
   rw [hk2] at hm
   refine CW.loop (G := (Int) × (List Flt) × (Value)) (fun (⟨i, m1, v5⟩ : (Int) × (List Flt) × (Value)) s' w' => (Fr [5, 10, 11, 86, 87, 88, 89, 90, 91, 92, 93, 94, 95, 96, 97, 98, 99, 100, 101, 102, 103, 104, 105, 106, 107, 108, 109, 110, 111, 112, 113, 114, 115, 116, 117, 118, 119] _ s') ∧ (Hp w w' (_ :: .row v5 33 2 (m1.length) (m1.flatMap fltL) :: _)) ∧ (s' 5 = v5) ∧ (s' 10 = I i) ∧ (0 ≤ i) ∧ (i ≤ c.pairs.length) ∧ (m1 = m ++ pairsTo c i) ∧ (m1.length ≤ 300 + 2 * i.toNat)) (fun (⟨i, m1, v5⟩ : (Int) × (List Flt) × (Value)) => (c.pairs.length - i).toNat) ((0, m, (v5 : Value))) ⟨Fr.refl _ _, hH84, e5_84, rfl, (by omega), (by omega), (List.append_nil m).symm, (by omega)⟩ ?_
   rintro ⟨i, m1, v5⟩ sg139 w139 ⟨fr139, hH139, e5_139, e10_139, i0, i1, hm3, hml1⟩
   have e3_139 := (fr139 3 rfl).trans e3_84
   have e4_139 := (fr139 4 rfl).trans e4_84
   have e6_139 := (fr139 6 rfl).trans e6_84
   refine CW.seq ?_
   refine SR ?_
   refine V (run_move e10_139) ?_
   refine V (fA underlying45 5 rfl sizeOf40 e3_139) ?_
   refine V (run_ldV (hc.pairs.sl.hp hH139) underlying40 rfl rfl (hH139.cell (i := 2) rfl rfl)) ?_
   refine V (run_lenSl (hc.pairs.sl.hp hH139) rfl underlying40 rfl) ?_
   refine V (run_lss rfl rfl) ?_
   refine RL.nil ?_
   refine CW.condP rfl (fun h141 => ?_) (fun h141 => ?_)
   ·refine CW.skip ?_
    refine CW.seq ?_
    refine CW.block ?_
    refine SR ?_
    refine V (aV (I 0) rfl) ?_
    refine RL.nil ?_
    refine CW.block ?_
    refine CW.loop (G := (Int) × (List Flt) × (Value)) (fun (⟨j, m2, v5⟩ : (Int) × (List Flt) × (Value)) s' w' => (Fr [5, 11, 93, 94, 95, 96, 97, 98, 99, 100, 101, 102, 103, 104, 105, 106, 107, 108, 109, 110, 111, 112, 113, 114, 115, 116, 117, 118, 119] _ s') ∧ (Hp w w' (_ :: .row v5 33 2 (m2.length) (m2.flatMap fltL) :: _)) ∧ (s' 5 = v5) ∧ (s' 11 = I j) ∧ (0 ≤ j) ∧ (j ≤ 2) ∧ (m2 = m1 ++ missTo c (c.pairs.getD i.toNat pw0) j) ∧ (m2.length ≤ m1.length + j.toNat)) (fun (⟨j, m2, v5⟩ : (Int) × (List Flt) × (Value)) => (2 - j).toNat) ((0, m1, (v5 : Value))) ⟨Fr.refl _ _, hH139, e5_139, rfl, (by omega), (by omega), (List.append_nil m1).symm, (by omega)⟩ ?_
    rintro ⟨j, m2, v5⟩ sg142 w142 ⟨fr142, hH142, e5_142, e11_142, j0, j1, hm4, hml2⟩
    have e3_142 := (fr142 3 rfl).trans e3_139
    have e4_142 := (fr142 4 rfl).trans e4_139
    have e6_142 := (fr142 6 rfl).trans e6_139
    have e10_142 := (fr142 10 rfl).trans e10_139
    have e86_142 : sg142 86 = I _ := (fr142 86 rfl).trans rfl
    have e87_142 : sg142 87 = Pn _ _ := (fr142 87 rfl).trans rfl
    have e88_142 := (fr142 88 rfl).trans (by conv => lhs; whnf)
    have e89_142 : sg142 89 = I _ := (fr142 89 rfl).trans rfl
    have e90_142 : sg142 90 = B _ := (fr142 90 rfl).trans rfl
    refine CW.seq ?_
    refine SR ?_
    refine V (run_move e11_142) ?_
    refine V (run_lss rfl rfl) ?_
    refine RL.nil ?_
    refine CW.condP rfl (fun h144 => ?_) (fun h144 => ?_)
    ·refine CW.skip ?_
     refine CW.seq ?_
     refine CW.block ?_
     refine SR ?_
     refine V (run_move e6_142) ?_
     refine V (fA underlying45 5 rfl sizeOf40 e3_142) ?_
     refine V (run_ldV (hc.pairs.sl.hp hH142) underlying40 rfl rfl (hH142.cell (i := 2) rfl rfl)) ?_
     refine V (run_move e10_142) ?_
     refine V (run_move e11_142) ?_
     refine V (run_indexAddrS (hc.pairs.sl.hp hH142) underlying40 sizeOf79 rfl rfl (by first | omega | (simp only [texts_len] at *; omega))) ?_
     refine V (run_indexAddrA underlying79 sizeOf38 rfl rfl (by first | omega | (simp only [texts_len] at *; omega))) ?_
     refine V (fA underlying38 0 rfl sizeOf9 rfl) ?_
     refine V (run_ldPwT ((hc.pairs.sl).hp hH142) underlying9 rfl rfl (by omega) (by omega)) ?_
     refine RL.callP rfl hH142 (c_clearanceref02_Find _ _ _  _ (hH142.sl (i := 0) rfl)) (run_call2 call61 rfl rfl) ?_
     intro w145 hH146
     refine V (run_lss rfl rfl) ?_
     refine RL.nil ?_
     refine CW.condP rfl (fun h148 => ?_) (fun h148 => ?_)
     ·refine CW.region ?_
      refine V (run_move e5_142) ?_
      refine V (fA underlying45 5 rfl sizeOf40 e3_142) ?_
      refine V (run_ldV (hc.pairs.sl.hp hH146) underlying40 rfl rfl (hH146.cell (i := 2) rfl rfl)) ?_
      refine V (run_move e10_142) ?_
      refine V (run_move e11_142) ?_
      refine V (run_indexAddrS (hc.pairs.sl.hp hH146) underlying40 sizeOf79 rfl rfl (by first | omega | (simp only [texts_len] at *; omega))) ?_
      refine V (run_indexAddrA underlying79 sizeOf38 rfl rfl (by first | omega | (simp only [texts_len] at *; omega))) ?_
      refine V (fA underlying38 1 rfl sizeOf3 rfl) ?_
      refine V (run_ldPwI ((hc.pairs.sl).hp hH146) underlying3 rfl rfl (by omega) (by omega)) ?_
      refine V (run_bld (vs := [(0, I 3), (1, I _)]) rfl (built_fltL _ _)) ?_
      refine RL.new rfl hH146 (f := fun b => (.slice (some ⟨b, 0, none⟩) 1 1)) (run_mkRecs fltL_len underlying26 rfl rfl rfl (l := [(⟨3, (wordAt (c.pairs.getD i.toNat pw0) j).place⟩ : Flt)]) rfl (by decide) (by decide) rfl) ?_
      intro b151 w149 hH150
      refine RL.app rfl hH150 (i := 2) rfl (Hp.slFlat fltL_len hH150 (i := 0) (l := [(⟨3, (wordAt (c.pairs.getD i.toNat pw0) j).place⟩ : Flt)]) rfl (by simp [maxLen])) rfl rfl underlying26 rfl rfl (size := 2) (bytes := 16) rfl rfl rfl (by decide) (by simp [fltL, Value.oneCell']) (by simp only [List.length_cons, List.length_nil]; omega) (by simp only [maxLen, List.length_cons, List.length_nil]; omega) ?_
      intro v152 w153 hH154
      simp only [z0, z1] at hH154
      refine V (run_assign (by conv => lhs; whnf)) ?_
      refine RL.nil ?_
      refine CW.region ?_
      refine V (run_move e11_142) ?_
      refine V (run_add rfl rfl (by omega)) ?_
      refine V (aV (I _) rfl) ?_
      refine RL.nil ?_
      refine ⟨(j + 1, m2 ++ [⟨3, (wordAt (c.pairs.getD i.toNat pw0) j).place⟩], v152), ?_, fr142.u4.u4.u4.u4.u4.u4.u4.u1, (Hp.conv (hH154.sub (sQ sR)) (by first | rfl | simp)), rfl, (congrArg I (by first | rfl | omega)), ?_, ?_, ?_, ?_⟩
      ·((try dsimp only); omega)
      ·omega
      ·omega
      ·rw [miss_next j0, ← List.append_assoc, ← hm4]; first | rw [miss_yes ‹_›] | rw [miss_no ‹_›, List.append_nil]
      ·first | omega | (simp only [List.length_append, List.length_singleton]; omega)
     ·refine CW.skip ?_
      refine CW.region ?_
      refine V (run_move e11_142) ?_
      refine V (run_add rfl rfl (by omega)) ?_
      refine V (aV (I _) rfl) ?_
      refine RL.nil ?_
      refine ⟨(j + 1, m2, v5), ?_, fr142.u4.u4.u4.u4, (Hp.conv hH146 (by first | rfl | simp)), e5_142, (congrArg I (by first | rfl | omega)), ?_, ?_, ?_, ?_⟩
      ·((try dsimp only); omega)
      ·omega
      ·omega
      ·rw [miss_next j0, ← List.append_assoc, ← hm4]; first | rw [miss_yes ‹_›] | rw [miss_no ‹_›, List.append_nil]
      ·first | omega | (simp only [List.length_append, List.length_singleton]; omega)
    ·refine CW.exit (id := 4) rfl ?_
     refine CW.region ?_
     refine V (run_move e10_142) ?_
     refine V (run_add rfl rfl (by omega)) ?_
     refine V (aV (I _) rfl) ?_
     refine RL.nil ?_
     refine ⟨(i + 1, m2, v5), ?_, (((fr139.u4.u1.u1).t fr142 rfl)).u4.u1, (Hp.conv hH142 (by first | rfl | simp)), e5_142, (congrArg I (by first | rfl | omega)), ?_, ?_, ?_, ?_⟩
     ·((try dsimp only); omega)
     ·omega
     ·omega
     ·(rw [hm4, show j = 2 by omega, miss_two, hm3, pairs_next i0, List.append_assoc])
     ·omega
   ·refine CW.exit (id := 2) rfl ?_
    refine SR ?_
    refine V (run_move e5_139) ?_
    refine V (run_assign (by conv => lhs; whnf)) ?_
    refine RL.nil ?_
    refine CW.ret ?_
    exact outR Tryd.results33 rfl hH139 (i := 1) rfl (by rw [hm3, hm, namedL, show i = c.pairs.length by omega]) (by rw [hm3, hm, namedL, show i = c.pairs.length by omega])

theorem c_clearanceref13_Fault (s : Scp) (c : CmdR) (hsm : Sm s c) (w : World) (hs : ScpV (Kw w) s) (hc : CmdV (Kw w) c) : Calls Tryd.prog 16 #[.agg (scpC s), .agg (cmdL c).toArray] w (Pure (.agg (fltL (faultF s c)).toArray) w) := by
 have hm1 := hsm.nl
 have hm2 := hsm.pl
 have hm3 := hsm.vl
 have hm4 := hsm.ll
 have hn0 := named_len hsm
 have hln := lenN_bd hsm
 refine enter Tryd.func16 rfl Tryd.ntmps16 rfl ?_
 have hH := Hp.start w
 refine SR ?_
 refine RL.new rfl hH (f := fun b => (.pointer (some ⟨b, 0, none⟩))) (run_box (v := .agg _) rfl) ?_
 intro b3 w1 hH2
 refine RL.new rfl hH2 (f := fun b => (.pointer (some ⟨b, 0, none⟩))) (run_box (v := .agg _) rfl) ?_
 intro b6 w4 hH5
 refine RL.new rfl hH5 (f := fun b => (.pointer (some ⟨b, 0, none⟩))) (run_alloc zero_flt) ?_
 intro b9 w7 hH8
 refine RL.nil ?_
 refine CW.seq ?_
 refine SR ?_
 refine V (fA underlying45 0 rfl sizeOf3 rfl) ?_
 refine V (run_ld underlying3 rfl rfl (hH8.cell (i := 1) rfl (v := I _) rfl)) ?_
 refine V (run_lss rfl rfl) ?_
 refine V (mV (B _) rfl) ?_
 refine RL.splitP (dj := 12) rfl (fun h11 => ?_) (fun h11 => ?_)
 ·refine RL.gF rfl rfl (bT h11) rfl ?_
  refine RL.gF rfl rfl (bT h11) rfl ?_
  refine RL.gF rfl rfl (bT h11) rfl ?_
  refine V (run_pickT (bT h11) (v := B true) rfl) ?_
  refine RL.nil ?_
  refine CW.condT rfl ?_
  refine SR ?_
  refine V (run_bld (vs := []) rfl (built_fltL0)) ?_
  refine RL.set hH8 (i := 0) rfl (run_stW (c' := (fltL _).toArray) rfl rfl rfl (by simp [fltL, Value.oneCell']) (hH8.blk (i := 0) rfl) rfl) ?_
  intro w12 hH13
  simp only [z0, z1] at hH13
  refine RL.nil ?_
  refine CW.ret ?_
  refine outCg Tryd.results16 rfl hH13 (i := 0) rfl underlying33 rfl rfl ⟨?_, hH13.below⟩
  rw [faultF, if_neg (by omega)]
 ·refine RL.gT rfl (bF h11) ?_
  refine V (fA underlying45 0 rfl sizeOf3 rfl) ?_
  refine RL.gT rfl (bF h11) ?_
  refine V (run_ld underlying3 rfl rfl (hH8.cell (i := 1) rfl (v := I _) rfl)) ?_
  refine RL.gT rfl (bF h11) ?_
  refine V (run_gtr rfl rfl) ?_
  refine V (run_pickF (bF h11) (v := B _) rfl) ?_
  refine RL.nil ?_
  refine CW.condP rfl (fun h15 => ?_) (fun h15 => ?_)
  ·refine SR ?_
   refine V (run_bld (vs := []) rfl (built_fltL0)) ?_
   refine RL.set hH8 (i := 0) rfl (run_stW (c' := (fltL _).toArray) rfl rfl rfl (by simp [fltL, Value.oneCell']) (hH8.blk (i := 0) rfl) rfl) ?_
   intro w16 hH17
   simp only [z0, z1] at hH17
   refine RL.nil ?_
   refine CW.ret ?_
   refine outCg Tryd.results16 rfl hH17 (i := 0) rfl underlying33 rfl rfl ⟨?_, hH17.below⟩
   rw [faultF, if_neg (by omega)]
  ·refine CW.skip ?_
   refine SR ?_
   refine V (run_ldA (cs := scpL _) underlying25 rfl rfl rfl (rangeAt_cells (hH8.blk (i := 2) rfl))) ?_
   refine V (run_ldA (cs := cmdL _) underlying45 rfl rfl rfl (rangeAt_cells (hH8.blk (i := 1) rfl))) ?_
   refine RL.callR rfl hH8 (c_clearanceref13_named s c hsm _ (hs.mono hH8.kw) (hc.mono hH8.kw)) (run_call2 call33 rfl rfl) ?_
   intro v20 w18 hH19
   refine V (run_assign (by conv => lhs; whnf)) ?_
   refine RL.nil ?_
   refine SR ?_
   refine V (fA underlying45 4 rfl sizeOf39 rfl) ?_
   refine V (run_ldV (hc.names.sl.hp hH19) underlying39 rfl rfl (hH19.cell (i := 2) rfl rfl)) ?_
   refine V (run_lenSl (hc.names.sl.hp hH19) rfl underlying39 rfl) ?_
   refine V (aV (I _) rfl) ?_
   refine RL.nil ?_
   refine CW.cutG (G := Unit) hH19 [7, 24, 25, 26, 27, 28, 29, 30, 31] (fun (L : List Ent) (_u : Unit) => L) (fun (_u : Unit) s' => (s' 7 = B (decide (vO c)))) ?_ ?_
   ·refine CW.region ?_
    refine V (fA underlying45 0 rfl sizeOf3 rfl) ?_
    refine V (run_ld underlying3 rfl rfl (hH19.cell (i := 2) rfl (v := I _) rfl)) ?_
    refine V (run_eql rfl rfl) ?_
    refine V (mV (B _) rfl) ?_
    refine RL.splitP (dj := 27) rfl (fun h22 => ?_) (fun h22 => ?_)
    ·refine RL.gF rfl rfl (bT h22) rfl ?_
     refine RL.gF rfl rfl (bT h22) rfl ?_
     refine RL.gF rfl rfl (bT h22) rfl ?_
     refine V (run_pickT (bT h22) (v := B true) rfl) ?_
     refine V (aV (B _) rfl) ?_
     refine RL.nil ?_
     refine ⟨((Fr.refl _ _)).u4.u4.u1, (), hH19, (congrArg B ?_)⟩
     ·first | exact (decide_eq_true (by omega)).symm | (rw [Bool.eq_iff_iff, decide_eq_true_eq, decide_eq_true_eq]; omega)
    ·refine RL.gT rfl (bF h22) ?_
     refine V (fA underlying45 0 rfl sizeOf3 rfl) ?_
     refine RL.gT rfl (bF h22) ?_
     refine V (run_ld underlying3 rfl rfl (hH19.cell (i := 2) rfl (v := I _) rfl)) ?_
     refine RL.gT rfl (bF h22) ?_
     refine V (run_eql rfl rfl) ?_
     refine V (run_pickF (bF h22) (v := B _) rfl) ?_
     refine V (aV (B _) rfl) ?_
     refine RL.nil ?_
     refine ⟨((Fr.refl _ _)).u4.u4.u1, (), hH19, (congrArg B ?_)⟩
     ·first | exact (decide_eq_true (by omega)).symm | (rw [Bool.eq_iff_iff, decide_eq_true_eq, decide_eq_true_eq]; omega)
   ·rintro _u sg24 w24 fr24 hH24 e7_24
    have e2_24 : sg24 2 = Pn _ _ := (fr24 2 rfl).trans rfl
    have e3_24 : sg24 3 = Pn _ _ := (fr24 3 rfl).trans rfl
    have e4_24 : sg24 4 = Pn _ _ := (fr24 4 rfl).trans rfl
    have e5_24 := (fr24 5 rfl).trans (by conv => lhs; whnf)
    have e6_24 : sg24 6 = I _ := (fr24 6 rfl).trans rfl
    have hop : 1 ≤ c.op ∧ c.op ≤ 7 := by omega
    refine CW.cutG (G := (Value) × (List Flt)) hH24 [5, 32, 33, 34, 35, 36, 37, 38, 39, 40, 41, 42, 43, 44, 45, 46, 47, 48, 49, 50, 51, 52, 53, 54, 55, 56, 57, 58, 59, 60, 61] (fun (L : List Ent) (⟨v5, m1⟩ : (Value) × (List Flt)) => L.set 0 (.row v5 33 2 (m1.length) (m1.flatMap fltL))) (fun (⟨v5, m1⟩ : (Value) × (List Flt)) s' => (s' 5 = v5) ∧ (m1 = namedL s c ++ headF s c) ∧ (m1.length ≤ 402)) ?_ ?_
    ·refine SR ?_
     refine V (run_move e7_24) ?_
     refine V (run_ldA (cs := scpL _) underlying25 rfl rfl e2_24 (rangeAt_cells (hH24.blk (i := 3) rfl))) ?_
     refine V (fA underlying45 2 rfl sizeOf38 e3_24) ?_
     refine V (fA underlying38 0 rfl sizeOf9 rfl) ?_
     refine V (run_ld underlying9 rfl rfl (hH24.cell (i := 2) rfl (v := .string _) rfl)) ?_
     refine RL.callP rfl hH24 (c_clearanceref13_lives _ _  _ (hs.mono hH24.kw)) (run_call2 call34 rfl rfl) ?_
     intro w26 hH27
     refine V (run_neqB underlying4 rfl rfl) ?_
     refine RL.nil ?_
     refine CW.cond rfl (fun h31 => ?_) (fun h31 => ?_)
     ·refine CW.region ?_
      refine V (run_move e5_24) ?_
      refine V (fA underlying45 2 rfl sizeOf38 e3_24) ?_
      refine V (fA underlying38 1 rfl sizeOf3 rfl) ?_
      refine V (run_ld underlying3 rfl rfl (hH27.cell (i := 2) rfl (v := I _) rfl)) ?_
      refine V (run_bld (vs := [(0, I 3), (1, I _)]) rfl (built_fltL _ _)) ?_
      refine RL.new rfl hH27 (f := fun b => (.slice (some ⟨b, 0, none⟩) 1 1)) (run_mkRecs fltL_len underlying26 rfl rfl rfl (l := [(⟨3, c.name.place⟩ : Flt)]) rfl (by decide) (by decide) rfl) ?_
      intro b34 w32 hH33
      refine RL.app rfl hH33 (i := 1) rfl (Hp.slFlat fltL_len hH33 (i := 0) (l := [(⟨3, c.name.place⟩ : Flt)]) rfl (by simp [maxLen])) rfl rfl underlying26 rfl rfl (size := 2) (bytes := 16) rfl rfl rfl (by decide) (by simp [fltL, Value.oneCell']) (by simp only [List.length_cons, List.length_nil]; omega) (by simp only [maxLen, List.length_cons, List.length_nil]; omega) ?_
      intro v35 w36 hH37
      simp only [z0, z1] at hH37
      refine V (run_assign (by conv => lhs; whnf)) ?_
      refine RL.nil ?_
      refine ⟨((Fr.refl _ _)).u4.u4.u4.u1.u1.u1, (v35, (namedL s c ++ [⟨3, c.name.place⟩])), (Hp.conv (hH37.sub (sQ sR)) (by first | rfl | (simp; done))), rfl, ?_, ?_⟩
      ·first | rw [hd_1 hop (neB ‹(!(decide (vO c) == _)) = true›)] | rw [hd_2 (eqB ‹(!(decide (vO c) == _)) = false›) ‹vO c› ‹_›] | rw [hd_3 hop (eqB ‹(!(decide (vO c) == _)) = false›) ‹¬ vO c›, List.append_nil] | rw [hd_4 (eqB ‹(!(decide (vO c) == _)) = false›) ‹vO c› ‹_›, List.append_nil]
      ·first | omega | (simp only [List.length_append, List.length_singleton]; omega)
     ·refine SR ?_
      refine V (run_move e7_24) ?_
      refine V (mV (B _) rfl) ?_
      refine RL.splitP (dj := 47) rfl (fun h38 => ?_) (fun h38 => ?_)
      ·refine RL.gT rfl (bT h38) ?_
       refine V (run_ldA (cs := scpL _) underlying25 rfl rfl e2_24 (rangeAt_cells (hH27.blk (i := 3) rfl))) ?_
       refine RL.gT rfl (bT h38) ?_
       refine V (fA underlying45 2 rfl sizeOf38 e3_24) ?_
       refine RL.gT rfl (bT h38) ?_
       refine V (fA underlying38 0 rfl sizeOf9 rfl) ?_
       refine RL.gT rfl (bT h38) ?_
       refine V (run_ld underlying9 rfl rfl (hH27.cell (i := 2) rfl (v := .string _) rfl)) ?_
       refine RL.gT rfl (bT h38) ?_
       refine RL.callP rfl hH27 (c_clearanceref13_Lat _ _  _ (hs.mono hH27.kw)) (run_call2 call10 rfl rfl) ?_
       intro w39 hH40
       refine RL.gT rfl (bT h38) ?_
       refine V (run_lss rfl rfl) ?_
       refine V (run_pickT (bT h38) (v := B _) rfl) ?_
       refine RL.nil ?_
       refine CW.condP rfl (fun h42 => ?_) (fun h42 => ?_)
       ·refine CW.region ?_
        refine V (run_move e5_24) ?_
        refine V (fA underlying45 2 rfl sizeOf38 e3_24) ?_
        refine V (fA underlying38 1 rfl sizeOf3 rfl) ?_
        refine V (run_ld underlying3 rfl rfl (hH40.cell (i := 2) rfl (v := I _) rfl)) ?_
        refine V (run_bld (vs := [(0, I 4), (1, I _)]) rfl (built_fltL _ _)) ?_
        refine RL.new rfl hH40 (f := fun b => (.slice (some ⟨b, 0, none⟩) 1 1)) (run_mkRecs fltL_len underlying26 rfl rfl rfl (l := [(⟨4, c.name.place⟩ : Flt)]) rfl (by decide) (by decide) rfl) ?_
        intro b45 w43 hH44
        refine RL.app rfl hH44 (i := 1) rfl (Hp.slFlat fltL_len hH44 (i := 0) (l := [(⟨4, c.name.place⟩ : Flt)]) rfl (by simp [maxLen])) rfl rfl underlying26 rfl rfl (size := 2) (bytes := 16) rfl rfl rfl (by decide) (by simp [fltL, Value.oneCell']) (by simp only [List.length_cons, List.length_nil]; omega) (by simp only [maxLen, List.length_cons, List.length_nil]; omega) ?_
        intro v46 w47 hH48
        simp only [z0, z1] at hH48
        refine V (run_assign (by conv => lhs; whnf)) ?_
        refine RL.nil ?_
        refine ⟨((Fr.refl _ _)).u4.u4.u4.u4.u4.u4, (v46, (namedL s c ++ [⟨4, c.name.place⟩])), (Hp.conv (hH48.sub (sQ sR)) (by first | rfl | (simp; done))), rfl, ?_, ?_⟩
        ·first | rw [hd_1 hop (neB ‹(!(decide (vO c) == _)) = true›)] | rw [hd_2 (eqB ‹(!(decide (vO c) == _)) = false›) ‹vO c› ‹_›] | rw [hd_3 hop (eqB ‹(!(decide (vO c) == _)) = false›) ‹¬ vO c›, List.append_nil] | rw [hd_4 (eqB ‹(!(decide (vO c) == _)) = false›) ‹vO c› ‹_›, List.append_nil]
        ·first | omega | (simp only [List.length_append, List.length_singleton]; omega)
       ·refine CW.skip ?_
        refine ⟨((Fr.refl _ _)).u4.u4.u4.u4, (v20, namedL s c), (Hp.conv hH40 (by first | rfl | (simp; done))), e5_24, ?_, ?_⟩
        ·first | rw [hd_1 hop (neB ‹(!(decide (vO c) == _)) = true›)] | rw [hd_2 (eqB ‹(!(decide (vO c) == _)) = false›) ‹vO c› ‹_›] | rw [hd_3 hop (eqB ‹(!(decide (vO c) == _)) = false›) ‹¬ vO c›, List.append_nil] | rw [hd_4 (eqB ‹(!(decide (vO c) == _)) = false›) ‹vO c› ‹_›, List.append_nil]
        ·first | omega | (simp only [List.length_append, List.length_singleton]; omega)
      ·refine RL.gF rfl rfl (bF h38) rfl ?_
       refine RL.gF rfl rfl (bF h38) rfl ?_
       refine RL.gF rfl rfl (bF h38) rfl ?_
       refine RL.gF rfl rfl (bF h38) rfl ?_
       refine RL.gF rfl rfl (bF h38) rfl ?_
       refine RL.gF rfl rfl (bF h38) rfl ?_
       refine V (run_pickF (bF h38) (v := B false) rfl) ?_
       refine RL.nil ?_
       refine CW.condF rfl ?_
       refine CW.skip ?_
       refine ⟨((Fr.refl _ _)).u4.u4.u4.u4, (v20, namedL s c), (Hp.conv hH27 (by first | rfl | (simp; done))), e5_24, ?_, ?_⟩
       ·first | rw [hd_1 hop (neB ‹(!(decide (vO c) == _)) = true›)] | rw [hd_2 (eqB ‹(!(decide (vO c) == _)) = false›) ‹vO c› ‹_›] | rw [hd_3 hop (eqB ‹(!(decide (vO c) == _)) = false›) ‹¬ vO c›, List.append_nil] | rw [hd_4 (eqB ‹(!(decide (vO c) == _)) = false›) ‹vO c› ‹_›, List.append_nil]
       ·first | omega | (simp only [List.length_append, List.length_singleton]; omega)
    ·rintro ⟨v5, m1⟩ sg49 w49 fr49 hH49 ⟨e5_49, hm5, hl5⟩
     simp only [z0, z1] at hH49
     have e2_49 := (fr49 2 rfl).trans e2_24
     have e3_49 := (fr49 3 rfl).trans e3_24
     have e4_49 := (fr49 4 rfl).trans e4_24
     have e6_49 := (fr49 6 rfl).trans e6_24
     have e7_49 := (fr49 7 rfl).trans e7_24
     refine CW.cutG (G := (Value) × (List Flt)) hH49 [5, 62, 63, 64, 65, 66, 67, 68, 69, 70, 71, 72, 73, 74, 75, 76, 77, 78, 79, 80] (fun (L : List Ent) (⟨v5, m2⟩ : (Value) × (List Flt)) => L.set 0 (.row v5 33 2 (m2.length) (m2.flatMap fltL))) (fun (⟨v5, m2⟩ : (Value) × (List Flt)) s' => (s' 5 = v5) ∧ (m2 = m1 ++ orderF c) ∧ (m2.length ≤ 403)) ?_ ?_
     ·refine SR ?_
      refine V (fA underlying45 0 rfl sizeOf3 e3_49) ?_
      refine V (run_ld underlying3 rfl rfl (hH49.cell (i := 2) rfl (v := I _) rfl)) ?_
      refine V (run_eql rfl rfl) ?_
      refine V (mV (B _) rfl) ?_
      refine RL.splitP (dj := 65) rfl (fun h51 => ?_) (fun h51 => ?_)
      ·refine RL.gT rfl (bT h51) ?_
       refine V (run_move e6_49) ?_
       refine RL.gT rfl (bT h51) ?_
       refine V (run_leq rfl rfl) ?_
       refine V (run_pickT (bT h51) (v := B _) rfl) ?_
       refine V (mV (B _) rfl) ?_
       refine RL.splitP (dj := 69) rfl (fun h53 => ?_) (fun h53 => ?_)
       ·refine RL.gT rfl (bT h53) ?_
        refine V (run_ldA (cs := cmdL _) underlying45 rfl rfl e3_49 (rangeAt_cells (hH49.blk (i := 2) rfl))) ?_
        refine RL.gT rfl (bT h53) ?_
        refine RL.callP rfl hH49 (c_clearanceref13_related c (by omega) (by omega) _ (hc.mono hH49.kw)) (run_call1 call36 rfl) ?_
        intro w54 hH55
        refine RL.gT rfl (bT h53) ?_
        refine RL.callP rfl hH55 (c_clearanceref06_Lattice _  _) (run_call1 call35 rfl) ?_
        intro w56 hH57
        refine RL.gT rfl (bT h53) ?_
        refine V (run_not rfl) ?_
        refine V (run_pickT (bT h53) (v := B _) rfl) ?_
        refine RL.nil ?_
        refine CW.cond rfl (fun h60 => ?_) (fun h60 => ?_)
        ·refine CW.region ?_
         refine V (run_move e5_49) ?_
         refine V (fA underlying45 6 rfl sizeOf3 e3_49) ?_
         refine V (run_ld underlying3 rfl rfl (hH57.cell (i := 2) rfl (v := I _) rfl)) ?_
         refine V (run_bld (vs := [(0, I 5), (1, I _)]) rfl (built_fltL _ _)) ?_
         refine RL.new rfl hH57 (f := fun b => (.slice (some ⟨b, 0, none⟩) 1 1)) (run_mkRecs fltL_len underlying26 rfl rfl rfl (l := [(⟨5, c.pat⟩ : Flt)]) rfl (by decide) (by decide) rfl) ?_
         intro b63 w61 hH62
         refine RL.app rfl hH62 (i := 1) rfl (Hp.slFlat fltL_len hH62 (i := 0) (l := [(⟨5, c.pat⟩ : Flt)]) rfl (by simp [maxLen])) rfl rfl underlying26 rfl rfl (size := 2) (bytes := 16) rfl rfl rfl (by decide) (by simp [fltL, Value.oneCell']) (by simp only [List.length_cons, List.length_nil]; omega) (by simp only [maxLen, List.length_cons, List.length_nil]; omega) ?_
         intro v64 w65 hH66
         simp only [z0, z1] at hH66
         refine V (run_assign (by conv => lhs; whnf)) ?_
         refine RL.nil ?_
         refine ⟨((Fr.refl _ _)).u4.u4.u4.u4.u4, (v64, (m1 ++ [⟨5, c.pat⟩])), (Hp.conv (hH66.sub (sQ sR)) (by first | rfl | (simp; done))), rfl, ?_, ?_⟩
         ·first | rw [order_yes ‹c.op = 5› ‹_› (nt ‹(!latB (relatedF c)) = true›)] | rw [order_no (by first | exact .inl ‹_› | exact .inr (.inl ‹_›) | exact .inr (.inr (nf ‹(!latB (relatedF c)) = false›))), List.append_nil]
         ·first | omega | (simp only [List.length_append, List.length_singleton]; omega)
        ·refine CW.skip ?_
         refine ⟨((Fr.refl _ _)).u4.u4.u4.u1, (v5, m1), (Hp.conv hH57 (by first | rfl | (simp; done))), e5_49, ?_, ?_⟩
         ·first | rw [order_yes ‹c.op = 5› ‹_› (nt ‹(!latB (relatedF c)) = true›)] | rw [order_no (by first | exact .inl ‹_› | exact .inr (.inl ‹_›) | exact .inr (.inr (nf ‹(!latB (relatedF c)) = false›))), List.append_nil]
         ·first | omega | (simp only [List.length_append, List.length_singleton]; omega)
       ·refine RL.gF rfl rfl (bF h53) rfl ?_
        refine RL.gF rfl rfl (bF h53) rfl ?_
        refine RL.gF rfl rfl (bF h53) rfl ?_
        refine RL.gF rfl rfl (bF h53) rfl ?_
        refine V (run_pickF (bF h53) (v := B false) rfl) ?_
        refine RL.nil ?_
        refine CW.condF rfl ?_
        refine CW.skip ?_
        refine ⟨((Fr.refl _ _)).u4.u4.u4.u1, (v5, m1), (Hp.conv hH49 (by first | rfl | (simp; done))), e5_49, ?_, ?_⟩
        ·first | rw [order_yes ‹c.op = 5› ‹_› (nt ‹(!latB (relatedF c)) = true›)] | rw [order_no (by first | exact .inl ‹_› | exact .inr (.inl ‹_›) | exact .inr (.inr (nf ‹(!latB (relatedF c)) = false›))), List.append_nil]
        ·first | omega | (simp only [List.length_append, List.length_singleton]; omega)
      ·refine RL.gF rfl rfl (bF h51) rfl ?_
       refine RL.gF rfl rfl (bF h51) rfl ?_
       refine V (run_pickF (bF h51) (v := B false) rfl) ?_
       refine V (mV (B _) rfl) ?_
       refine RL.gF rfl rfl rfl rfl ?_
       refine RL.gF rfl rfl rfl rfl ?_
       refine RL.gF rfl rfl rfl rfl ?_
       refine RL.gF rfl rfl rfl rfl ?_
       refine V (run_pickF rfl (v := B false) rfl) ?_
       refine RL.nil ?_
       refine CW.condF rfl ?_
       refine CW.skip ?_
       refine ⟨((Fr.refl _ _)).u4.u4.u4.u1, (v5, m1), (Hp.conv hH49 (by first | rfl | (simp; done))), e5_49, ?_, ?_⟩
       ·first | rw [order_yes ‹c.op = 5› ‹_› (nt ‹(!latB (relatedF c)) = true›)] | rw [order_no (by first | exact .inl ‹_› | exact .inr (.inl ‹_›) | exact .inr (.inr (nf ‹(!latB (relatedF c)) = false›))), List.append_nil]
       ·first | omega | (simp only [List.length_append, List.length_singleton]; omega)
     ·rintro ⟨v5, m2⟩ sg67 w67 fr67 hH67 ⟨e5_67, hm6, hl6⟩
      simp only [z0, z1] at hH67
      have e2_67 := (fr67 2 rfl).trans e2_49
      have e3_67 := (fr67 3 rfl).trans e3_49
      have e4_67 := (fr67 4 rfl).trans e4_49
      have e6_67 := (fr67 6 rfl).trans e6_49
      have e7_67 := (fr67 7 rfl).trans e7_49
      refine SR ?_
      refine V (aV (I 64) rfl) ?_
      refine RL.nil ?_
      refine CW.cutG (G := Unit) hH67 [8, 81, 82, 83] (fun (L : List Ent) (_u : Unit) => L) (fun (_u : Unit) s' => (s' 8 = I (if c.op = 4 then 8 else 64))) ?_ ?_
      ·refine SR ?_
       refine V (fA underlying45 0 rfl sizeOf3 e3_67) ?_
       refine V (run_ld underlying3 rfl rfl (hH67.cell (i := 2) rfl (v := I _) rfl)) ?_
       refine V (run_eql rfl rfl) ?_
       refine RL.nil ?_
       refine CW.condP rfl (fun h69 => ?_) (fun h69 => ?_)
       ·refine CW.region ?_
        refine V (aV (I 8) rfl) ?_
        refine RL.nil ?_
        refine ⟨((Fr.refl _ _)).u4, (), hH67, (congrArg I ?_)⟩
        ·(split <;> omega)
       ·refine CW.skip ?_
        refine ⟨((Fr.refl _ _)).u1.u1.u1, (), hH67, (congrArg I ?_)⟩
        ·(split <;> omega)
      ·rintro _u sg70 w70 fr70 hH70 e8_70
       have e2_70 := (fr70 2 rfl).trans e2_67
       have e3_70 := (fr70 3 rfl).trans e3_67
       have e4_70 := (fr70 4 rfl).trans e4_67
       have e5_70 := (fr70 5 rfl).trans e5_67
       have e6_70 := (fr70 6 rfl).trans e6_67
       have e7_70 := (fr70 7 rfl).trans e7_67
       refine CW.cutG (G := Unit) hH70 [6, 8, 84, 85, 86, 87, 88, 89, 90, 91] (fun (L : List Ent) (_u : Unit) => L) (fun (_u : Unit) s' => (s' 6 = I (lenN s c)) ∧ (s' 8 = I (mostN c))) ?_ ?_
       ·refine SR ?_
        refine V (fA underlying45 0 rfl sizeOf3 e3_70) ?_
        refine V (run_ld underlying3 rfl rfl (hH70.cell (i := 2) rfl (v := I _) rfl)) ?_
        refine V (run_eql rfl rfl) ?_
        refine RL.nil ?_
        refine CW.condP rfl (fun h72 => ?_) (fun h72 => ?_)
        ·refine SR ?_
         refine V (aV (I 8) rfl) ?_
         refine RL.nil ?_
         refine CW.region ?_
         refine V (run_ldA (cs := scpL _) underlying25 rfl rfl e2_70 (rangeAt_cells (hH70.blk (i := 3) rfl))) ?_
         refine V (run_ldA (cs := cmdL _) underlying45 rfl rfl e3_70 (rangeAt_cells (hH70.blk (i := 2) rfl))) ?_
         refine RL.callF rfl hH70 (c_clearanceref13_Shape (Kw w) s c hsm _ hH70.kw hs hc) (run_call2 call37 rfl rfl) ?_
         intro v75 w76 Z78 hH77 hp79
         have hH80 : Hp _ w76 (_ :: _ :: _ :: _ :: Z78) := hH77.zin0 (L := [_, _, _, _])
         obtain ⟨p81, rfl, psh82, pv83⟩ := hp79
         refine V (run_field underlying54 rfl isAgg52 rfl rfl) ?_
         refine V (run_lenSl (pv83.facs.mono (hH80.kz (Le.refl _) (fun x hx => (mT (mT (mT (mT hx))))))).sl rfl underlying52 rfl) ?_
         refine V (aV (I _) rfl) ?_
         refine RL.nil ?_
         refine ⟨((Fr.refl _ _)).u4.u4.u1.u1, (), (hH80.sub (sP (sP (sP (sP (List.nil_sublist _)))))), (congrArg I ?_), (congrArg I ?_)⟩
         ·first | (rw [mostN]; split <;> (try split) <;> omega) | (rw [lenN, if_neg ‹_›]; done) | (rw [lenN, if_pos ‹c.op = 3›, sh_facs_len (‹Shp.sh _ = shapeF s c›.trans (shape_3 ‹c.op = 3›))])
         ·first | (rw [mostN]; split <;> (try split) <;> omega) | (rw [lenN, if_neg ‹_›]; done) | (rw [lenN, if_pos ‹c.op = 3›, sh_facs_len (‹Shp.sh _ = shapeF s c›.trans (shape_3 ‹c.op = 3›))])
        ·refine CW.skip ?_
         refine ⟨((Fr.refl _ _)).u1.u1.u1, (), hH70, (Eq.trans e6_70 (congrArg I ?_)), (Eq.trans e8_70 (congrArg I ?_))⟩
         ·first | (rw [mostN]; split <;> (try split) <;> omega) | (rw [lenN, if_neg ‹_›]; done) | (rw [lenN, if_pos ‹c.op = 3›, sh_facs_len (‹Shp.sh _ = shapeF s c›.trans (shape_3 ‹c.op = 3›))])
         ·first | (rw [mostN]; split <;> (try split) <;> omega) | (rw [lenN, if_neg ‹_›]; done) | (rw [lenN, if_pos ‹c.op = 3›, sh_facs_len (‹Shp.sh _ = shapeF s c›.trans (shape_3 ‹c.op = 3›))])
       ·rintro _u sg84 w84 fr84 hH84 ⟨e6_84, e8_84⟩
        have e2_84 := (fr84 2 rfl).trans e2_70
        have e3_84 := (fr84 3 rfl).trans e3_70
        have e4_84 := (fr84 4 rfl).trans e4_70
        have e5_84 := (fr84 5 rfl).trans e5_70
        have e7_84 := (fr84 7 rfl).trans e7_70
        refine CW.cutG (G := (Value) × (List Flt)) hH84 [5, 92, 93, 94, 95, 96, 97, 98, 99, 100, 101, 102, 103, 104, 105, 106, 107, 108, 109, 110, 111, 112, 113, 114, 115, 116, 117, 118, 119, 120, 121] (fun (L : List Ent) (⟨v5, m4⟩ : (Value) × (List Flt)) => L.set 0 (.row v5 33 2 (m4.length) (m4.flatMap fltL))) (fun (⟨v5, m4⟩ : (Value) × (List Flt)) s' => (s' 5 = v5) ∧ (m4 = m2 ++ limitF s c) ∧ (m4.length ≤ 404)) ?_ ?_
        ·refine SR ?_
         refine V (run_move e7_84) ?_
         refine V (run_notP rfl) ?_
         refine V (mV (B _) rfl) ?_
         refine RL.splitP (dj := 94) rfl (fun h86 => ?_) (fun h86 => ?_)
         ·refine RL.gT rfl (bT h86) ?_
          refine V (run_move e6_84) ?_
          refine RL.gT rfl (bT h86) ?_
          refine V (run_move e8_84) ?_
          refine RL.gT rfl (bT h86) ?_
          refine V (run_gtr rfl rfl) ?_
          refine RL.gT rfl (bT h86) ?_
          refine V (mV (B _) rfl) ?_
          refine RL.splitP (dj := 98) rfl (fun h88 => ?_) (fun h88 => ?_)
          ·refine RL.gF rfl rfl (bT h88) rfl ?_
           refine RL.gF rfl rfl (bT h88) rfl ?_
           refine RL.gF rfl rfl (bT h88) rfl ?_
           refine RL.gF rfl rfl (bT h88) rfl ?_
           refine RL.gT rfl (bT h86) ?_
           refine V (run_pickT (bT h88) (v := B true) rfl) ?_
           refine V (run_pickT (bT h86) (v := B _) rfl) ?_
           refine V (mV (B _) rfl) ?_
           refine RL.gF rfl rfl rfl rfl ?_
           refine RL.gF rfl rfl rfl rfl ?_
           refine RL.gU rfl rfl rfl ?_
           refine RL.gU rfl rfl rfl ?_
           refine RL.gU rfl rfl rfl ?_
           refine RL.gU rfl rfl rfl ?_
           refine RL.gU rfl rfl rfl ?_
           refine RL.gU rfl rfl rfl ?_
           refine RL.gF rfl rfl rfl rfl ?_
           refine V (run_pickT rfl (v := B true) rfl) ?_
           refine RL.nil ?_
           refine CW.condT rfl ?_
           refine CW.region ?_
           refine V (run_move e5_84) ?_
           refine V (fA underlying45 1 rfl sizeOf3 e3_84) ?_
           refine V (run_ld underlying3 rfl rfl (hH84.cell (i := 2) rfl (v := I _) rfl)) ?_
           refine V (run_bld (vs := [(0, I 7), (1, I _)]) rfl (built_fltL _ _)) ?_
           refine RL.new rfl hH84 (f := fun b => (.slice (some ⟨b, 0, none⟩) 1 1)) (run_mkRecs fltL_len underlying26 rfl rfl rfl (l := [(⟨7, c.place⟩ : Flt)]) rfl (by decide) (by decide) rfl) ?_
           intro b91 w89 hH90
           refine RL.app rfl hH90 (i := 1) rfl (Hp.slFlat fltL_len hH90 (i := 0) (l := [(⟨7, c.place⟩ : Flt)]) rfl (by simp [maxLen])) rfl rfl underlying26 rfl rfl (size := 2) (bytes := 16) rfl rfl rfl (by decide) (by simp [fltL, Value.oneCell']) (by simp only [List.length_cons, List.length_nil]; omega) (by simp only [maxLen, List.length_cons, List.length_nil]; omega) ?_
           intro v92 w93 hH94
           simp only [z0, z1] at hH94
           refine V (run_assign (by conv => lhs; whnf)) ?_
           refine RL.nil ?_
           refine ⟨((Fr.refl _ _)).u4.u4.u4.u4.u4.u4.u4.u1.u1.u1, (v92, (m2 ++ [⟨7, c.place⟩])), (Hp.conv (hH94.sub (sQ sR)) (by first | rfl | (simp; done))), rfl, ?_, ?_⟩
           ·first | (exfalso; omega) | rw [limit_yes (by omega)] | rw [limit_no (by omega), List.append_nil]
           ·first | omega | (simp only [List.length_append, List.length_singleton]; omega)
          ·refine RL.gT rfl (bF h88) ?_
           refine V (fA underlying25 0 rfl sizeOf22 e2_84) ?_
           refine RL.gT rfl (bF h88) ?_
           refine V (run_ldV (hs.lats.sl.hp hH84) underlying22 rfl rfl (hH84.cell (i := 3) rfl rfl)) ?_
           refine RL.gT rfl (bF h88) ?_
           refine V (run_lenSl (hs.lats.sl.hp hH84) rfl underlying22 rfl) ?_
           refine RL.gT rfl (bF h88) ?_
           refine V (run_geq rfl rfl) ?_
           refine RL.gT rfl (bT h86) ?_
           refine V (run_pickF (bF h88) (v := B _) rfl) ?_
           refine V (run_pickT (bT h86) (v := B _) rfl) ?_
           refine V (mV (B _) rfl) ?_
           refine RL.splitP (dj := 105) rfl (fun h96 => ?_) (fun h96 => ?_)
           ·refine RL.gF rfl rfl (bT h96) rfl ?_
            refine RL.gF rfl rfl (bT h96) rfl ?_
            refine RL.gU rfl rfl rfl ?_
            refine RL.gU rfl rfl rfl ?_
            refine RL.gU rfl rfl rfl ?_
            refine RL.gU rfl rfl rfl ?_
            refine RL.gU rfl rfl rfl ?_
            refine RL.gU rfl rfl rfl ?_
            refine RL.gF rfl rfl (bT h96) rfl ?_
            refine V (run_pickT (bT h96) (v := B true) rfl) ?_
            refine RL.nil ?_
            refine CW.condT rfl ?_
            refine CW.region ?_
            refine V (run_move e5_84) ?_
            refine V (fA underlying45 1 rfl sizeOf3 e3_84) ?_
            refine V (run_ld underlying3 rfl rfl (hH84.cell (i := 2) rfl (v := I _) rfl)) ?_
            refine V (run_bld (vs := [(0, I 7), (1, I _)]) rfl (built_fltL _ _)) ?_
            refine RL.new rfl hH84 (f := fun b => (.slice (some ⟨b, 0, none⟩) 1 1)) (run_mkRecs fltL_len underlying26 rfl rfl rfl (l := [(⟨7, c.place⟩ : Flt)]) rfl (by decide) (by decide) rfl) ?_
            intro b99 w97 hH98
            refine RL.app rfl hH98 (i := 1) rfl (Hp.slFlat fltL_len hH98 (i := 0) (l := [(⟨7, c.place⟩ : Flt)]) rfl (by simp [maxLen])) rfl rfl underlying26 rfl rfl (size := 2) (bytes := 16) rfl rfl rfl (by decide) (by simp [fltL, Value.oneCell']) (by simp only [List.length_cons, List.length_nil]; omega) (by simp only [maxLen, List.length_cons, List.length_nil]; omega) ?_
            intro v100 w101 hH102
            simp only [z0, z1] at hH102
            refine V (run_assign (by conv => lhs; whnf)) ?_
            refine RL.nil ?_
            refine ⟨((Fr.refl _ _)).u4.u4.u4.u4.u4.u4.u4.u1.u1.u1, (v100, (m2 ++ [⟨7, c.place⟩])), (Hp.conv (hH102.sub (sQ sR)) (by first | rfl | (simp; done))), rfl, ?_, ?_⟩
            ·first | (exfalso; omega) | rw [limit_yes (by omega)] | rw [limit_no (by omega), List.append_nil]
            ·first | omega | (simp only [List.length_append, List.length_singleton]; omega)
           ·refine RL.gT rfl (bF h96) ?_
            refine V (run_move e7_84) ?_
            refine RL.gT rfl (bF h96) ?_
            refine V (mV (B _) rfl) ?_
            refine RL.splitP (dj := 107) rfl (fun h103 => ?_) (fun h103 => ?_)
            ·refine RL.gT rfl (bT h103) ?_
             refine V (fA underlying25 1 rfl sizeOf23 e2_84) ?_
             refine RL.gT rfl (bT h103) ?_
             refine V (run_ldV (hs.vars.sl.hp hH84) underlying23 rfl rfl (hH84.cell (i := 3) rfl rfl)) ?_
             refine RL.gT rfl (bT h103) ?_
             refine V (run_lenSl (hs.vars.sl.hp hH84) rfl underlying23 rfl) ?_
             refine RL.gT rfl (bT h103) ?_
             refine V (run_move e6_84) ?_
             refine RL.gT rfl (bT h103) ?_
             refine V (run_add rfl rfl (by omega)) ?_
             refine RL.gT rfl (bT h103) ?_
             refine V (run_gtr rfl rfl) ?_
             refine RL.gT rfl (bF h96) ?_
             refine V (run_pickT (bT h103) (v := B _) rfl) ?_
             refine V (run_pickF (bF h96) (v := B _) rfl) ?_
             refine RL.nil ?_
             refine CW.condP rfl (fun h105 => ?_) (fun h105 => ?_)
             ·refine CW.region ?_
              refine V (run_move e5_84) ?_
              refine V (fA underlying45 1 rfl sizeOf3 e3_84) ?_
              refine V (run_ld underlying3 rfl rfl (hH84.cell (i := 2) rfl (v := I _) rfl)) ?_
              refine V (run_bld (vs := [(0, I 7), (1, I _)]) rfl (built_fltL _ _)) ?_
              refine RL.new rfl hH84 (f := fun b => (.slice (some ⟨b, 0, none⟩) 1 1)) (run_mkRecs fltL_len underlying26 rfl rfl rfl (l := [(⟨7, c.place⟩ : Flt)]) rfl (by decide) (by decide) rfl) ?_
              intro b108 w106 hH107
              refine RL.app rfl hH107 (i := 1) rfl (Hp.slFlat fltL_len hH107 (i := 0) (l := [(⟨7, c.place⟩ : Flt)]) rfl (by simp [maxLen])) rfl rfl underlying26 rfl rfl (size := 2) (bytes := 16) rfl rfl rfl (by decide) (by simp [fltL, Value.oneCell']) (by simp only [List.length_cons, List.length_nil]; omega) (by simp only [maxLen, List.length_cons, List.length_nil]; omega) ?_
              intro v109 w110 hH111
              simp only [z0, z1] at hH111
              refine V (run_assign (by conv => lhs; whnf)) ?_
              refine RL.nil ?_
              refine ⟨((Fr.refl _ _)).u4.u4.u4.u4.u4.u4.u4.u1.u1.u1, (v109, (m2 ++ [⟨7, c.place⟩])), (Hp.conv (hH111.sub (sQ sR)) (by first | rfl | (simp; done))), rfl, ?_, ?_⟩
              ·first | (exfalso; omega) | rw [limit_yes (by omega)] | rw [limit_no (by omega), List.append_nil]
              ·first | omega | (simp only [List.length_append, List.length_singleton]; omega)
             ·refine CW.skip ?_
              refine ⟨((Fr.refl _ _)).u4.u4.u4.u4.u4.u4, (v5, m2), (Hp.conv hH84 (by first | rfl | (simp; done))), e5_84, ?_, ?_⟩
              ·first | (exfalso; omega) | rw [limit_yes (by omega)] | rw [limit_no (by omega), List.append_nil]
              ·first | omega | (simp only [List.length_append, List.length_singleton]; omega)
            ·refine RL.gF rfl rfl (bF h103) rfl ?_
             refine RL.gF rfl rfl (bF h103) rfl ?_
             refine RL.gF rfl rfl (bF h103) rfl ?_
             refine RL.gF rfl rfl (bF h103) rfl ?_
             refine RL.gF rfl rfl (bF h103) rfl ?_
             refine RL.gF rfl rfl (bF h103) rfl ?_
             refine RL.gT rfl (bF h96) ?_
             refine V (run_pickF (bF h103) (v := B false) rfl) ?_
             refine V (run_pickF (bF h96) (v := B _) rfl) ?_
             refine RL.nil ?_
             refine CW.condF rfl ?_
             refine CW.skip ?_
             refine ⟨((Fr.refl _ _)).u4.u4.u4.u4.u4.u4, (v5, m2), (Hp.conv hH84 (by first | rfl | (simp; done))), e5_84, ?_, ?_⟩
             ·first | (exfalso; omega) | rw [limit_yes (by omega)] | rw [limit_no (by omega), List.append_nil]
             ·first | omega | (simp only [List.length_append, List.length_singleton]; omega)
         ·refine RL.gF rfl rfl (bF h86) rfl ?_
          refine RL.gF rfl rfl (bF h86) rfl ?_
          refine RL.gF rfl rfl (bF h86) rfl ?_
          refine RL.gF rfl rfl (bF h86) rfl ?_
          refine RL.gU rfl rfl rfl ?_
          refine RL.gU rfl rfl rfl ?_
          refine RL.gU rfl rfl rfl ?_
          refine RL.gU rfl rfl rfl ?_
          refine RL.gF rfl rfl (bF h86) rfl ?_
          refine V (run_pickF (bF h86) (v := B false) rfl) ?_
          refine V (mV (B _) rfl) ?_
          refine RL.gT rfl rfl ?_
          refine V (run_move e7_84) ?_
          refine RL.gT rfl rfl ?_
          refine V (mV (B _) rfl) ?_
          refine RL.splitP (dj := 107) rfl (fun h112 => ?_) (fun h112 => ?_)
          ·refine RL.gT rfl (bT h112) ?_
           refine V (fA underlying25 1 rfl sizeOf23 e2_84) ?_
           refine RL.gT rfl (bT h112) ?_
           refine V (run_ldV (hs.vars.sl.hp hH84) underlying23 rfl rfl (hH84.cell (i := 3) rfl rfl)) ?_
           refine RL.gT rfl (bT h112) ?_
           refine V (run_lenSl (hs.vars.sl.hp hH84) rfl underlying23 rfl) ?_
           refine RL.gT rfl (bT h112) ?_
           refine V (run_move e6_84) ?_
           refine RL.gT rfl (bT h112) ?_
           refine V (run_add rfl rfl (by omega)) ?_
           refine RL.gT rfl (bT h112) ?_
           refine V (run_gtr rfl rfl) ?_
           refine RL.gT rfl rfl ?_
           refine V (run_pickT (bT h112) (v := B _) rfl) ?_
           refine V (run_pickF rfl (v := B _) rfl) ?_
           refine RL.nil ?_
           refine CW.condP rfl (fun h114 => ?_) (fun h114 => ?_)
           ·refine CW.region ?_
            refine V (run_move e5_84) ?_
            refine V (fA underlying45 1 rfl sizeOf3 e3_84) ?_
            refine V (run_ld underlying3 rfl rfl (hH84.cell (i := 2) rfl (v := I _) rfl)) ?_
            refine V (run_bld (vs := [(0, I 7), (1, I _)]) rfl (built_fltL _ _)) ?_
            refine RL.new rfl hH84 (f := fun b => (.slice (some ⟨b, 0, none⟩) 1 1)) (run_mkRecs fltL_len underlying26 rfl rfl rfl (l := [(⟨7, c.place⟩ : Flt)]) rfl (by decide) (by decide) rfl) ?_
            intro b117 w115 hH116
            refine RL.app rfl hH116 (i := 1) rfl (Hp.slFlat fltL_len hH116 (i := 0) (l := [(⟨7, c.place⟩ : Flt)]) rfl (by simp [maxLen])) rfl rfl underlying26 rfl rfl (size := 2) (bytes := 16) rfl rfl rfl (by decide) (by simp [fltL, Value.oneCell']) (by simp only [List.length_cons, List.length_nil]; omega) (by simp only [maxLen, List.length_cons, List.length_nil]; omega) ?_
            intro v118 w119 hH120
            simp only [z0, z1] at hH120
            refine V (run_assign (by conv => lhs; whnf)) ?_
            refine RL.nil ?_
            refine ⟨((Fr.refl _ _)).u4.u4.u4.u4.u4.u4.u4.u1.u1.u1, (v118, (m2 ++ [⟨7, c.place⟩])), (Hp.conv (hH120.sub (sQ sR)) (by first | rfl | (simp; done))), rfl, ?_, ?_⟩
            ·first | (exfalso; omega) | rw [limit_yes (by omega)] | rw [limit_no (by omega), List.append_nil]
            ·first | omega | (simp only [List.length_append, List.length_singleton]; omega)
           ·refine CW.skip ?_
            refine ⟨((Fr.refl _ _)).u4.u4.u4.u4.u4.u4, (v5, m2), (Hp.conv hH84 (by first | rfl | (simp; done))), e5_84, ?_, ?_⟩
            ·first | (exfalso; omega) | rw [limit_yes (by omega)] | rw [limit_no (by omega), List.append_nil]
            ·first | omega | (simp only [List.length_append, List.length_singleton]; omega)
          ·refine RL.gF rfl rfl (bF h112) rfl ?_
           refine RL.gF rfl rfl (bF h112) rfl ?_
           refine RL.gF rfl rfl (bF h112) rfl ?_
           refine RL.gF rfl rfl (bF h112) rfl ?_
           refine RL.gF rfl rfl (bF h112) rfl ?_
           refine RL.gF rfl rfl (bF h112) rfl ?_
           refine RL.gT rfl rfl ?_
           refine V (run_pickF (bF h112) (v := B false) rfl) ?_
           refine V (run_pickF rfl (v := B _) rfl) ?_
           refine RL.nil ?_
           refine CW.condF rfl ?_
           refine CW.skip ?_
           refine ⟨((Fr.refl _ _)).u4.u4.u4.u4.u4.u4, (v5, m2), (Hp.conv hH84 (by first | rfl | (simp; done))), e5_84, ?_, ?_⟩
           ·first | (exfalso; omega) | rw [limit_yes (by omega)] | rw [limit_no (by omega), List.append_nil]
           ·first | omega | (simp only [List.length_append, List.length_singleton]; omega)
        ·rintro ⟨v5, m4⟩ sg121 w121 fr121 hH121 ⟨e5_121, hm8, hl8⟩
         simp only [z0, z1] at hH121
         have e4_121 := (fr121 4 rfl).trans e4_84
         refine SR ?_
         refine V (run_move e5_121) ?_
         refine RL.callP rfl hH121 (c_clearanceref13_Least _ _  _ (hH121.sl (i := 0) rfl)) (run_call1 call13 rfl) ?_
         intro w122 hH123
         refine RL.set hH123 (i := 1) rfl (run_stW (c' := (fltL _).toArray) rfl e4_121 rfl (by simp [fltL, Value.oneCell']) (hH123.blk (i := 1) rfl) rfl) ?_
         intro w124 hH125
         simp only [z0, z1] at hH125
         refine RL.nil ?_
         refine CW.ret ?_
         refine outCg Tryd.results16 e4_121 hH125 (i := 1) rfl underlying33 rfl rfl ⟨?_, hH125.below⟩
         rw [hm8, hm6, hm5, fault_is hop]

theorem c_scope_clone (K : Vu) (s : Scp) (hll : s.lats.length ≤ 1000) (hvl : s.vars.length ≤ 1000) (hfn : ∀ a ∈ s.lats, a.shp.facs.length ≤ 1000) (hnn : ∀ a ∈ s.lats, ∀ f ∈ a.shp.facs, f.names.length ≤ 1000) (w : World) (hK : Le K (Kw w)) (hs : ScpV K s) : Calls Tryd.prog 46 #[.agg (scpC s)] w (Ret (Rows2 K 56 60 s.sc w)) := by
 refine enter Tryd.func46 rfl Tryd.ntmps46 rfl ?_
 have hH := Hp.start w
 refine SR ?_
 refine RL.new rfl hH (f := fun b => (.pointer (some ⟨b, 0, none⟩))) (run_box (v := .agg _) rfl) ?_
 intro b3 w1 hH2
 refine RL.new rfl hH2 (f := fun b => (.pointer (some ⟨b, 0, none⟩))) (run_alloc Tryd.zeroValue25) ?_
 intro b6 w4 hH5
 refine RL.nil ?_
 refine SR ?_
 refine RL.new rfl hH5 (f := fun b => (.pointer (some ⟨b, 0, none⟩))) (run_alloc Tryd.zeroValue25) ?_
 intro b9 w7 hH8
 have hH10 := hH8.nilRow 60 3
 have hH11 := hH10.nilRow 56 3
 refine RL.nil ?_
 refine CW.seq ?_
 refine SR ?_
 refine V (fA underlying25 0 rfl sizeOf22 rfl) ?_
 refine V (run_ldV ((hs.mono hK).lats.sl.hp hH11) underlying22 rfl rfl (hH11.cell (i := 4) rfl rfl)) ?_
 refine V (run_lenSl ((hs.mono hK).lats.sl.hp hH11) rfl underlying22 rfl) ?_
 refine V (mV (I 0) rfl) ?_
 refine RL.nil ?_
 refine CW.block ?_
 refine CW.loop (G := (Int) × (Value) × (List LatR) × (List Ent)) (fun (⟨k, v0, ls, Z0⟩ : (Int) × (Value) × (List LatR) × (List Ent)) s' w' => (Fr [5, 9, 10, 11, 12, 13, 14, 15, 16, 17, 18, 19, 20, 21, 22, 23, 24] _ s') ∧ (Hp w w' (.row v0 56 3 (ls.length) (ls.flatMap latL) :: _ :: .blk b9 (.cells (#[v0, .slice none 0 0]) 25 (0, 0)) :: _ :: _ :: Z0)) ∧ (s' 9 = I k) ∧ (0 ≤ k) ∧ (k ≤ s.lats.length) ∧ (ls.map LatR.pl = (s.lats.take k.toNat).map LatR.pl) ∧ (LatsV (Kz K Z0) ls) ∧ ((ls.length : Int) = k)) (fun (⟨k, v0, ls, Z0⟩ : (Int) × (Value) × (List LatR) × (List Ent)) => (s.lats.length - k).toNat) ((0, (.slice none 0 0 : Value), [], [])) ⟨Fr.refl _ _, hH11, rfl, (by omega), (by omega), rfl, LatsV.nil _, rfl⟩ ?_
 rintro ⟨k, v0, ls, Z0⟩ sg12 w12 ⟨fr12, hH12, e9_12, h0, hk, hm, hF, hb⟩
 have e1_12 : sg12 1 = Pn _ _ := (fr12 1 rfl).trans rfl
 have e2_12 : sg12 2 = Pn _ _ := (fr12 2 rfl).trans rfl
 have e3_12 : sg12 3 = Pn _ _ := (fr12 3 rfl).trans rfl
 have e7_12 := (fr12 7 rfl).trans (by conv => lhs; whnf)
 have e8_12 : sg12 8 = I _ := (fr12 8 rfl).trans rfl
 refine SR ?_
 refine V (run_lss e9_12 e8_12) ?_
 refine RL.nil ?_
 refine CW.seq ?_
 refine CW.condP rfl (fun h14 => ?_) (fun h14 => ?_)
 ·refine CW.skip ?_
  refine CW.seq ?_
  refine CW.block ?_
  refine SR ?_
  refine V (run_indexAddrS ((hs.mono hK).lats.sl.hp hH12) underlying22 sizeOf56 e7_12 e9_12 (by omega)) ?_
  refine V (run_ldE (dv := lat0) latL_len ((hs.mono hK).lats.sl.hp hH12) underlying56 rfl rfl rfl (by omega)) ?_
  refine RL.new rfl hH12 (f := fun b => (.pointer (some ⟨b, 0, none⟩))) (run_alloc Tryd.zeroValue56) ?_
  intro b17 w15 hH16
  refine RL.set hH16 (i := 0) rfl (run_stW (c' := (latL _).toArray) rfl rfl rfl (latL_one ((hs.mono hK).at (by omega) (by omega))) (hH16.blk (i := 0) rfl) rfl) ?_
  intro w18 hH19
  simp only [z0, z1] at hH19
  refine RL.nil ?_
  refine CW.regionS (by kernel_rfl) hH19 (sP (sQ (sP (sQ sR)))) ?_
  intro w20 hH21
  refine AT 0 rfl (hH21.sub (sP (sQ (sP (sQ sR))))) (fun w hS => fA underlying25 0 rfl sizeOf22 e3_12) ?_
  refine AT 2 rfl (hH21.sub (sP (sQ (sP (sQ sR))))) (fun w hS => fA underlying56 0 rfl sizeOf9 rfl) ?_
  refine AT 3 rfl (hH21.sub (sP (sQ (sP (sQ sR))))) (fun w hS => run_ld underlying9 rfl rfl (hS.cell (i := 0) rfl (v := .string _) rfl)) ?_
  refine AT 4 rfl (hH21.sub (sP (sQ (sP (sQ sR))))) (fun w hS => fA underlying56 1 rfl sizeOf54 rfl) ?_
  refine AT 5 rfl (hH21.sub (sP (sQ (sP (sQ sR))))) (fun w hS => run_ldSub (sub := shpL _) underlying54 rfl rfl rfl (hS.blk (i := 0) rfl) rfl) ?_
  refine AN.two 1 6 (by kernel_rfl) ?_ ?_
  ·refine AO.read rfl gnone rfl hH21 (sP (sQ (sP (sQ sR)))) (run_ld underlying22 rfl rfl (hH21.cell (i := 3) rfl rfl)) ?_
   refine A1 6 ?_
   refine AO.callF rfl gnone rfl hH21 (sP (sQ (sP (sQ sR)))) (c_scope_copied K (s.lats.getD k.toNat lat0).shp (hfn _ (List.mem_of_getElem? (getD_at (d := lat0) h0 ‹k < _›))) (hnn _ (List.mem_of_getElem? (getD_at (d := lat0) h0 ‹k < _›))) _ (hK.trans hH21.kw) (hs.at h0 ‹_›)) (run_call1 call75 rfl) ?_
   intro v26 w27 Z29 hH28 hp30
   have hH31 : Hp _ w27 (_ :: _ :: _ :: _ :: _ :: _ :: (Z29 ++ Z0)) := hH28.zin (L := [_, _, _, _, _, _]) (L' := Z0)
   obtain ⟨p32, rfl, psh33, pv34⟩ := hp30
   refine AT 7 rfl (hH31.sub (sP (sQ (sP (sQ (sP (sP (sA sR)))))))) (fun w hS => run_bld (vs := [(0, S _), (1, .agg (shpC p32))]) rfl (built_lat _ p32)) ?_
   refine A1 8 ?_
   refine AO.new rfl gnone rfl hH31 (sP (sQ (sP (sQ (sP (sP (sA sR))))))) (f := fun b => .slice (some ⟨b, 0, none⟩) 1 1) (run_mkRecs latL_len underlying22 rfl rfl rfl (l := [(⟨(s.lats.getD k.toNat lat0).name, p32⟩ : LatR)]) rfl (by decide) (by decide) rfl) ?_
   intro b37 w35 hH36
   refine A1 9 ?_
   refine AO.app rfl gnone rfl hH36 (j := 2) rfl (fun _ => (sQ (sP (sQ (sP (sQ (sP (sP (sA sR))))))))) (Hp.slFlat latL_len hH36 (i := 0) (l := [(⟨(s.lats.getD k.toNat lat0).name, p32⟩ : LatR)]) rfl (by simp [maxLen])) rfl rfl underlying22 rfl rfl (size := 3) (bytes := 48) rfl rfl rfl (by decide) (lats1_one pv34) (by simp only [List.length_cons, List.length_nil]; omega) (by simp only [maxLen, List.length_cons, List.length_nil]; omega) ?_
   intro v40 w38 hH39
   simp only [z0, z1] at hH39
   refine AT 10 rfl (hH39.sub (sQ (sP (sQ (sP (sQ (sP (sP (sA sR))))))))) (fun w hS => fA underlying25 0 rfl sizeOf22 e3_12) ?_
   refine A1 11 ?_
   refine AO.set rfl gnone hH39 (j := 4) rfl (sQ (sP (sQ (sP (sQ (sP (sP (sA sR)))))))) (run_st rfl rfl (v := v40) rfl (row_cells (hH39.get (i := 2) rfl)).1 (row_cells (hH39.get (i := 2) rfl)).2 (hH39.blk (i := 4) rfl) (by first | (show 0 < 2; decide) | decide | (simp only [List.size_toArray, scpL_len]; decide) | simp)) ?_
   intro w43 hH44
   simp only [z0, z1] at hH44
   refine AD ?_
   refine CW.region ?_
   refine V (run_add e9_12 rfl (by omega)) ?_
   refine V (mV (I _) rfl) ?_
   refine RL.nil ?_
   refine ⟨(k + 1, v40, (ls ++ [⟨(s.lats.getD k.toNat lat0).name, p32⟩]), (Z29 ++ Z0)), ?_, fr12.u4.u4.u4.u4.u1, (Hp.conv (hH44.sub (sQ (sQ sR))) (by first | rfl | simp)), (congrArg I (by first | rfl | omega)), ?_, ?_, ?_, ?_, ?_⟩
   ·((try dsimp only); omega)
   ·omega
   ·omega
   ·rw [lats_next h0 ‹_›, List.map_append, hm]; simp only [List.map_cons, List.map_nil, LatR.pl]; rw [psh33]
   ·exact (hF.mono Le.zin).snoc (pv34.mono Le.zout)
   ·simp only [List.length_append, List.length_singleton]; omega
  ·refine AO.callF rfl gnone rfl hH21 (sP (sQ (sP (sQ sR)))) (c_scope_copied K (s.lats.getD k.toNat lat0).shp (hfn _ (List.mem_of_getElem? (getD_at (d := lat0) h0 ‹k < _›))) (hnn _ (List.mem_of_getElem? (getD_at (d := lat0) h0 ‹k < _›))) _ (hK.trans hH21.kw) (hs.at h0 ‹_›)) (run_call1 call75 rfl) ?_
   intro v47 w48 Z50 hH49 hp51
   have hH52 : Hp _ w48 (_ :: _ :: _ :: _ :: _ :: _ :: (Z50 ++ Z0)) := hH49.zin (L := [_, _, _, _, _, _]) (L' := Z0)
   obtain ⟨p53, rfl, psh54, pv55⟩ := hp51
   refine AT 7 rfl (hH52.sub (sP (sQ (sP (sQ (sP (sP (sA sR)))))))) (fun w hS => run_bld (vs := [(0, S _), (1, .agg (shpC p53))]) rfl (built_lat _ p53)) ?_
   refine AN.two 1 8 (by kernel_rfl) ?_ ?_
   ·refine AO.read rfl gnone rfl hH52 (sP (sQ (sP (sQ (sP (sP (sA sR))))))) (run_ld underlying22 rfl rfl (hH52.cell (i := 3) rfl rfl)) ?_
    refine A1 8 ?_
    refine AO.new rfl gnone rfl hH52 (sP (sQ (sP (sQ (sP (sP (sA sR))))))) (f := fun b => .slice (some ⟨b, 0, none⟩) 1 1) (run_mkRecs latL_len underlying22 rfl rfl rfl (l := [(⟨(s.lats.getD k.toNat lat0).name, p53⟩ : LatR)]) rfl (by decide) (by decide) rfl) ?_
    intro b60 w58 hH59
    refine A1 9 ?_
    refine AO.app rfl gnone rfl hH59 (j := 2) rfl (fun _ => (sQ (sP (sQ (sP (sQ (sP (sP (sA sR))))))))) (Hp.slFlat latL_len hH59 (i := 0) (l := [(⟨(s.lats.getD k.toNat lat0).name, p53⟩ : LatR)]) rfl (by simp [maxLen])) rfl rfl underlying22 rfl rfl (size := 3) (bytes := 48) rfl rfl rfl (by decide) (lats1_one pv55) (by simp only [List.length_cons, List.length_nil]; omega) (by simp only [maxLen, List.length_cons, List.length_nil]; omega) ?_
    intro v63 w61 hH62
    simp only [z0, z1] at hH62
    refine AT 10 rfl (hH62.sub (sQ (sP (sQ (sP (sQ (sP (sP (sA sR))))))))) (fun w hS => fA underlying25 0 rfl sizeOf22 e3_12) ?_
    refine A1 11 ?_
    refine AO.set rfl gnone hH62 (j := 4) rfl (sQ (sP (sQ (sP (sQ (sP (sP (sA sR)))))))) (run_st rfl rfl (v := v63) rfl (row_cells (hH62.get (i := 2) rfl)).1 (row_cells (hH62.get (i := 2) rfl)).2 (hH62.blk (i := 4) rfl) (by first | (show 0 < 2; decide) | decide | (simp only [List.size_toArray, scpL_len]; decide) | simp)) ?_
    intro w66 hH67
    simp only [z0, z1] at hH67
    refine AD ?_
    refine CW.region ?_
    refine V (run_add e9_12 rfl (by omega)) ?_
    refine V (mV (I _) rfl) ?_
    refine RL.nil ?_
    refine ⟨(k + 1, v63, (ls ++ [⟨(s.lats.getD k.toNat lat0).name, p53⟩]), (Z50 ++ Z0)), ?_, fr12.u4.u4.u4.u4.u1, (Hp.conv (hH67.sub (sQ (sQ sR))) (by first | rfl | simp)), (congrArg I (by first | rfl | omega)), ?_, ?_, ?_, ?_, ?_⟩
    ·((try dsimp only); omega)
    ·omega
    ·omega
    ·rw [lats_next h0 ‹_›, List.map_append, hm]; simp only [List.map_cons, List.map_nil, LatR.pl]; rw [psh54]
    ·exact (hF.mono Le.zin).snoc (pv55.mono Le.zout)
    ·simp only [List.length_append, List.length_singleton]; omega
   ·refine AO.new rfl gnone rfl hH52 (sP (sQ (sP (sQ (sP (sP (sA sR))))))) (f := fun b => .slice (some ⟨b, 0, none⟩) 1 1) (run_mkRecs latL_len underlying22 rfl rfl rfl (l := [(⟨(s.lats.getD k.toNat lat0).name, p53⟩ : LatR)]) rfl (by decide) (by decide) rfl) ?_
    intro b70 w68 hH69
    refine A1 1 ?_
    refine AO.read rfl gnone rfl hH69 (sQ (sP (sQ (sP (sQ (sP (sP (sA sR)))))))) (run_ld underlying22 rfl rfl (hH69.cell (i := 4) rfl rfl)) ?_
    refine A1 9 ?_
    refine AO.app rfl gnone rfl hH69 (j := 2) rfl (fun _ => (sQ (sP (sQ (sP (sQ (sP (sP (sA sR))))))))) (Hp.slFlat latL_len hH69 (i := 0) (l := [(⟨(s.lats.getD k.toNat lat0).name, p53⟩ : LatR)]) rfl (by simp [maxLen])) rfl rfl underlying22 rfl rfl (size := 3) (bytes := 48) rfl rfl rfl (by decide) (lats1_one pv55) (by simp only [List.length_cons, List.length_nil]; omega) (by simp only [maxLen, List.length_cons, List.length_nil]; omega) ?_
    intro v75 w73 hH74
    simp only [z0, z1] at hH74
    refine AT 10 rfl (hH74.sub (sQ (sP (sQ (sP (sQ (sP (sP (sA sR))))))))) (fun w hS => fA underlying25 0 rfl sizeOf22 e3_12) ?_
    refine A1 11 ?_
    refine AO.set rfl gnone hH74 (j := 4) rfl (sQ (sP (sQ (sP (sQ (sP (sP (sA sR)))))))) (run_st rfl rfl (v := v75) rfl (row_cells (hH74.get (i := 2) rfl)).1 (row_cells (hH74.get (i := 2) rfl)).2 (hH74.blk (i := 4) rfl) (by first | (show 0 < 2; decide) | decide | (simp only [List.size_toArray, scpL_len]; decide) | simp)) ?_
    intro w78 hH79
    simp only [z0, z1] at hH79
    refine AD ?_
    refine CW.region ?_
    refine V (run_add e9_12 rfl (by omega)) ?_
    refine V (mV (I _) rfl) ?_
    refine RL.nil ?_
    refine ⟨(k + 1, v75, (ls ++ [⟨(s.lats.getD k.toNat lat0).name, p53⟩]), (Z50 ++ Z0)), ?_, fr12.u4.u4.u4.u4.u1, (Hp.conv (hH79.sub (sQ (sQ sR))) (by first | rfl | simp)), (congrArg I (by first | rfl | omega)), ?_, ?_, ?_, ?_, ?_⟩
    ·((try dsimp only); omega)
    ·omega
    ·omega
    ·rw [lats_next h0 ‹_›, List.map_append, hm]; simp only [List.map_cons, List.map_nil, LatR.pl]; rw [psh54]
    ·exact (hF.mono Le.zin).snoc (pv55.mono Le.zout)
    ·simp only [List.length_append, List.length_singleton]; omega
 ·refine CW.exit (id := 0) rfl ?_
  refine SR ?_
  refine V (fA underlying25 1 rfl sizeOf23 e3_12) ?_
  refine V (run_ld underlying23 rfl rfl (hH12.cell (i := 2) rfl rfl)) ?_
  refine V (fA underlying25 1 rfl sizeOf23 e1_12) ?_
  refine V (run_ldV ((hs.mono hK).vars.sl.hp hH12) underlying23 rfl rfl (hH12.cell (i := 4) rfl rfl)) ?_
  refine RL.app rfl hH12 (i := 1) rfl ((hs.mono hK).vars.sl.hp hH12) rfl rfl underlying23 rfl rfl (size := 3) (bytes := 32) rfl rfl rfl (by decide) (vars_one _) (by omega) (by simp only [maxLen]; omega) ?_
  intro v80 w81 hH82
  simp only [z0, z1] at hH82
  refine V (fA underlying25 1 rfl sizeOf23 e3_12) ?_
  refine RL.set hH82 (i := 2) rfl (run_st rfl rfl (v := v80) rfl (row_cells (hH82.get (i := 1) rfl)).1 (row_cells (hH82.get (i := 1) rfl)).2 (hH82.blk (i := 2) rfl) (by first | (show 1 < 2; decide) | decide | (simp only [List.size_toArray, scpL_len]; decide) | simp)) ?_
  intro w83 hH84
  simp only [z0, z1] at hH84
  refine RL.nil ?_
  refine SR ?_
  refine V (run_ldA (cs := [v0, v80]) underlying25 rfl rfl e3_12 (rangeAt_cells (hH84.blk (i := 2) rfl))) ?_
  refine RL.set hH84 (i := 3) rfl (run_stW (c' := #[v0, v80]) rfl e2_12 rfl (one_2 (row_cells (hH84.get (i := 0) rfl)).2 (row_cells (hH84.get (i := 1) rfl)).2) (hH84.blk (i := 3) rfl) rfl) ?_
  intro w85 hH86
  simp only [z0, z1] at hH86
  refine RL.nil ?_
  refine CW.ret ?_
  refine outCg Tryd.results46 e2_12 hH86 (i := 3) rfl underlying25 rfl rfl ⟨v0, _, v80, Z0, rfl, Hp.conv ((hH86.perm pR).sub (sP (sP (sQ (sQ (sQ sR)))))) (by first | rfl | (simp [Scp.sc]; done)), hF, ?_⟩
  rw [hm, List.take_of_length_le (by omega)]; rfl

theorem c_scope_Add (K : Vu) (s : Scp) (c : CmdR) (hsm : Sm s c) (w : World) (hK : Le K (Kw w)) (hs : ScpV K s) (hc : CmdV K c) (hT : Tab w) : Calls Tryd.prog 19 #[.agg (scpC s), .agg (cmdL c).toArray] w (PureF K (fun K' u => ∃ q : Scp, u = .agg (scpC q) ∧ q.sc = addF s c ∧ ScpV K' q) w) := by
 have hm1 := hsm.nl
 have hm2 := hsm.vl
 have hm3 := hsm.ll
 refine enter Tryd.func19 rfl Tryd.ntmps19 rfl ?_
 have hH := Hp.start w
 refine SR ?_
 refine RL.new rfl hH (f := fun b => (.pointer (some ⟨b, 0, none⟩))) (run_box (v := .agg _) rfl) ?_
 intro b3 w1 hH2
 refine RL.new rfl hH2 (f := fun b => (.pointer (some ⟨b, 0, none⟩))) (run_box (v := .agg _) rfl) ?_
 intro b6 w4 hH5
 refine RL.new rfl hH5 (f := fun b => (.pointer (some ⟨b, 0, none⟩))) (run_alloc Tryd.zeroValue25) ?_
 intro b9 w7 hH8
 refine RL.nil ?_
 refine SR ?_
 refine V (run_ldA (cs := scpL _) underlying25 rfl rfl rfl (rangeAt_cells (hH8.blk (i := 2) rfl))) ?_
 refine RL.callT rfl (c_scope_clone K s (by have := hsm.ll; omega) (by have := hsm.vl; omega) (fun a ha => by have := hsm.fn a ha; omega) (fun a ha f hf => by have := hsm.nn a ha f hf; omega) _ (hK.trans hH8.kw) hs) (run_call1 call46 rfl) ?_
 rintro _ w19 ⟨v12, ls13, v14, Z15, rfl, hz16, hv17, hm18⟩
 have hH21 : Hp _ w19 (_ :: _ :: _ :: _ :: _ :: (Z15 ++ [])) := Hp.zin2 (L := [_, _, _]) (L' := []) (hH8.callZ hz16)
 have hln22 : ls13.length = s.lats.length := by have := congrArg List.length hm18; simpa [Scp.sc] using this
 refine RL.new rfl hH21 (f := fun b => (.pointer (some ⟨b, 0, none⟩))) (run_alloc Tryd.zeroValue25) ?_
 intro b25 w23 hH24
 refine RL.set hH24 (i := 0) rfl (run_stW (c' := #[v12, v14]) rfl rfl rfl (one_2 (row_cells (hH24.get (i := 1) rfl)).2 (row_cells (hH24.get (i := 2) rfl)).2) (hH24.blk (i := 0) rfl) rfl) ?_
 intro w26 hH27
 simp only [z0, z1] at hH27
 refine RL.nil ?_
 refine CW.seq ?_
 refine SR ?_
 refine V (run_ldA (cs := scpL _) underlying25 rfl rfl rfl (rangeAt_cells (hH27.blk (i := 5) rfl))) ?_
 refine V (run_ldA (cs := cmdL _) underlying45 rfl rfl rfl (rangeAt_cells (hH27.blk (i := 4) rfl))) ?_
 refine RL.callP rfl hH27 (c_scope_Fault _ _ (hsm) _ ((hs.mono hK).mono hH27.kw) ((hc.mono hK).mono hH27.kw) (hT.hp hH27)) (run_call2 call15 rfl rfl) ?_
 intro w28 hH29
 refine V (run_field underlying33 rfl isAgg3 rfl rfl) ?_
 refine V (run_neq rfl rfl) ?_
 refine RL.nil ?_
 refine CW.condP rfl (fun h31 => ?_) (fun h31 => ?_)
 ·refine SR ?_
  obtain ⟨Z32, hz33, hv34, -⟩ := (hH29.perm (((pC pR).trans pS).trans (pC pR))).frz (K)
  have hH35 : Hp _ w28 (_ :: _ :: _ :: _ :: _ :: (Z32 ++ (Z15 ++ []))) := hz33.zin (L := [_, _, _, _, _]) (L' := (Z15 ++ []))
  obtain ⟨Z36, hz37, hv38, -⟩ := (hH35.perm (((pC pR).trans pS).trans (pC pR))).frz (K)
  have hH39 : Hp _ w28 (_ :: _ :: _ :: _ :: (Z36 ++ (Z32 ++ (Z15 ++ [])))) := hz37.zin (L := [_, _, _, _]) (L' := (Z32 ++ (Z15 ++ [])))
  have hp40 : ScpV (Kz K (Z36 ++ (Z32 ++ (Z15 ++ [])))) ⟨v12, ls13, v14, s.vars⟩ := ⟨by simpa using hv34.mono (Le.zz (fun x hx => (List.mem_append_right _ (List.mem_append_left _ hx)))), by simpa [Scp.sc] using hv38.mono (Le.zz (fun x hx => (List.mem_append_left _ hx))), (hv17.mono (Le.zz (fun x hx => (List.mem_append_right _ (List.mem_append_right _ (List.mem_append_left _ hx)))))).each⟩
  refine V (run_ldA (cs := scpL (⟨v12, ls13, v14, s.vars⟩ : Scp)) underlying25 rfl rfl rfl (rangeAt_cells (hH39.blk (i := 0) rfl))) ?_
  refine RL.set hH39 (i := 1) rfl (run_stW (c' := (scpL ⟨v12, ls13, v14, s.vars⟩).toArray) rfl rfl rfl (scpL_one hp40) (hH39.blk (i := 1) rfl) rfl) ?_
  intro w41 hH42
  simp only [z0, z1] at hH42
  refine RL.nil ?_
  refine CW.ret ?_
  refine outCg Tryd.results19 rfl hH42 (i := 1) rfl underlying25 rfl rfl ⟨(Z36 ++ (Z32 ++ (Z15 ++ []))), (hH42.sub (sQ (sQ (sQ (sQ sR))))), ⟨v12, ls13, v14, s.vars⟩, rfl, ?_, ?_⟩
  ·show (⟨_, _⟩ : Sc) = _; first | (exfalso; omega) | (rw [add_0 ‹_›]; simp [Scp.sc, *]; done) | (rw [add_1 ‹_› (by omega)]; simp [Scp.sc, LatR.pl, *]; done) | (rw [add_2 ‹_› (by omega), hvk ‹_›]; simp [Scp.sc, ‹List.map LatR.pl _ = _›]; done) | (rw [add_2 ‹_› (by omega)]; simp [Scp.sc, *]; done) | (rw [add_3 (by omega) (by omega)]; simp [Scp.sc, *]; done)
  ·exact hp40
 ·refine CW.skip ?_
  refine CW.seq ?_
  refine SR ?_
  refine V (fA underlying45 0 rfl sizeOf3 rfl) ?_
  refine V (run_ld underlying3 rfl rfl (hH29.cell (i := 4) rfl (v := I _) rfl)) ?_
  refine RL.callP rfl hH29 (c_scope_lattice _  _) (run_call1 call27 rfl) ?_
  intro w43 hH44
  refine RL.nil ?_
  refine CW.condP rfl (fun h47 => ?_) (fun h47 => ?_)
  ·refine CW.regionS (by kernel_rfl) hH44 (sQ (sQ sR)) ?_
   intro w48 hH49
   refine AT 0 rfl (hH49.sub (sQ (sQ sR))) (fun w hS => fA underlying25 0 rfl sizeOf22 rfl) ?_
   refine AT 2 rfl (hH49.sub (sQ (sQ sR))) (fun w hS => fA underlying45 2 rfl sizeOf38 rfl) ?_
   refine AT 3 rfl (hH49.sub (sQ (sQ sR))) (fun w hS => fA underlying38 0 rfl sizeOf9 rfl) ?_
   refine AT 4 rfl (hH49.sub (sQ (sQ sR))) (fun w hS => run_ld underlying9 rfl rfl (hS.cell (i := 2) rfl (v := .string _) rfl)) ?_
   refine AT 5 rfl (hH49.sub (sQ (sQ sR))) (fun w hS => run_ldA (cs := scpL _) underlying25 rfl rfl rfl (rangeAt_cells (hS.blk (i := 3) rfl))) ?_
   refine AT 6 rfl (hH49.sub (sQ (sQ sR))) (fun w hS => run_ldA (cs := cmdL _) underlying45 rfl rfl rfl (rangeAt_cells (hS.blk (i := 2) rfl))) ?_
   refine AN.two 1 7 (by kernel_rfl) ?_ ?_
   ·refine AO.read rfl gnone rfl hH49 (sQ (sQ sR)) (run_ld underlying22 rfl rfl (hH49.cell (i := 0) rfl rfl)) ?_
    refine A1 7 ?_
    refine AO.callF rfl gnone rfl hH49 (sQ (sQ sR)) (c_scope_Shape K s c hsm _ (hK.trans hH49.kw) hs hc) (run_call2 call23 rfl rfl) ?_
    intro v54 w55 Z57 hH56 hp58
    have hH59 : Hp _ w55 (_ :: _ :: _ :: _ :: _ :: _ :: (Z57 ++ (Z15 ++ []))) := hH56.zin (L := [_, _, _, _, _, _]) (L' := (Z15 ++ []))
    obtain ⟨p60, rfl, psh61, pv62⟩ := hp58
    refine AT 8 rfl (hH59.sub (sQ (sQ (sP (sP (sP (sP (sA sR)))))))) (fun w hS => run_bld (vs := [(0, S _), (1, .agg (shpC p60))]) rfl (built_lat _ p60)) ?_
    refine A1 9 ?_
    refine AO.new rfl gnone rfl hH59 (sQ (sQ (sP (sP (sP (sP (sA sR))))))) (f := fun b => .slice (some ⟨b, 0, none⟩) 1 1) (run_mkRecs latL_len underlying22 rfl rfl rfl (l := [(⟨c.name.text, p60⟩ : LatR)]) rfl (by decide) (by decide) rfl) ?_
    intro b65 w63 hH64
    refine A1 10 ?_
    refine AO.app rfl gnone rfl hH64 (j := 2) rfl (fun _ => (sQ (sQ (sQ (sP (sP (sP (sP (sA sR))))))))) (Hp.slFlat latL_len hH64 (i := 0) (l := [(⟨c.name.text, p60⟩ : LatR)]) rfl (by simp [maxLen])) rfl rfl underlying22 rfl rfl (size := 3) (bytes := 48) rfl rfl rfl (by decide) (lats1_one pv62) (by simp only [List.length_cons, List.length_nil]; omega) (by simp only [maxLen, List.length_cons, List.length_nil]; omega) ?_
    intro v68 w66 hH67
    simp only [z0, z1] at hH67
    refine AT 11 rfl (hH67.sub (sQ (sQ (sQ (sP (sP (sP (sP (sA sR))))))))) (fun w hS => fA underlying25 0 rfl sizeOf22 rfl) ?_
    refine A1 12 ?_
    refine AO.set rfl gnone hH67 (j := 1) rfl (sQ (sQ (sQ (sP (sP (sP (sP (sA sR)))))))) (run_st rfl rfl (v := v68) rfl (row_cells (hH67.get (i := 2) rfl)).1 (row_cells (hH67.get (i := 2) rfl)).2 (hH67.blk (i := 1) rfl) (by first | (show 0 < 2; decide) | decide | (simp only [List.size_toArray, scpL_len]; decide) | simp)) ?_
    intro w71 hH72
    simp only [z0, z1] at hH72
    refine AD ?_
    refine CW.seq ?_
    refine SR ?_
    refine V (fA underlying45 0 rfl sizeOf3 rfl) ?_
    refine V (run_ld underlying3 rfl rfl (hH72.cell (i := 5) rfl (v := I _) rfl)) ?_
    refine RL.callP rfl hH72 (c_scope_variables _  _) (run_call1 call28 rfl) ?_
    intro w73 hH74
    refine RL.nil ?_
    refine CW.condP rfl (fun h77 => ?_) (fun h77 => ?_)
    ·refine SR ?_
     refine V (aV (I 1) rfl) ?_
     refine RL.nil ?_
     refine CW.cutG (G := Unit) hH74 [6, 37, 38, 39] (fun (L : List Ent) (_u : Unit) => L) (fun (_u : Unit) s' => (s' 6 = I (kindF c))) ?_ ?_
     ·refine SR ?_
      refine V (fA underlying45 0 rfl sizeOf3 rfl) ?_
      refine V (run_ld underlying3 rfl rfl (hH74.cell (i := 5) rfl (v := I _) rfl)) ?_
      refine V (run_eql rfl rfl) ?_
      refine RL.nil ?_
      refine CW.condP rfl (fun h79 => ?_) (fun h79 => ?_)
      ·refine CW.region ?_
       refine V (aV (I 2) rfl) ?_
       refine RL.nil ?_
       refine ⟨((Fr.refl _ _)).u4, (), hH74, (congrArg I ?_)⟩
       ·(rw [kindF]; split <;> omega)
      ·refine CW.skip ?_
       refine ⟨((Fr.refl _ _)).u1.u1.u1, (), hH74, (congrArg I ?_)⟩
       ·(rw [kindF]; split <;> omega)
     ·rintro _u sg80 w80 fr80 hH80 e6_80
      have e2_80 : sg80 2 = Pn _ _ := (fr80 2 rfl).trans rfl
      have e3_80 : sg80 3 = Pn _ _ := (fr80 3 rfl).trans rfl
      have e4_80 : sg80 4 = Pn _ _ := (fr80 4 rfl).trans rfl
      have e5_80 : sg80 5 = Pn _ _ := (fr80 5 rfl).trans rfl
      refine SR ?_
      refine V (run_ldA (cs := scpL _) underlying25 rfl rfl e2_80 (rangeAt_cells (hH80.blk (i := 6) rfl))) ?_
      refine V (fA underlying45 2 rfl sizeOf38 e3_80) ?_
      refine V (fA underlying38 0 rfl sizeOf9 rfl) ?_
      refine V (run_ld underlying9 rfl rfl (hH80.cell (i := 5) rfl (v := .string _) rfl)) ?_
      refine RL.callP rfl hH80 (c_scope_Find _ _  _ ((hs.mono hK).mono hH80.kw)) (run_call2 call9 rfl rfl) ?_
      intro w81 hH82
      refine V (run_move (by conv => lhs; whnf)) ?_
      refine V (run_extract rfl (v := I _) rfl) ?_
      refine V (run_extract rfl (v := I _) rfl) ?_
      refine V (aV (I _) rfl) ?_
      refine V (aV (I _) rfl) ?_
      refine RL.nil ?_
      refine SR ?_
      refine V (fA underlying45 4 rfl sizeOf39 e3_80) ?_
      refine V (run_ldV ((hc.mono hK).names.sl.hp hH82) underlying39 rfl rfl (hH82.cell (i := 5) rfl rfl)) ?_
      refine V (run_lenSl ((hc.mono hK).names.sl.hp hH82) rfl underlying39 rfl) ?_
      refine V (mV (I 0) rfl) ?_
      refine RL.nil ?_
      refine CW.block ?_
      refine CW.loop (G := (Int) × (Value) × (List VarR)) (fun (⟨k, fv1, vs⟩ : (Int) × (Value) × (List VarR)) s' w' => (Fr [10, 51, 52, 53, 54, 55, 56, 57, 58, 59, 60, 61, 62, 63, 64, 65] _ s') ∧ (Hp w w' (_ :: .blk b25 (.cells (#[v68, fv1]) 25 (0, 0)) :: _ :: .row fv1 60 3 (vs.length) (vs.flatMap varL) :: _)) ∧ (s' 51 = I k) ∧ (0 ≤ k) ∧ (k ≤ c.names.length) ∧ (vs = s.vars ++ (varsF s c).take k.toNat) ∧ ((vs.length : Int) = s.vars.length + k)) (fun (⟨k, fv1, vs⟩ : (Int) × (Value) × (List VarR)) => (c.names.length - k).toNat) ((0, (v14 : Value), s.vars)) ⟨Fr.refl _ _, hH82, rfl, (by omega), (by omega), (List.append_nil _).symm, (by simp)⟩ ?_
      rintro ⟨k, fv1, vs⟩ sg83 w83 ⟨fr83, hH83, e51_83, h0, hk, hvs, hvl⟩
      have e4_83 := (fr83 4 rfl).trans e4_80
      have e5_83 := (fr83 5 rfl).trans e5_80
      have e6_83 := (fr83 6 rfl).trans e6_80
      have e7_83 : sg83 7 = I _ := (fr83 7 rfl).trans rfl
      have e49_83 := (fr83 49 rfl).trans (by conv => lhs; whnf)
      have e50_83 : sg83 50 = I _ := (fr83 50 rfl).trans rfl
      have hvk : ¬ k < c.names.length → vs = s.vars ++ varsF s c := fun h => by rw [hvs, List.take_of_length_le (by rw [varsF_len]; omega)]
      refine SR ?_
      refine V (run_lss e51_83 e50_83) ?_
      refine RL.nil ?_
      refine CW.seq ?_
      refine CW.condP rfl (fun h85 => ?_) (fun h85 => ?_)
      ·refine CW.skip ?_
       refine CW.seq ?_
       refine CW.block ?_
       refine SR ?_
       refine V (run_indexAddrS ((hc.mono hK).names.sl.hp hH83) underlying39 sizeOf38 e49_83 e51_83 (by omega)) ?_
       refine V (run_ldE (dv := wd0) wdL_len ((hc.mono hK).names.sl.hp hH83) underlying38 rfl rfl rfl (by omega)) ?_
       refine RL.new rfl hH83 (f := fun b => (.pointer (some ⟨b, 0, none⟩))) (run_alloc Tryd.zeroValue38) ?_
       intro b88 w86 hH87
       refine RL.set hH87 (i := 0) rfl (run_stW (c' := (wdL _).toArray) rfl rfl rfl (by simp [wdL, Value.oneCell']) (hH87.blk (i := 0) rfl) rfl) ?_
       intro w89 hH90
       simp only [z0, z1] at hH90
       refine RL.nil ?_
       refine CW.region ?_
       refine V (fA underlying25 1 rfl sizeOf23 e5_83) ?_
       refine V (run_ld underlying23 rfl rfl (hH90.cell (i := 2) rfl rfl)) ?_
       refine V (fA underlying38 0 rfl sizeOf9 rfl) ?_
       refine V (run_ld underlying9 rfl rfl (hH90.cell (i := 0) rfl (v := .string _) rfl)) ?_
       refine V (run_move e6_83) ?_
       refine V (run_move e7_83) ?_
       refine V (run_bld (vs := [(0, S _), (1, I _), (2, I _)]) rfl (built_varL _ _ _)) ?_
       refine RL.new rfl hH90 (f := fun b => (.slice (some ⟨b, 0, none⟩) 1 1)) (run_mkRecs varL_len underlying23 rfl rfl rfl (l := [(⟨(c.names.getD k.toNat wd0).text, kindF c, findLat s c.name.text⟩ : VarR)]) rfl (by decide) (by decide) rfl) ?_
       intro b93 w91 hH92
       refine RL.app rfl hH92 (i := 5) rfl (Hp.slFlat varL_len hH92 (i := 0) (l := [(⟨(c.names.getD k.toNat wd0).text, kindF c, findLat s c.name.text⟩ : VarR)]) rfl (by simp [maxLen])) rfl rfl underlying23 rfl rfl (size := 3) (bytes := 32) rfl rfl rfl (by decide) (by simp [varL, Value.oneCell']) (by simp only [List.length_cons, List.length_nil]; omega) (by simp only [maxLen, List.length_cons, List.length_nil]; omega) ?_
       intro v94 w95 hH96
       simp only [z0, z1] at hH96
       refine V (fA underlying25 1 rfl sizeOf23 e5_83) ?_
       refine RL.set hH96 (i := 3) rfl (run_st rfl rfl (v := v94) rfl (row_cells (hH96.get (i := 5) rfl)).1 (row_cells (hH96.get (i := 5) rfl)).2 (hH96.blk (i := 3) rfl) (by first | (show 1 < 2; decide) | decide | (simp only [List.size_toArray, scpL_len]; decide) | simp)) ?_
       intro w97 hH98
       simp only [z0, z1] at hH98
       refine RL.nil ?_
       refine CW.region ?_
       refine V (run_add e51_83 rfl (by omega)) ?_
       refine V (mV (I _) rfl) ?_
       refine RL.nil ?_
       refine ⟨(k + 1, v94, (vs ++ [⟨(c.names.getD k.toNat wd0).text, kindF c, findLat s c.name.text⟩])), ?_, fr83.u4.u4.u4.u4, (Hp.conv (hH98.sub (sQ (sQ sR))) (by first | rfl | simp)), (congrArg I (by first | rfl | omega)), ?_, ?_, ?_, ?_⟩
       ·((try dsimp only); omega)
       ·omega
       ·omega
       ·rw [vars_next h0 ‹k < _›, hvs, List.append_assoc]
       ·simp only [List.length_append, List.length_singleton]; omega
      ·refine CW.exit (id := 0) rfl ?_
       refine SR ?_
       obtain ⟨Z99, hz100, hv101, -⟩ := (hH83.perm (((pC ((pC pR).trans pS)).trans pS).trans (pC pR))).frz (K)
       have hH102 : Hp _ w83 (_ :: _ :: _ :: _ :: _ :: _ :: (Z99 ++ (Z57 ++ (Z15 ++ [])))) := hz100.zin (L := [_, _, _, _, _, _]) (L' := (Z57 ++ (Z15 ++ [])))
       obtain ⟨Z103, hz104, hv105, -⟩ := (hH102.perm (((pC ((pC pR).trans pS)).trans pS).trans (pC pR))).frz (K)
       have hH106 : Hp _ w83 (_ :: _ :: _ :: _ :: _ :: (Z103 ++ (Z99 ++ (Z57 ++ (Z15 ++ []))))) := hz104.zin (L := [_, _, _, _, _]) (L' := (Z99 ++ (Z57 ++ (Z15 ++ []))))
       have hp107 : ScpV (Kz K (Z103 ++ (Z99 ++ (Z57 ++ (Z15 ++ []))))) ⟨v68, (ls13 ++ [⟨c.name.text, p60⟩]), fv1, vs⟩ := ⟨by simpa using hv101.mono (Le.zz (fun x hx => (List.mem_append_right _ (List.mem_append_left _ hx)))), by simpa [Scp.sc] using hv105.mono (Le.zz (fun x hx => (List.mem_append_left _ hx))), ((hv17.mono (Le.zz (fun x hx => (List.mem_append_right _ (List.mem_append_right _ (List.mem_append_right _ (List.mem_append_left _ hx))))))).snoc (pv62.mono (Le.zz (fun x hx => (List.mem_append_right _ (List.mem_append_right _ (List.mem_append_left _ hx))))))).each⟩
       refine V (run_ldA (cs := scpL (⟨v68, (ls13 ++ [⟨c.name.text, p60⟩]), fv1, vs⟩ : Scp)) underlying25 rfl rfl e5_83 (rangeAt_cells (hH106.blk (i := 1) rfl))) ?_
       refine RL.set hH106 (i := 2) rfl (run_stW (c' := (scpL ⟨v68, (ls13 ++ [⟨c.name.text, p60⟩]), fv1, vs⟩).toArray) rfl e4_83 rfl (scpL_one hp107) (hH106.blk (i := 2) rfl) rfl) ?_
       intro w108 hH109
       simp only [z0, z1] at hH109
       refine RL.nil ?_
       refine CW.ret ?_
       refine outCg Tryd.results19 e4_83 hH109 (i := 2) rfl underlying25 rfl rfl ⟨(Z103 ++ (Z99 ++ (Z57 ++ (Z15 ++ [])))), (hH109.sub (sQ (sQ (sQ (sQ (sQ sR)))))), ⟨v68, (ls13 ++ [⟨c.name.text, p60⟩]), fv1, vs⟩, rfl, ?_, ?_⟩
       ·show (⟨_, _⟩ : Sc) = _; first | (exfalso; omega) | (rw [add_0 ‹_›]; simp [Scp.sc, *]; done) | (rw [add_1 ‹_› (by omega)]; simp [Scp.sc, LatR.pl, *]; done) | (rw [add_2 ‹_› (by omega), hvk ‹_›]; simp [Scp.sc, ‹List.map LatR.pl _ = _›]; done) | (rw [add_2 ‹_› (by omega)]; simp [Scp.sc, *]; done) | (rw [add_3 (by omega) (by omega)]; simp [Scp.sc, *]; done)
       ·exact hp107
    ·refine CW.skip ?_
     refine SR ?_
     obtain ⟨Z110, hz111, hv112, -⟩ := (hH74.perm (((pC ((pC pR).trans pS)).trans pS).trans (pC pR))).frz (K)
     have hH113 : Hp _ w73 (_ :: _ :: _ :: _ :: _ :: _ :: (Z110 ++ (Z57 ++ (Z15 ++ [])))) := hz111.zin (L := [_, _, _, _, _, _]) (L' := (Z57 ++ (Z15 ++ [])))
     obtain ⟨Z114, hz115, hv116, -⟩ := (hH113.perm (((pC ((pC pR).trans pS)).trans pS).trans (pC pR))).frz (K)
     have hH117 : Hp _ w73 (_ :: _ :: _ :: _ :: _ :: (Z114 ++ (Z110 ++ (Z57 ++ (Z15 ++ []))))) := hz115.zin (L := [_, _, _, _, _]) (L' := (Z110 ++ (Z57 ++ (Z15 ++ []))))
     have hp118 : ScpV (Kz K (Z114 ++ (Z110 ++ (Z57 ++ (Z15 ++ []))))) ⟨v68, (ls13 ++ [⟨c.name.text, p60⟩]), v14, s.vars⟩ := ⟨by simpa using hv112.mono (Le.zz (fun x hx => (List.mem_append_right _ (List.mem_append_left _ hx)))), by simpa [Scp.sc] using hv116.mono (Le.zz (fun x hx => (List.mem_append_left _ hx))), ((hv17.mono (Le.zz (fun x hx => (List.mem_append_right _ (List.mem_append_right _ (List.mem_append_right _ (List.mem_append_left _ hx))))))).snoc (pv62.mono (Le.zz (fun x hx => (List.mem_append_right _ (List.mem_append_right _ (List.mem_append_left _ hx))))))).each⟩
     refine V (run_ldA (cs := scpL (⟨v68, (ls13 ++ [⟨c.name.text, p60⟩]), v14, s.vars⟩ : Scp)) underlying25 rfl rfl rfl (rangeAt_cells (hH117.blk (i := 1) rfl))) ?_
     refine RL.set hH117 (i := 2) rfl (run_stW (c' := (scpL ⟨v68, (ls13 ++ [⟨c.name.text, p60⟩]), v14, s.vars⟩).toArray) rfl rfl rfl (scpL_one hp118) (hH117.blk (i := 2) rfl) rfl) ?_
     intro w119 hH120
     simp only [z0, z1] at hH120
     refine RL.nil ?_
     refine CW.ret ?_
     refine outCg Tryd.results19 rfl hH120 (i := 2) rfl underlying25 rfl rfl ⟨(Z114 ++ (Z110 ++ (Z57 ++ (Z15 ++ [])))), (hH120.sub (sQ (sQ (sQ (sQ (sQ sR)))))), ⟨v68, (ls13 ++ [⟨c.name.text, p60⟩]), v14, s.vars⟩, rfl, ?_, ?_⟩
     ·show (⟨_, _⟩ : Sc) = _; first | (exfalso; omega) | (rw [add_0 ‹_›]; simp [Scp.sc, *]; done) | (rw [add_1 ‹_› (by omega)]; simp [Scp.sc, LatR.pl, *]; done) | (rw [add_2 ‹_› (by omega), hvk ‹_›]; simp [Scp.sc, ‹List.map LatR.pl _ = _›]; done) | (rw [add_2 ‹_› (by omega)]; simp [Scp.sc, *]; done) | (rw [add_3 (by omega) (by omega)]; simp [Scp.sc, *]; done)
     ·exact hp118
   ·refine AO.callF rfl gnone rfl hH49 (sQ (sQ sR)) (c_scope_Shape K s c hsm _ (hK.trans hH49.kw) hs hc) (run_call2 call23 rfl rfl) ?_
    intro v123 w124 Z126 hH125 hp127
    have hH128 : Hp _ w124 (_ :: _ :: _ :: _ :: _ :: _ :: (Z126 ++ (Z15 ++ []))) := hH125.zin (L := [_, _, _, _, _, _]) (L' := (Z15 ++ []))
    obtain ⟨p129, rfl, psh130, pv131⟩ := hp127
    refine AT 8 rfl (hH128.sub (sQ (sQ (sP (sP (sP (sP (sA sR)))))))) (fun w hS => run_bld (vs := [(0, S _), (1, .agg (shpC p129))]) rfl (built_lat _ p129)) ?_
    refine AN.two 1 9 (by kernel_rfl) ?_ ?_
    ·refine AO.read rfl gnone rfl hH128 (sQ (sQ (sP (sP (sP (sP (sA sR))))))) (run_ld underlying22 rfl rfl (hH128.cell (i := 0) rfl rfl)) ?_
     refine A1 9 ?_
     refine AO.new rfl gnone rfl hH128 (sQ (sQ (sP (sP (sP (sP (sA sR))))))) (f := fun b => .slice (some ⟨b, 0, none⟩) 1 1) (run_mkRecs latL_len underlying22 rfl rfl rfl (l := [(⟨c.name.text, p129⟩ : LatR)]) rfl (by decide) (by decide) rfl) ?_
     intro b136 w134 hH135
     refine A1 10 ?_
     refine AO.app rfl gnone rfl hH135 (j := 2) rfl (fun _ => (sQ (sQ (sQ (sP (sP (sP (sP (sA sR))))))))) (Hp.slFlat latL_len hH135 (i := 0) (l := [(⟨c.name.text, p129⟩ : LatR)]) rfl (by simp [maxLen])) rfl rfl underlying22 rfl rfl (size := 3) (bytes := 48) rfl rfl rfl (by decide) (lats1_one pv131) (by simp only [List.length_cons, List.length_nil]; omega) (by simp only [maxLen, List.length_cons, List.length_nil]; omega) ?_
     intro v139 w137 hH138
     simp only [z0, z1] at hH138
     refine AT 11 rfl (hH138.sub (sQ (sQ (sQ (sP (sP (sP (sP (sA sR))))))))) (fun w hS => fA underlying25 0 rfl sizeOf22 rfl) ?_
     refine A1 12 ?_
     refine AO.set rfl gnone hH138 (j := 1) rfl (sQ (sQ (sQ (sP (sP (sP (sP (sA sR)))))))) (run_st rfl rfl (v := v139) rfl (row_cells (hH138.get (i := 2) rfl)).1 (row_cells (hH138.get (i := 2) rfl)).2 (hH138.blk (i := 1) rfl) (by first | (show 0 < 2; decide) | decide | (simp only [List.size_toArray, scpL_len]; decide) | simp)) ?_
     intro w142 hH143
     simp only [z0, z1] at hH143
     refine AD ?_
     refine CW.seq ?_
     refine SR ?_
     refine V (fA underlying45 0 rfl sizeOf3 rfl) ?_
     refine V (run_ld underlying3 rfl rfl (hH143.cell (i := 5) rfl (v := I _) rfl)) ?_
     refine RL.callP rfl hH143 (c_scope_variables _  _) (run_call1 call28 rfl) ?_
     intro w144 hH145
     refine RL.nil ?_
     refine CW.condP rfl (fun h148 => ?_) (fun h148 => ?_)
     ·refine SR ?_
      refine V (aV (I 1) rfl) ?_
      refine RL.nil ?_
      refine CW.cutG (G := Unit) hH145 [6, 37, 38, 39] (fun (L : List Ent) (_u : Unit) => L) (fun (_u : Unit) s' => (s' 6 = I (kindF c))) ?_ ?_
      ·refine SR ?_
       refine V (fA underlying45 0 rfl sizeOf3 rfl) ?_
       refine V (run_ld underlying3 rfl rfl (hH145.cell (i := 5) rfl (v := I _) rfl)) ?_
       refine V (run_eql rfl rfl) ?_
       refine RL.nil ?_
       refine CW.condP rfl (fun h150 => ?_) (fun h150 => ?_)
       ·refine CW.region ?_
        refine V (aV (I 2) rfl) ?_
        refine RL.nil ?_
        refine ⟨((Fr.refl _ _)).u4, (), hH145, (congrArg I ?_)⟩
        ·(rw [kindF]; split <;> omega)
       ·refine CW.skip ?_
        refine ⟨((Fr.refl _ _)).u1.u1.u1, (), hH145, (congrArg I ?_)⟩
        ·(rw [kindF]; split <;> omega)
      ·rintro _u sg151 w151 fr151 hH151 e6_151
       have e2_151 : sg151 2 = Pn _ _ := (fr151 2 rfl).trans rfl
       have e3_151 : sg151 3 = Pn _ _ := (fr151 3 rfl).trans rfl
       have e4_151 : sg151 4 = Pn _ _ := (fr151 4 rfl).trans rfl
       have e5_151 : sg151 5 = Pn _ _ := (fr151 5 rfl).trans rfl
       refine SR ?_
       refine V (run_ldA (cs := scpL _) underlying25 rfl rfl e2_151 (rangeAt_cells (hH151.blk (i := 6) rfl))) ?_
       refine V (fA underlying45 2 rfl sizeOf38 e3_151) ?_
       refine V (fA underlying38 0 rfl sizeOf9 rfl) ?_
       refine V (run_ld underlying9 rfl rfl (hH151.cell (i := 5) rfl (v := .string _) rfl)) ?_
       refine RL.callP rfl hH151 (c_scope_Find _ _  _ ((hs.mono hK).mono hH151.kw)) (run_call2 call9 rfl rfl) ?_
       intro w152 hH153
       refine V (run_move (by conv => lhs; whnf)) ?_
       refine V (run_extract rfl (v := I _) rfl) ?_
       refine V (run_extract rfl (v := I _) rfl) ?_
       refine V (aV (I _) rfl) ?_
       refine V (aV (I _) rfl) ?_
       refine RL.nil ?_
       refine SR ?_
       refine V (fA underlying45 4 rfl sizeOf39 e3_151) ?_
       refine V (run_ldV ((hc.mono hK).names.sl.hp hH153) underlying39 rfl rfl (hH153.cell (i := 5) rfl rfl)) ?_
       refine V (run_lenSl ((hc.mono hK).names.sl.hp hH153) rfl underlying39 rfl) ?_
       refine V (mV (I 0) rfl) ?_
       refine RL.nil ?_
       refine CW.block ?_
       refine CW.loop (G := (Int) × (Value) × (List VarR)) (fun (⟨k, fv1, vs⟩ : (Int) × (Value) × (List VarR)) s' w' => (Fr [10, 51, 52, 53, 54, 55, 56, 57, 58, 59, 60, 61, 62, 63, 64, 65] _ s') ∧ (Hp w w' (_ :: .blk b25 (.cells (#[v139, fv1]) 25 (0, 0)) :: _ :: .row fv1 60 3 (vs.length) (vs.flatMap varL) :: _)) ∧ (s' 51 = I k) ∧ (0 ≤ k) ∧ (k ≤ c.names.length) ∧ (vs = s.vars ++ (varsF s c).take k.toNat) ∧ ((vs.length : Int) = s.vars.length + k)) (fun (⟨k, fv1, vs⟩ : (Int) × (Value) × (List VarR)) => (c.names.length - k).toNat) ((0, (v14 : Value), s.vars)) ⟨Fr.refl _ _, hH153, rfl, (by omega), (by omega), (List.append_nil _).symm, (by simp)⟩ ?_
       rintro ⟨k, fv1, vs⟩ sg154 w154 ⟨fr154, hH154, e51_154, h0, hk, hvs, hvl⟩
       have e4_154 := (fr154 4 rfl).trans e4_151
       have e5_154 := (fr154 5 rfl).trans e5_151
       have e6_154 := (fr154 6 rfl).trans e6_151
       have e7_154 : sg154 7 = I _ := (fr154 7 rfl).trans rfl
       have e49_154 := (fr154 49 rfl).trans (by conv => lhs; whnf)
       have e50_154 : sg154 50 = I _ := (fr154 50 rfl).trans rfl
       have hvk : ¬ k < c.names.length → vs = s.vars ++ varsF s c := fun h => by rw [hvs, List.take_of_length_le (by rw [varsF_len]; omega)]
       refine SR ?_
       refine V (run_lss e51_154 e50_154) ?_
       refine RL.nil ?_
       refine CW.seq ?_
       refine CW.condP rfl (fun h156 => ?_) (fun h156 => ?_)
       ·refine CW.skip ?_
        refine CW.seq ?_
        refine CW.block ?_
        refine SR ?_
        refine V (run_indexAddrS ((hc.mono hK).names.sl.hp hH154) underlying39 sizeOf38 e49_154 e51_154 (by omega)) ?_
        refine V (run_ldE (dv := wd0) wdL_len ((hc.mono hK).names.sl.hp hH154) underlying38 rfl rfl rfl (by omega)) ?_
        refine RL.new rfl hH154 (f := fun b => (.pointer (some ⟨b, 0, none⟩))) (run_alloc Tryd.zeroValue38) ?_
        intro b159 w157 hH158
        refine RL.set hH158 (i := 0) rfl (run_stW (c' := (wdL _).toArray) rfl rfl rfl (by simp [wdL, Value.oneCell']) (hH158.blk (i := 0) rfl) rfl) ?_
        intro w160 hH161
        simp only [z0, z1] at hH161
        refine RL.nil ?_
        refine CW.region ?_
        refine V (fA underlying25 1 rfl sizeOf23 e5_154) ?_
        refine V (run_ld underlying23 rfl rfl (hH161.cell (i := 2) rfl rfl)) ?_
        refine V (fA underlying38 0 rfl sizeOf9 rfl) ?_
        refine V (run_ld underlying9 rfl rfl (hH161.cell (i := 0) rfl (v := .string _) rfl)) ?_
        refine V (run_move e6_154) ?_
        refine V (run_move e7_154) ?_
        refine V (run_bld (vs := [(0, S _), (1, I _), (2, I _)]) rfl (built_varL _ _ _)) ?_
        refine RL.new rfl hH161 (f := fun b => (.slice (some ⟨b, 0, none⟩) 1 1)) (run_mkRecs varL_len underlying23 rfl rfl rfl (l := [(⟨(c.names.getD k.toNat wd0).text, kindF c, findLat s c.name.text⟩ : VarR)]) rfl (by decide) (by decide) rfl) ?_
        intro b164 w162 hH163
        refine RL.app rfl hH163 (i := 5) rfl (Hp.slFlat varL_len hH163 (i := 0) (l := [(⟨(c.names.getD k.toNat wd0).text, kindF c, findLat s c.name.text⟩ : VarR)]) rfl (by simp [maxLen])) rfl rfl underlying23 rfl rfl (size := 3) (bytes := 32) rfl rfl rfl (by decide) (by simp [varL, Value.oneCell']) (by simp only [List.length_cons, List.length_nil]; omega) (by simp only [maxLen, List.length_cons, List.length_nil]; omega) ?_
        intro v165 w166 hH167
        simp only [z0, z1] at hH167
        refine V (fA underlying25 1 rfl sizeOf23 e5_154) ?_
        refine RL.set hH167 (i := 3) rfl (run_st rfl rfl (v := v165) rfl (row_cells (hH167.get (i := 5) rfl)).1 (row_cells (hH167.get (i := 5) rfl)).2 (hH167.blk (i := 3) rfl) (by first | (show 1 < 2; decide) | decide | (simp only [List.size_toArray, scpL_len]; decide) | simp)) ?_
        intro w168 hH169
        simp only [z0, z1] at hH169
        refine RL.nil ?_
        refine CW.region ?_
        refine V (run_add e51_154 rfl (by omega)) ?_
        refine V (mV (I _) rfl) ?_
        refine RL.nil ?_
        refine ⟨(k + 1, v165, (vs ++ [⟨(c.names.getD k.toNat wd0).text, kindF c, findLat s c.name.text⟩])), ?_, fr154.u4.u4.u4.u4, (Hp.conv (hH169.sub (sQ (sQ sR))) (by first | rfl | simp)), (congrArg I (by first | rfl | omega)), ?_, ?_, ?_, ?_⟩
        ·((try dsimp only); omega)
        ·omega
        ·omega
        ·rw [vars_next h0 ‹k < _›, hvs, List.append_assoc]
        ·simp only [List.length_append, List.length_singleton]; omega
       ·refine CW.exit (id := 0) rfl ?_
        refine SR ?_
        obtain ⟨Z170, hz171, hv172, -⟩ := (hH154.perm (((pC ((pC pR).trans pS)).trans pS).trans (pC pR))).frz (K)
        have hH173 : Hp _ w154 (_ :: _ :: _ :: _ :: _ :: _ :: (Z170 ++ (Z126 ++ (Z15 ++ [])))) := hz171.zin (L := [_, _, _, _, _, _]) (L' := (Z126 ++ (Z15 ++ [])))
        obtain ⟨Z174, hz175, hv176, -⟩ := (hH173.perm (((pC ((pC pR).trans pS)).trans pS).trans (pC pR))).frz (K)
        have hH177 : Hp _ w154 (_ :: _ :: _ :: _ :: _ :: (Z174 ++ (Z170 ++ (Z126 ++ (Z15 ++ []))))) := hz175.zin (L := [_, _, _, _, _]) (L' := (Z170 ++ (Z126 ++ (Z15 ++ []))))
        have hp178 : ScpV (Kz K (Z174 ++ (Z170 ++ (Z126 ++ (Z15 ++ []))))) ⟨v139, (ls13 ++ [⟨c.name.text, p129⟩]), fv1, vs⟩ := ⟨by simpa using hv172.mono (Le.zz (fun x hx => (List.mem_append_right _ (List.mem_append_left _ hx)))), by simpa [Scp.sc] using hv176.mono (Le.zz (fun x hx => (List.mem_append_left _ hx))), ((hv17.mono (Le.zz (fun x hx => (List.mem_append_right _ (List.mem_append_right _ (List.mem_append_right _ (List.mem_append_left _ hx))))))).snoc (pv131.mono (Le.zz (fun x hx => (List.mem_append_right _ (List.mem_append_right _ (List.mem_append_left _ hx))))))).each⟩
        refine V (run_ldA (cs := scpL (⟨v139, (ls13 ++ [⟨c.name.text, p129⟩]), fv1, vs⟩ : Scp)) underlying25 rfl rfl e5_154 (rangeAt_cells (hH177.blk (i := 1) rfl))) ?_
        refine RL.set hH177 (i := 2) rfl (run_stW (c' := (scpL ⟨v139, (ls13 ++ [⟨c.name.text, p129⟩]), fv1, vs⟩).toArray) rfl e4_154 rfl (scpL_one hp178) (hH177.blk (i := 2) rfl) rfl) ?_
        intro w179 hH180
        simp only [z0, z1] at hH180
        refine RL.nil ?_
        refine CW.ret ?_
        refine outCg Tryd.results19 e4_154 hH180 (i := 2) rfl underlying25 rfl rfl ⟨(Z174 ++ (Z170 ++ (Z126 ++ (Z15 ++ [])))), (hH180.sub (sQ (sQ (sQ (sQ (sQ sR)))))), ⟨v139, (ls13 ++ [⟨c.name.text, p129⟩]), fv1, vs⟩, rfl, ?_, ?_⟩
        ·show (⟨_, _⟩ : Sc) = _; first | (exfalso; omega) | (rw [add_0 ‹_›]; simp [Scp.sc, *]; done) | (rw [add_1 ‹_› (by omega)]; simp [Scp.sc, LatR.pl, *]; done) | (rw [add_2 ‹_› (by omega), hvk ‹_›]; simp [Scp.sc, ‹List.map LatR.pl _ = _›]; done) | (rw [add_2 ‹_› (by omega)]; simp [Scp.sc, *]; done) | (rw [add_3 (by omega) (by omega)]; simp [Scp.sc, *]; done)
        ·exact hp178
     ·refine CW.skip ?_
      refine SR ?_
      obtain ⟨Z181, hz182, hv183, -⟩ := (hH145.perm (((pC ((pC pR).trans pS)).trans pS).trans (pC pR))).frz (K)
      have hH184 : Hp _ w144 (_ :: _ :: _ :: _ :: _ :: _ :: (Z181 ++ (Z126 ++ (Z15 ++ [])))) := hz182.zin (L := [_, _, _, _, _, _]) (L' := (Z126 ++ (Z15 ++ [])))
      obtain ⟨Z185, hz186, hv187, -⟩ := (hH184.perm (((pC ((pC pR).trans pS)).trans pS).trans (pC pR))).frz (K)
      have hH188 : Hp _ w144 (_ :: _ :: _ :: _ :: _ :: (Z185 ++ (Z181 ++ (Z126 ++ (Z15 ++ []))))) := hz186.zin (L := [_, _, _, _, _]) (L' := (Z181 ++ (Z126 ++ (Z15 ++ []))))
      have hp189 : ScpV (Kz K (Z185 ++ (Z181 ++ (Z126 ++ (Z15 ++ []))))) ⟨v139, (ls13 ++ [⟨c.name.text, p129⟩]), v14, s.vars⟩ := ⟨by simpa using hv183.mono (Le.zz (fun x hx => (List.mem_append_right _ (List.mem_append_left _ hx)))), by simpa [Scp.sc] using hv187.mono (Le.zz (fun x hx => (List.mem_append_left _ hx))), ((hv17.mono (Le.zz (fun x hx => (List.mem_append_right _ (List.mem_append_right _ (List.mem_append_right _ (List.mem_append_left _ hx))))))).snoc (pv131.mono (Le.zz (fun x hx => (List.mem_append_right _ (List.mem_append_right _ (List.mem_append_left _ hx))))))).each⟩
      refine V (run_ldA (cs := scpL (⟨v139, (ls13 ++ [⟨c.name.text, p129⟩]), v14, s.vars⟩ : Scp)) underlying25 rfl rfl rfl (rangeAt_cells (hH188.blk (i := 1) rfl))) ?_
      refine RL.set hH188 (i := 2) rfl (run_stW (c' := (scpL ⟨v139, (ls13 ++ [⟨c.name.text, p129⟩]), v14, s.vars⟩).toArray) rfl rfl rfl (scpL_one hp189) (hH188.blk (i := 2) rfl) rfl) ?_
      intro w190 hH191
      simp only [z0, z1] at hH191
      refine RL.nil ?_
      refine CW.ret ?_
      refine outCg Tryd.results19 rfl hH191 (i := 2) rfl underlying25 rfl rfl ⟨(Z185 ++ (Z181 ++ (Z126 ++ (Z15 ++ [])))), (hH191.sub (sQ (sQ (sQ (sQ (sQ sR)))))), ⟨v139, (ls13 ++ [⟨c.name.text, p129⟩]), v14, s.vars⟩, rfl, ?_, ?_⟩
      ·show (⟨_, _⟩ : Sc) = _; first | (exfalso; omega) | (rw [add_0 ‹_›]; simp [Scp.sc, *]; done) | (rw [add_1 ‹_› (by omega)]; simp [Scp.sc, LatR.pl, *]; done) | (rw [add_2 ‹_› (by omega), hvk ‹_›]; simp [Scp.sc, ‹List.map LatR.pl _ = _›]; done) | (rw [add_2 ‹_› (by omega)]; simp [Scp.sc, *]; done) | (rw [add_3 (by omega) (by omega)]; simp [Scp.sc, *]; done)
      ·exact hp189
    ·refine AO.new rfl gnone rfl hH128 (sQ (sQ (sP (sP (sP (sP (sA sR))))))) (f := fun b => .slice (some ⟨b, 0, none⟩) 1 1) (run_mkRecs latL_len underlying22 rfl rfl rfl (l := [(⟨c.name.text, p129⟩ : LatR)]) rfl (by decide) (by decide) rfl) ?_
     intro b194 w192 hH193
     refine A1 1 ?_
     refine AO.read rfl gnone rfl hH193 (sQ (sQ (sQ (sP (sP (sP (sP (sA sR)))))))) (run_ld underlying22 rfl rfl (hH193.cell (i := 1) rfl rfl)) ?_
     refine A1 10 ?_
     refine AO.app rfl gnone rfl hH193 (j := 2) rfl (fun _ => (sQ (sQ (sQ (sP (sP (sP (sP (sA sR))))))))) (Hp.slFlat latL_len hH193 (i := 0) (l := [(⟨c.name.text, p129⟩ : LatR)]) rfl (by simp [maxLen])) rfl rfl underlying22 rfl rfl (size := 3) (bytes := 48) rfl rfl rfl (by decide) (lats1_one pv131) (by simp only [List.length_cons, List.length_nil]; omega) (by simp only [maxLen, List.length_cons, List.length_nil]; omega) ?_
     intro v199 w197 hH198
     simp only [z0, z1] at hH198
     refine AT 11 rfl (hH198.sub (sQ (sQ (sQ (sP (sP (sP (sP (sA sR))))))))) (fun w hS => fA underlying25 0 rfl sizeOf22 rfl) ?_
     refine A1 12 ?_
     refine AO.set rfl gnone hH198 (j := 1) rfl (sQ (sQ (sQ (sP (sP (sP (sP (sA sR)))))))) (run_st rfl rfl (v := v199) rfl (row_cells (hH198.get (i := 2) rfl)).1 (row_cells (hH198.get (i := 2) rfl)).2 (hH198.blk (i := 1) rfl) (by first | (show 0 < 2; decide) | decide | (simp only [List.size_toArray, scpL_len]; decide) | simp)) ?_
     intro w202 hH203
     simp only [z0, z1] at hH203
     refine AD ?_
     refine CW.seq ?_
     refine SR ?_
     refine V (fA underlying45 0 rfl sizeOf3 rfl) ?_
     refine V (run_ld underlying3 rfl rfl (hH203.cell (i := 5) rfl (v := I _) rfl)) ?_
     refine RL.callP rfl hH203 (c_scope_variables _  _) (run_call1 call28 rfl) ?_
     intro w204 hH205
     refine RL.nil ?_
     refine CW.condP rfl (fun h208 => ?_) (fun h208 => ?_)
     ·refine SR ?_
      refine V (aV (I 1) rfl) ?_
      refine RL.nil ?_
      refine CW.cutG (G := Unit) hH205 [6, 37, 38, 39] (fun (L : List Ent) (_u : Unit) => L) (fun (_u : Unit) s' => (s' 6 = I (kindF c))) ?_ ?_
      ·refine SR ?_
       refine V (fA underlying45 0 rfl sizeOf3 rfl) ?_
       refine V (run_ld underlying3 rfl rfl (hH205.cell (i := 5) rfl (v := I _) rfl)) ?_
       refine V (run_eql rfl rfl) ?_
       refine RL.nil ?_
       refine CW.condP rfl (fun h210 => ?_) (fun h210 => ?_)
       ·refine CW.region ?_
        refine V (aV (I 2) rfl) ?_
        refine RL.nil ?_
        refine ⟨((Fr.refl _ _)).u4, (), hH205, (congrArg I ?_)⟩
        ·(rw [kindF]; split <;> omega)
       ·refine CW.skip ?_
        refine ⟨((Fr.refl _ _)).u1.u1.u1, (), hH205, (congrArg I ?_)⟩
        ·(rw [kindF]; split <;> omega)
      ·rintro _u sg211 w211 fr211 hH211 e6_211
       have e2_211 : sg211 2 = Pn _ _ := (fr211 2 rfl).trans rfl
       have e3_211 : sg211 3 = Pn _ _ := (fr211 3 rfl).trans rfl
       have e4_211 : sg211 4 = Pn _ _ := (fr211 4 rfl).trans rfl
       have e5_211 : sg211 5 = Pn _ _ := (fr211 5 rfl).trans rfl
       refine SR ?_
       refine V (run_ldA (cs := scpL _) underlying25 rfl rfl e2_211 (rangeAt_cells (hH211.blk (i := 6) rfl))) ?_
       refine V (fA underlying45 2 rfl sizeOf38 e3_211) ?_
       refine V (fA underlying38 0 rfl sizeOf9 rfl) ?_
       refine V (run_ld underlying9 rfl rfl (hH211.cell (i := 5) rfl (v := .string _) rfl)) ?_
       refine RL.callP rfl hH211 (c_scope_Find _ _  _ ((hs.mono hK).mono hH211.kw)) (run_call2 call9 rfl rfl) ?_
       intro w212 hH213
       refine V (run_move (by conv => lhs; whnf)) ?_
       refine V (run_extract rfl (v := I _) rfl) ?_
       refine V (run_extract rfl (v := I _) rfl) ?_
       refine V (aV (I _) rfl) ?_
       refine V (aV (I _) rfl) ?_
       refine RL.nil ?_
       refine SR ?_
       refine V (fA underlying45 4 rfl sizeOf39 e3_211) ?_
       refine V (run_ldV ((hc.mono hK).names.sl.hp hH213) underlying39 rfl rfl (hH213.cell (i := 5) rfl rfl)) ?_
       refine V (run_lenSl ((hc.mono hK).names.sl.hp hH213) rfl underlying39 rfl) ?_
       refine V (mV (I 0) rfl) ?_
       refine RL.nil ?_
       refine CW.block ?_
       refine CW.loop (G := (Int) × (Value) × (List VarR)) (fun (⟨k, fv1, vs⟩ : (Int) × (Value) × (List VarR)) s' w' => (Fr [10, 51, 52, 53, 54, 55, 56, 57, 58, 59, 60, 61, 62, 63, 64, 65] _ s') ∧ (Hp w w' (_ :: .blk b25 (.cells (#[v199, fv1]) 25 (0, 0)) :: _ :: .row fv1 60 3 (vs.length) (vs.flatMap varL) :: _)) ∧ (s' 51 = I k) ∧ (0 ≤ k) ∧ (k ≤ c.names.length) ∧ (vs = s.vars ++ (varsF s c).take k.toNat) ∧ ((vs.length : Int) = s.vars.length + k)) (fun (⟨k, fv1, vs⟩ : (Int) × (Value) × (List VarR)) => (c.names.length - k).toNat) ((0, (v14 : Value), s.vars)) ⟨Fr.refl _ _, hH213, rfl, (by omega), (by omega), (List.append_nil _).symm, (by simp)⟩ ?_
       rintro ⟨k, fv1, vs⟩ sg214 w214 ⟨fr214, hH214, e51_214, h0, hk, hvs, hvl⟩
       have e4_214 := (fr214 4 rfl).trans e4_211
       have e5_214 := (fr214 5 rfl).trans e5_211
       have e6_214 := (fr214 6 rfl).trans e6_211
       have e7_214 : sg214 7 = I _ := (fr214 7 rfl).trans rfl
       have e49_214 := (fr214 49 rfl).trans (by conv => lhs; whnf)
       have e50_214 : sg214 50 = I _ := (fr214 50 rfl).trans rfl
       have hvk : ¬ k < c.names.length → vs = s.vars ++ varsF s c := fun h => by rw [hvs, List.take_of_length_le (by rw [varsF_len]; omega)]
       refine SR ?_
       refine V (run_lss e51_214 e50_214) ?_
       refine RL.nil ?_
       refine CW.seq ?_
       refine CW.condP rfl (fun h216 => ?_) (fun h216 => ?_)
       ·refine CW.skip ?_
        refine CW.seq ?_
        refine CW.block ?_
        refine SR ?_
        refine V (run_indexAddrS ((hc.mono hK).names.sl.hp hH214) underlying39 sizeOf38 e49_214 e51_214 (by omega)) ?_
        refine V (run_ldE (dv := wd0) wdL_len ((hc.mono hK).names.sl.hp hH214) underlying38 rfl rfl rfl (by omega)) ?_
        refine RL.new rfl hH214 (f := fun b => (.pointer (some ⟨b, 0, none⟩))) (run_alloc Tryd.zeroValue38) ?_
        intro b219 w217 hH218
        refine RL.set hH218 (i := 0) rfl (run_stW (c' := (wdL _).toArray) rfl rfl rfl (by simp [wdL, Value.oneCell']) (hH218.blk (i := 0) rfl) rfl) ?_
        intro w220 hH221
        simp only [z0, z1] at hH221
        refine RL.nil ?_
        refine CW.region ?_
        refine V (fA underlying25 1 rfl sizeOf23 e5_214) ?_
        refine V (run_ld underlying23 rfl rfl (hH221.cell (i := 2) rfl rfl)) ?_
        refine V (fA underlying38 0 rfl sizeOf9 rfl) ?_
        refine V (run_ld underlying9 rfl rfl (hH221.cell (i := 0) rfl (v := .string _) rfl)) ?_
        refine V (run_move e6_214) ?_
        refine V (run_move e7_214) ?_
        refine V (run_bld (vs := [(0, S _), (1, I _), (2, I _)]) rfl (built_varL _ _ _)) ?_
        refine RL.new rfl hH221 (f := fun b => (.slice (some ⟨b, 0, none⟩) 1 1)) (run_mkRecs varL_len underlying23 rfl rfl rfl (l := [(⟨(c.names.getD k.toNat wd0).text, kindF c, findLat s c.name.text⟩ : VarR)]) rfl (by decide) (by decide) rfl) ?_
        intro b224 w222 hH223
        refine RL.app rfl hH223 (i := 5) rfl (Hp.slFlat varL_len hH223 (i := 0) (l := [(⟨(c.names.getD k.toNat wd0).text, kindF c, findLat s c.name.text⟩ : VarR)]) rfl (by simp [maxLen])) rfl rfl underlying23 rfl rfl (size := 3) (bytes := 32) rfl rfl rfl (by decide) (by simp [varL, Value.oneCell']) (by simp only [List.length_cons, List.length_nil]; omega) (by simp only [maxLen, List.length_cons, List.length_nil]; omega) ?_
        intro v225 w226 hH227
        simp only [z0, z1] at hH227
        refine V (fA underlying25 1 rfl sizeOf23 e5_214) ?_
        refine RL.set hH227 (i := 3) rfl (run_st rfl rfl (v := v225) rfl (row_cells (hH227.get (i := 5) rfl)).1 (row_cells (hH227.get (i := 5) rfl)).2 (hH227.blk (i := 3) rfl) (by first | (show 1 < 2; decide) | decide | (simp only [List.size_toArray, scpL_len]; decide) | simp)) ?_
        intro w228 hH229
        simp only [z0, z1] at hH229
        refine RL.nil ?_
        refine CW.region ?_
        refine V (run_add e51_214 rfl (by omega)) ?_
        refine V (mV (I _) rfl) ?_
        refine RL.nil ?_
        refine ⟨(k + 1, v225, (vs ++ [⟨(c.names.getD k.toNat wd0).text, kindF c, findLat s c.name.text⟩])), ?_, fr214.u4.u4.u4.u4, (Hp.conv (hH229.sub (sQ (sQ sR))) (by first | rfl | simp)), (congrArg I (by first | rfl | omega)), ?_, ?_, ?_, ?_⟩
        ·((try dsimp only); omega)
        ·omega
        ·omega
        ·rw [vars_next h0 ‹k < _›, hvs, List.append_assoc]
        ·simp only [List.length_append, List.length_singleton]; omega
       ·refine CW.exit (id := 0) rfl ?_
        refine SR ?_
        obtain ⟨Z230, hz231, hv232, -⟩ := (hH214.perm (((pC ((pC pR).trans pS)).trans pS).trans (pC pR))).frz (K)
        have hH233 : Hp _ w214 (_ :: _ :: _ :: _ :: _ :: _ :: (Z230 ++ (Z126 ++ (Z15 ++ [])))) := hz231.zin (L := [_, _, _, _, _, _]) (L' := (Z126 ++ (Z15 ++ [])))
        obtain ⟨Z234, hz235, hv236, -⟩ := (hH233.perm (((pC ((pC pR).trans pS)).trans pS).trans (pC pR))).frz (K)
        have hH237 : Hp _ w214 (_ :: _ :: _ :: _ :: _ :: (Z234 ++ (Z230 ++ (Z126 ++ (Z15 ++ []))))) := hz235.zin (L := [_, _, _, _, _]) (L' := (Z230 ++ (Z126 ++ (Z15 ++ []))))
        have hp238 : ScpV (Kz K (Z234 ++ (Z230 ++ (Z126 ++ (Z15 ++ []))))) ⟨v199, (ls13 ++ [⟨c.name.text, p129⟩]), fv1, vs⟩ := ⟨by simpa using hv232.mono (Le.zz (fun x hx => (List.mem_append_right _ (List.mem_append_left _ hx)))), by simpa [Scp.sc] using hv236.mono (Le.zz (fun x hx => (List.mem_append_left _ hx))), ((hv17.mono (Le.zz (fun x hx => (List.mem_append_right _ (List.mem_append_right _ (List.mem_append_right _ (List.mem_append_left _ hx))))))).snoc (pv131.mono (Le.zz (fun x hx => (List.mem_append_right _ (List.mem_append_right _ (List.mem_append_left _ hx))))))).each⟩
        refine V (run_ldA (cs := scpL (⟨v199, (ls13 ++ [⟨c.name.text, p129⟩]), fv1, vs⟩ : Scp)) underlying25 rfl rfl e5_214 (rangeAt_cells (hH237.blk (i := 1) rfl))) ?_
        refine RL.set hH237 (i := 2) rfl (run_stW (c' := (scpL ⟨v199, (ls13 ++ [⟨c.name.text, p129⟩]), fv1, vs⟩).toArray) rfl e4_214 rfl (scpL_one hp238) (hH237.blk (i := 2) rfl) rfl) ?_
        intro w239 hH240
        simp only [z0, z1] at hH240
        refine RL.nil ?_
        refine CW.ret ?_
        refine outCg Tryd.results19 e4_214 hH240 (i := 2) rfl underlying25 rfl rfl ⟨(Z234 ++ (Z230 ++ (Z126 ++ (Z15 ++ [])))), (hH240.sub (sQ (sQ (sQ (sQ (sQ sR)))))), ⟨v199, (ls13 ++ [⟨c.name.text, p129⟩]), fv1, vs⟩, rfl, ?_, ?_⟩
        ·show (⟨_, _⟩ : Sc) = _; first | (exfalso; omega) | (rw [add_0 ‹_›]; simp [Scp.sc, *]; done) | (rw [add_1 ‹_› (by omega)]; simp [Scp.sc, LatR.pl, *]; done) | (rw [add_2 ‹_› (by omega), hvk ‹_›]; simp [Scp.sc, ‹List.map LatR.pl _ = _›]; done) | (rw [add_2 ‹_› (by omega)]; simp [Scp.sc, *]; done) | (rw [add_3 (by omega) (by omega)]; simp [Scp.sc, *]; done)
        ·exact hp238
     ·refine CW.skip ?_
      refine SR ?_
      obtain ⟨Z241, hz242, hv243, -⟩ := (hH205.perm (((pC ((pC pR).trans pS)).trans pS).trans (pC pR))).frz (K)
      have hH244 : Hp _ w204 (_ :: _ :: _ :: _ :: _ :: _ :: (Z241 ++ (Z126 ++ (Z15 ++ [])))) := hz242.zin (L := [_, _, _, _, _, _]) (L' := (Z126 ++ (Z15 ++ [])))
      obtain ⟨Z245, hz246, hv247, -⟩ := (hH244.perm (((pC ((pC pR).trans pS)).trans pS).trans (pC pR))).frz (K)
      have hH248 : Hp _ w204 (_ :: _ :: _ :: _ :: _ :: (Z245 ++ (Z241 ++ (Z126 ++ (Z15 ++ []))))) := hz246.zin (L := [_, _, _, _, _]) (L' := (Z241 ++ (Z126 ++ (Z15 ++ []))))
      have hp249 : ScpV (Kz K (Z245 ++ (Z241 ++ (Z126 ++ (Z15 ++ []))))) ⟨v199, (ls13 ++ [⟨c.name.text, p129⟩]), v14, s.vars⟩ := ⟨by simpa using hv243.mono (Le.zz (fun x hx => (List.mem_append_right _ (List.mem_append_left _ hx)))), by simpa [Scp.sc] using hv247.mono (Le.zz (fun x hx => (List.mem_append_left _ hx))), ((hv17.mono (Le.zz (fun x hx => (List.mem_append_right _ (List.mem_append_right _ (List.mem_append_right _ (List.mem_append_left _ hx))))))).snoc (pv131.mono (Le.zz (fun x hx => (List.mem_append_right _ (List.mem_append_right _ (List.mem_append_left _ hx))))))).each⟩
      refine V (run_ldA (cs := scpL (⟨v199, (ls13 ++ [⟨c.name.text, p129⟩]), v14, s.vars⟩ : Scp)) underlying25 rfl rfl rfl (rangeAt_cells (hH248.blk (i := 1) rfl))) ?_
      refine RL.set hH248 (i := 2) rfl (run_stW (c' := (scpL ⟨v199, (ls13 ++ [⟨c.name.text, p129⟩]), v14, s.vars⟩).toArray) rfl rfl rfl (scpL_one hp249) (hH248.blk (i := 2) rfl) rfl) ?_
      intro w250 hH251
      simp only [z0, z1] at hH251
      refine RL.nil ?_
      refine CW.ret ?_
      refine outCg Tryd.results19 rfl hH251 (i := 2) rfl underlying25 rfl rfl ⟨(Z245 ++ (Z241 ++ (Z126 ++ (Z15 ++ [])))), (hH251.sub (sQ (sQ (sQ (sQ (sQ sR)))))), ⟨v199, (ls13 ++ [⟨c.name.text, p129⟩]), v14, s.vars⟩, rfl, ?_, ?_⟩
      ·show (⟨_, _⟩ : Sc) = _; first | (exfalso; omega) | (rw [add_0 ‹_›]; simp [Scp.sc, *]; done) | (rw [add_1 ‹_› (by omega)]; simp [Scp.sc, LatR.pl, *]; done) | (rw [add_2 ‹_› (by omega), hvk ‹_›]; simp [Scp.sc, ‹List.map LatR.pl _ = _›]; done) | (rw [add_2 ‹_› (by omega)]; simp [Scp.sc, *]; done) | (rw [add_3 (by omega) (by omega)]; simp [Scp.sc, *]; done)
      ·exact hp249
  ·refine CW.skip ?_
   refine CW.seq ?_
   refine SR ?_
   refine V (fA underlying45 0 rfl sizeOf3 rfl) ?_
   refine V (run_ld underlying3 rfl rfl (hH44.cell (i := 4) rfl (v := I _) rfl)) ?_
   refine RL.callP rfl hH44 (c_scope_variables _  _) (run_call1 call28 rfl) ?_
   intro w252 hH253
   refine RL.nil ?_
   refine CW.condP rfl (fun h256 => ?_) (fun h256 => ?_)
   ·refine SR ?_
    refine V (aV (I 1) rfl) ?_
    refine RL.nil ?_
    refine CW.cutG (G := Unit) hH253 [6, 37, 38, 39] (fun (L : List Ent) (_u : Unit) => L) (fun (_u : Unit) s' => (s' 6 = I (kindF c))) ?_ ?_
    ·refine SR ?_
     refine V (fA underlying45 0 rfl sizeOf3 rfl) ?_
     refine V (run_ld underlying3 rfl rfl (hH253.cell (i := 4) rfl (v := I _) rfl)) ?_
     refine V (run_eql rfl rfl) ?_
     refine RL.nil ?_
     refine CW.condP rfl (fun h258 => ?_) (fun h258 => ?_)
     ·refine CW.region ?_
      refine V (aV (I 2) rfl) ?_
      refine RL.nil ?_
      refine ⟨((Fr.refl _ _)).u4, (), hH253, (congrArg I ?_)⟩
      ·(rw [kindF]; split <;> omega)
     ·refine CW.skip ?_
      refine ⟨((Fr.refl _ _)).u1.u1.u1, (), hH253, (congrArg I ?_)⟩
      ·(rw [kindF]; split <;> omega)
    ·rintro _u sg259 w259 fr259 hH259 e6_259
     have e2_259 : sg259 2 = Pn _ _ := (fr259 2 rfl).trans rfl
     have e3_259 : sg259 3 = Pn _ _ := (fr259 3 rfl).trans rfl
     have e4_259 : sg259 4 = Pn _ _ := (fr259 4 rfl).trans rfl
     have e5_259 : sg259 5 = Pn _ _ := (fr259 5 rfl).trans rfl
     refine SR ?_
     refine V (run_ldA (cs := scpL _) underlying25 rfl rfl e2_259 (rangeAt_cells (hH259.blk (i := 5) rfl))) ?_
     refine V (fA underlying45 2 rfl sizeOf38 e3_259) ?_
     refine V (fA underlying38 0 rfl sizeOf9 rfl) ?_
     refine V (run_ld underlying9 rfl rfl (hH259.cell (i := 4) rfl (v := .string _) rfl)) ?_
     refine RL.callP rfl hH259 (c_scope_Find _ _  _ ((hs.mono hK).mono hH259.kw)) (run_call2 call9 rfl rfl) ?_
     intro w260 hH261
     refine V (run_move (by conv => lhs; whnf)) ?_
     refine V (run_extract rfl (v := I _) rfl) ?_
     refine V (run_extract rfl (v := I _) rfl) ?_
     refine V (aV (I _) rfl) ?_
     refine V (aV (I _) rfl) ?_
     refine RL.nil ?_
     refine SR ?_
     refine V (fA underlying45 4 rfl sizeOf39 e3_259) ?_
     refine V (run_ldV ((hc.mono hK).names.sl.hp hH261) underlying39 rfl rfl (hH261.cell (i := 4) rfl rfl)) ?_
     refine V (run_lenSl ((hc.mono hK).names.sl.hp hH261) rfl underlying39 rfl) ?_
     refine V (mV (I 0) rfl) ?_
     refine RL.nil ?_
     refine CW.block ?_
     refine CW.loop (G := (Int) × (Value) × (List VarR)) (fun (⟨k, fv1, vs⟩ : (Int) × (Value) × (List VarR)) s' w' => (Fr [10, 51, 52, 53, 54, 55, 56, 57, 58, 59, 60, 61, 62, 63, 64, 65] _ s') ∧ (Hp w w' (.blk b25 (.cells (#[v12, fv1]) 25 (0, 0)) :: _ :: .row fv1 60 3 (vs.length) (vs.flatMap varL) :: _)) ∧ (s' 51 = I k) ∧ (0 ≤ k) ∧ (k ≤ c.names.length) ∧ (vs = s.vars ++ (varsF s c).take k.toNat) ∧ ((vs.length : Int) = s.vars.length + k)) (fun (⟨k, fv1, vs⟩ : (Int) × (Value) × (List VarR)) => (c.names.length - k).toNat) ((0, (v14 : Value), s.vars)) ⟨Fr.refl _ _, hH261, rfl, (by omega), (by omega), (List.append_nil _).symm, (by simp)⟩ ?_
     rintro ⟨k, fv1, vs⟩ sg262 w262 ⟨fr262, hH262, e51_262, h0, hk, hvs, hvl⟩
     have e4_262 := (fr262 4 rfl).trans e4_259
     have e5_262 := (fr262 5 rfl).trans e5_259
     have e6_262 := (fr262 6 rfl).trans e6_259
     have e7_262 : sg262 7 = I _ := (fr262 7 rfl).trans rfl
     have e49_262 := (fr262 49 rfl).trans (by conv => lhs; whnf)
     have e50_262 : sg262 50 = I _ := (fr262 50 rfl).trans rfl
     have hvk : ¬ k < c.names.length → vs = s.vars ++ varsF s c := fun h => by rw [hvs, List.take_of_length_le (by rw [varsF_len]; omega)]
     refine SR ?_
     refine V (run_lss e51_262 e50_262) ?_
     refine RL.nil ?_
     refine CW.seq ?_
     refine CW.condP rfl (fun h264 => ?_) (fun h264 => ?_)
     ·refine CW.skip ?_
      refine CW.seq ?_
      refine CW.block ?_
      refine SR ?_
      refine V (run_indexAddrS ((hc.mono hK).names.sl.hp hH262) underlying39 sizeOf38 e49_262 e51_262 (by omega)) ?_
      refine V (run_ldE (dv := wd0) wdL_len ((hc.mono hK).names.sl.hp hH262) underlying38 rfl rfl rfl (by omega)) ?_
      refine RL.new rfl hH262 (f := fun b => (.pointer (some ⟨b, 0, none⟩))) (run_alloc Tryd.zeroValue38) ?_
      intro b267 w265 hH266
      refine RL.set hH266 (i := 0) rfl (run_stW (c' := (wdL _).toArray) rfl rfl rfl (by simp [wdL, Value.oneCell']) (hH266.blk (i := 0) rfl) rfl) ?_
      intro w268 hH269
      simp only [z0, z1] at hH269
      refine RL.nil ?_
      refine CW.region ?_
      refine V (fA underlying25 1 rfl sizeOf23 e5_262) ?_
      refine V (run_ld underlying23 rfl rfl (hH269.cell (i := 1) rfl rfl)) ?_
      refine V (fA underlying38 0 rfl sizeOf9 rfl) ?_
      refine V (run_ld underlying9 rfl rfl (hH269.cell (i := 0) rfl (v := .string _) rfl)) ?_
      refine V (run_move e6_262) ?_
      refine V (run_move e7_262) ?_
      refine V (run_bld (vs := [(0, S _), (1, I _), (2, I _)]) rfl (built_varL _ _ _)) ?_
      refine RL.new rfl hH269 (f := fun b => (.slice (some ⟨b, 0, none⟩) 1 1)) (run_mkRecs varL_len underlying23 rfl rfl rfl (l := [(⟨(c.names.getD k.toNat wd0).text, kindF c, findLat s c.name.text⟩ : VarR)]) rfl (by decide) (by decide) rfl) ?_
      intro b272 w270 hH271
      refine RL.app rfl hH271 (i := 4) rfl (Hp.slFlat varL_len hH271 (i := 0) (l := [(⟨(c.names.getD k.toNat wd0).text, kindF c, findLat s c.name.text⟩ : VarR)]) rfl (by simp [maxLen])) rfl rfl underlying23 rfl rfl (size := 3) (bytes := 32) rfl rfl rfl (by decide) (by simp [varL, Value.oneCell']) (by simp only [List.length_cons, List.length_nil]; omega) (by simp only [maxLen, List.length_cons, List.length_nil]; omega) ?_
      intro v273 w274 hH275
      simp only [z0, z1] at hH275
      refine V (fA underlying25 1 rfl sizeOf23 e5_262) ?_
      refine RL.set hH275 (i := 2) rfl (run_st rfl rfl (v := v273) rfl (row_cells (hH275.get (i := 4) rfl)).1 (row_cells (hH275.get (i := 4) rfl)).2 (hH275.blk (i := 2) rfl) (by first | (show 1 < 2; decide) | decide | (simp only [List.size_toArray, scpL_len]; decide) | simp)) ?_
      intro w276 hH277
      simp only [z0, z1] at hH277
      refine RL.nil ?_
      refine CW.region ?_
      refine V (run_add e51_262 rfl (by omega)) ?_
      refine V (mV (I _) rfl) ?_
      refine RL.nil ?_
      refine ⟨(k + 1, v273, (vs ++ [⟨(c.names.getD k.toNat wd0).text, kindF c, findLat s c.name.text⟩])), ?_, fr262.u4.u4.u4.u4, (Hp.conv (hH277.sub (sQ (sQ sR))) (by first | rfl | simp)), (congrArg I (by first | rfl | omega)), ?_, ?_, ?_, ?_⟩
      ·((try dsimp only); omega)
      ·omega
      ·omega
      ·rw [vars_next h0 ‹k < _›, hvs, List.append_assoc]
      ·simp only [List.length_append, List.length_singleton]; omega
     ·refine CW.exit (id := 0) rfl ?_
      refine SR ?_
      obtain ⟨Z278, hz279, hv280, -⟩ := (hH262.perm (((pC pR).trans pS).trans (pC pR))).frz (K)
      have hH281 : Hp _ w262 (_ :: _ :: _ :: _ :: _ :: (Z278 ++ (Z15 ++ []))) := hz279.zin (L := [_, _, _, _, _]) (L' := (Z15 ++ []))
      obtain ⟨Z282, hz283, hv284, -⟩ := (hH281.perm (((pC pR).trans pS).trans (pC pR))).frz (K)
      have hH285 : Hp _ w262 (_ :: _ :: _ :: _ :: (Z282 ++ (Z278 ++ (Z15 ++ [])))) := hz283.zin (L := [_, _, _, _]) (L' := (Z278 ++ (Z15 ++ [])))
      have hp286 : ScpV (Kz K (Z282 ++ (Z278 ++ (Z15 ++ [])))) ⟨v12, ls13, fv1, vs⟩ := ⟨by simpa using hv280.mono (Le.zz (fun x hx => (List.mem_append_right _ (List.mem_append_left _ hx)))), by simpa [Scp.sc] using hv284.mono (Le.zz (fun x hx => (List.mem_append_left _ hx))), (hv17.mono (Le.zz (fun x hx => (List.mem_append_right _ (List.mem_append_right _ (List.mem_append_left _ hx)))))).each⟩
      refine V (run_ldA (cs := scpL (⟨v12, ls13, fv1, vs⟩ : Scp)) underlying25 rfl rfl e5_262 (rangeAt_cells (hH285.blk (i := 0) rfl))) ?_
      refine RL.set hH285 (i := 1) rfl (run_stW (c' := (scpL ⟨v12, ls13, fv1, vs⟩).toArray) rfl e4_262 rfl (scpL_one hp286) (hH285.blk (i := 1) rfl) rfl) ?_
      intro w287 hH288
      simp only [z0, z1] at hH288
      refine RL.nil ?_
      refine CW.ret ?_
      refine outCg Tryd.results19 e4_262 hH288 (i := 1) rfl underlying25 rfl rfl ⟨(Z282 ++ (Z278 ++ (Z15 ++ []))), (hH288.sub (sQ (sQ (sQ (sQ sR))))), ⟨v12, ls13, fv1, vs⟩, rfl, ?_, ?_⟩
      ·show (⟨_, _⟩ : Sc) = _; first | (exfalso; omega) | (rw [add_0 ‹_›]; simp [Scp.sc, *]; done) | (rw [add_1 ‹_› (by omega)]; simp [Scp.sc, LatR.pl, *]; done) | (rw [add_2 ‹_› (by omega), hvk ‹_›]; simp [Scp.sc, ‹List.map LatR.pl _ = _›]; done) | (rw [add_2 ‹_› (by omega)]; simp [Scp.sc, *]; done) | (rw [add_3 (by omega) (by omega)]; simp [Scp.sc, *]; done)
      ·exact hp286
   ·refine CW.skip ?_
    refine SR ?_
    obtain ⟨Z289, hz290, hv291, -⟩ := (hH253.perm (((pC pR).trans pS).trans (pC pR))).frz (K)
    have hH292 : Hp _ w252 (_ :: _ :: _ :: _ :: _ :: (Z289 ++ (Z15 ++ []))) := hz290.zin (L := [_, _, _, _, _]) (L' := (Z15 ++ []))
    obtain ⟨Z293, hz294, hv295, -⟩ := (hH292.perm (((pC pR).trans pS).trans (pC pR))).frz (K)
    have hH296 : Hp _ w252 (_ :: _ :: _ :: _ :: (Z293 ++ (Z289 ++ (Z15 ++ [])))) := hz294.zin (L := [_, _, _, _]) (L' := (Z289 ++ (Z15 ++ [])))
    have hp297 : ScpV (Kz K (Z293 ++ (Z289 ++ (Z15 ++ [])))) ⟨v12, ls13, v14, s.vars⟩ := ⟨by simpa using hv291.mono (Le.zz (fun x hx => (List.mem_append_right _ (List.mem_append_left _ hx)))), by simpa [Scp.sc] using hv295.mono (Le.zz (fun x hx => (List.mem_append_left _ hx))), (hv17.mono (Le.zz (fun x hx => (List.mem_append_right _ (List.mem_append_right _ (List.mem_append_left _ hx)))))).each⟩
    refine V (run_ldA (cs := scpL (⟨v12, ls13, v14, s.vars⟩ : Scp)) underlying25 rfl rfl rfl (rangeAt_cells (hH296.blk (i := 0) rfl))) ?_
    refine RL.set hH296 (i := 1) rfl (run_stW (c' := (scpL ⟨v12, ls13, v14, s.vars⟩).toArray) rfl rfl rfl (scpL_one hp297) (hH296.blk (i := 1) rfl) rfl) ?_
    intro w298 hH299
    simp only [z0, z1] at hH299
    refine RL.nil ?_
    refine CW.ret ?_
    refine outCg Tryd.results19 rfl hH299 (i := 1) rfl underlying25 rfl rfl ⟨(Z293 ++ (Z289 ++ (Z15 ++ []))), (hH299.sub (sQ (sQ (sQ (sQ sR))))), ⟨v12, ls13, v14, s.vars⟩, rfl, ?_, ?_⟩
    ·show (⟨_, _⟩ : Sc) = _; first | (exfalso; omega) | (rw [add_0 ‹_›]; simp [Scp.sc, *]; done) | (rw [add_1 ‹_› (by omega)]; simp [Scp.sc, LatR.pl, *]; done) | (rw [add_2 ‹_› (by omega), hvk ‹_›]; simp [Scp.sc, ‹List.map LatR.pl _ = _›]; done) | (rw [add_2 ‹_› (by omega)]; simp [Scp.sc, *]; done) | (rw [add_3 (by omega) (by omega)]; simp [Scp.sc, *]; done)
    ·exact hp297

theorem c_scope_Right (s : Scp) (w : World) (hs : ScpV (Kw w) s) (hT : Tab w) : Calls Tryd.prog 17 #[.agg (scpC s)] w (Pure (B (rightS s)) w) := by
 have hm1 := hs.lats.sl.small
 have hm2 := hs.vars.sl.small
 unfold maxLen at hm1 hm2
 refine enter Tryd.func17 rfl Tryd.ntmps17 rfl ?_
 have hH := Hp.start w
 refine SR ?_
 refine RL.new rfl hH (f := fun b => (.pointer (some ⟨b, 0, none⟩))) (run_box (v := .agg _) rfl) ?_
 intro b3 w1 hH2
 refine V (aV (B false) rfl) ?_
 refine RL.nil ?_
 refine CW.seq ?_
 refine SR ?_
 refine V (fA underlying25 0 rfl sizeOf22 rfl) ?_
 refine V (run_ldV (hs.lats.sl.hp hH2) underlying22 rfl rfl (hH2.cell (i := 0) rfl rfl)) ?_
 refine V (run_lenSl (hs.lats.sl.hp hH2) rfl underlying22 rfl) ?_
 refine V (run_gtr rfl rfl) ?_
 refine V (mV (B _) rfl) ?_
 refine RL.splitP (dj := 12) rfl (fun h5 => ?_) (fun h5 => ?_)
 ·refine RL.gF rfl rfl (bT h5) rfl ?_
  refine RL.gF rfl rfl (bT h5) rfl ?_
  refine RL.gF rfl rfl (bT h5) rfl ?_
  refine RL.gF rfl rfl (bT h5) rfl ?_
  refine V (run_pickT (bT h5) (v := B true) rfl) ?_
  refine RL.nil ?_
  refine CW.condT rfl ?_
  refine SR ?_
  refine V (aV (B false) rfl) ?_
  refine RL.nil ?_
  refine CW.ret ?_
  refine outP1 Tryd.results17 (congrArg B ?_) hH2.below
  first | exact (right_no1 (by omega)).symm | exact (right_no2 h0 ‹k < _› (by rw [latOk, nt ‹(!nameR _) = true›]; rfl)).symm | exact (right_no2 h0 ‹k < _› (by rw [latOk, nt ‹(!shR _) = true›, Bool.and_false])).symm | exact (right_no3 j0 ‹j < _› (by rw [varOk, nt ‹(!nameR _) = true›]; rfl)).symm | exact (right_no3 j0 ‹j < _› (by rw [varOk, decide_eq_false (by omega), Bool.and_false])).symm | (have hnm : m2 = namesS s := (by rw [hm2, hm, List.take_of_length_le (by omega), List.take_of_length_le (by omega)]; rfl); rw [hnm]; exact (right_yes hsz ‹¬ k < _› hg ‹¬ j < _› hv).symm)
 ·refine RL.gT rfl (bF h5) ?_
  refine V (fA underlying25 1 rfl sizeOf23 rfl) ?_
  refine RL.gT rfl (bF h5) ?_
  refine V (run_ldV (hs.vars.sl.hp hH2) underlying23 rfl rfl (hH2.cell (i := 0) rfl rfl)) ?_
  refine RL.gT rfl (bF h5) ?_
  refine V (run_lenSl (hs.vars.sl.hp hH2) rfl underlying23 rfl) ?_
  refine RL.gT rfl (bF h5) ?_
  refine V (run_gtr rfl rfl) ?_
  refine V (run_pickF (bF h5) (v := B _) rfl) ?_
  refine RL.nil ?_
  refine CW.condP rfl (fun h7 => ?_) (fun h7 => ?_)
  ·refine SR ?_
   refine V (aV (B false) rfl) ?_
   refine RL.nil ?_
   refine CW.ret ?_
   refine outP1 Tryd.results17 (congrArg B ?_) hH2.below
   first | exact (right_no1 (by omega)).symm | exact (right_no2 h0 ‹k < _› (by rw [latOk, nt ‹(!nameR _) = true›]; rfl)).symm | exact (right_no2 h0 ‹k < _› (by rw [latOk, nt ‹(!shR _) = true›, Bool.and_false])).symm | exact (right_no3 j0 ‹j < _› (by rw [varOk, nt ‹(!nameR _) = true›]; rfl)).symm | exact (right_no3 j0 ‹j < _› (by rw [varOk, decide_eq_false (by omega), Bool.and_false])).symm | (have hnm : m2 = namesS s := (by rw [hm2, hm, List.take_of_length_le (by omega), List.take_of_length_le (by omega)]; rfl); rw [hnm]; exact (right_yes hsz ‹¬ k < _› hg ‹¬ j < _› hv).symm)
  ·refine CW.skip ?_
   refine SR ?_
   refine V (aV (.slice none 0 0) rfl) ?_
   have hH8 := hH2.nilRow 9 1
   refine RL.nil ?_
   refine CW.seq ?_
   refine SR ?_
   refine V (fA underlying25 0 rfl sizeOf22 rfl) ?_
   refine V (run_ldV (hs.lats.sl.hp hH8) underlying22 rfl rfl (hH8.cell (i := 1) rfl rfl)) ?_
   refine V (run_lenSl (hs.lats.sl.hp hH8) rfl underlying22 rfl) ?_
   refine V (mV (I 0) rfl) ?_
   refine RL.nil ?_
   refine CW.block ?_
   have hsz : s.lats.length ≤ 16 ∧ s.vars.length ≤ 64 := by omega
   refine CW.loop (G := (Int) × (List Tx) × (Value)) (fun (⟨k, m, v3⟩ : (Int) × (List Tx) × (Value)) s' w' => (Fr [2, 3, 5, 21, 22, 23, 24, 25, 26, 27, 28, 29, 30, 31, 32, 33, 34, 35, 36, 37, 38, 39, 40] _ s') ∧ (Hp w w' (.row v3 9 1 (m.length) (txL m) :: _)) ∧ (s' 3 = v3) ∧ (s' 21 = I k) ∧ (0 ≤ k) ∧ (k ≤ s.lats.length) ∧ (m = (s.lats.take k.toNat).map LatR.name) ∧ ((m.length : Int) = k) ∧ (∀ j : Int, 0 ≤ j → j < k → latOk (s.lats.getD j.toNat lat0) = true)) (fun (⟨k, m, v3⟩ : (Int) × (List Tx) × (Value)) => (s.lats.length - k).toNat) ((0, [], (.slice none 0 0 : Value))) ⟨Fr.refl _ _, hH8, rfl, rfl, (by omega), (by omega), rfl, rfl, fun j a b => absurd b (by omega)⟩ ?_
   rintro ⟨k, m, v3⟩ sg9 w9 ⟨fr9, hH9, e3_9, e21_9, h0, hk, hm, hml, hg⟩
   have e1_9 : sg9 1 = Pn _ _ := (fr9 1 rfl).trans rfl
   have e19_9 := (fr9 19 rfl).trans (by conv => lhs; whnf)
   have e20_9 : sg9 20 = I _ := (fr9 20 rfl).trans rfl
   refine SR ?_
   refine V (run_lss e21_9 e20_9) ?_
   refine RL.nil ?_
   refine CW.seq ?_
   refine CW.condP rfl (fun h11 => ?_) (fun h11 => ?_)
   ·refine CW.skip ?_
    refine CW.seq ?_
    refine CW.block ?_
    refine SR ?_
    refine V (run_indexAddrS (hs.lats.sl.hp hH9) underlying22 sizeOf56 e19_9 e21_9 (by omega)) ?_
    refine V (run_ldE (dv := lat0) latL_len (hs.lats.sl.hp hH9) underlying56 rfl rfl rfl (by omega)) ?_
    refine RL.new rfl hH9 (f := fun b => (.pointer (some ⟨b, 0, none⟩))) (run_alloc Tryd.zeroValue56) ?_
    intro b14 w12 hH13
    refine RL.set hH13 (i := 0) rfl (run_stW (c' := (latL _).toArray) rfl rfl rfl (latL_one (hs.at (by omega) (by omega))) (hH13.blk (i := 0) rfl) rfl) ?_
    intro w15 hH16
    simp only [z0, z1] at hH16
    refine RL.nil ?_
    refine CW.seq ?_
    refine SR ?_
    refine V (fA underlying56 0 rfl sizeOf9 rfl) ?_
    refine V (run_ld underlying9 rfl rfl (hH16.cell (i := 0) rfl (v := .string _) rfl)) ?_
    refine RL.callP rfl hH16 (c_name_Right _  _) (run_call1 call38 rfl) ?_
    intro w17 hH18
    refine V (run_not rfl) ?_
    refine V (mV (B _) rfl) ?_
    refine RL.split (dj := 29) rfl (fun h21 => ?_) (fun h21 => ?_)
    ·refine RL.gF rfl rfl (bR (c := true) h21) rfl ?_
     refine RL.gF rfl rfl (bR (c := true) h21) rfl ?_
     refine RL.gF rfl rfl (bR (c := true) h21) rfl ?_
     refine RL.gF rfl rfl (bR (c := true) h21) rfl ?_
     refine V (run_pickT (bR (c := true) h21) (v := B true) rfl) ?_
     refine RL.nil ?_
     refine CW.condT rfl ?_
     refine SR ?_
     refine V (aV (B false) rfl) ?_
     refine RL.nil ?_
     refine CW.ret ?_
     refine outP1 Tryd.results17 (congrArg B ?_) hH18.below
     first | exact (right_no1 (by omega)).symm | exact (right_no2 h0 ‹k < _› (by rw [latOk, nt ‹(!nameR _) = true›]; rfl)).symm | exact (right_no2 h0 ‹k < _› (by rw [latOk, nt ‹(!shR _) = true›, Bool.and_false])).symm | exact (right_no3 j0 ‹j < _› (by rw [varOk, nt ‹(!nameR _) = true›]; rfl)).symm | exact (right_no3 j0 ‹j < _› (by rw [varOk, decide_eq_false (by omega), Bool.and_false])).symm | (have hnm : m2 = namesS s := (by rw [hm2, hm, List.take_of_length_le (by omega), List.take_of_length_le (by omega)]; rfl); rw [hnm]; exact (right_yes hsz ‹¬ k < _› hg ‹¬ j < _› hv).symm)
    ·refine RL.gT rfl (bR (c := false) h21) ?_
     refine V (fA underlying56 1 rfl sizeOf54 rfl) ?_
     refine RL.gT rfl (bR (c := false) h21) ?_
     refine V (run_ldSub (sub := shpL _) underlying54 rfl rfl rfl (hH18.blk (i := 0) rfl) rfl) ?_
     refine RL.gT rfl (bR (c := false) h21) ?_
     refine RL.callP rfl hH18 (c_shape_Right _  _ ((hs.at (by omega) (by omega)).mono hH18.kw) (hT.hp hH18)) (run_call1 call21 rfl) ?_
     intro w22 hH23
     refine RL.gT rfl (bR (c := false) h21) ?_
     refine V (run_not rfl) ?_
     refine V (run_pickF (bR (c := false) h21) (v := B _) rfl) ?_
     refine RL.nil ?_
     refine CW.cond rfl (fun h26 => ?_) (fun h26 => ?_)
     ·refine SR ?_
      refine V (aV (B false) rfl) ?_
      refine RL.nil ?_
      refine CW.ret ?_
      refine outP1 Tryd.results17 (congrArg B ?_) hH23.below
      first | exact (right_no1 (by omega)).symm | exact (right_no2 h0 ‹k < _› (by rw [latOk, nt ‹(!nameR _) = true›]; rfl)).symm | exact (right_no2 h0 ‹k < _› (by rw [latOk, nt ‹(!shR _) = true›, Bool.and_false])).symm | exact (right_no3 j0 ‹j < _› (by rw [varOk, nt ‹(!nameR _) = true›]; rfl)).symm | exact (right_no3 j0 ‹j < _› (by rw [varOk, decide_eq_false (by omega), Bool.and_false])).symm | (have hnm : m2 = namesS s := (by rw [hm2, hm, List.take_of_length_le (by omega), List.take_of_length_le (by omega)]; rfl); rw [hnm]; exact (right_yes hsz ‹¬ k < _› hg ‹¬ j < _› hv).symm)
     ·refine CW.skip ?_
      refine CW.region ?_
      refine V (run_move e3_9) ?_
      refine V (fA underlying56 0 rfl sizeOf9 rfl) ?_
      refine V (run_ld underlying9 rfl rfl (hH23.cell (i := 0) rfl (v := .string _) rfl)) ?_
      refine RL.new rfl hH23 (f := fun b => (.slice (some ⟨b, 0, none⟩) 1 1)) (run_mkL underlying75 rfl rfl (sz := 1) (vs := [.string _]) rfl rfl (by decide) (by decide) rfl rfl) ?_
      intro b29 w27 hH28
      (try simp only [List.flatMap_cons, List.flatMap_nil, clI, clB, clS, clP, clL, clA, List.append_nil, List.cons_append, List.nil_append] at hH28)
      refine RL.app rfl hH28 (i := 2) rfl (hH28.slBlk (i := 0) (n := 1) (sz := 1) rfl rfl (by decide)) rfl rfl underlying75 rfl rfl (size := 1) (bytes := 16) rfl rfl rfl (by decide) (by simp [Value.oneCell']) (by omega) (by simp only [maxLen]; omega) ?_
      intro v30 w31 hH32
      simp only [z0, z1] at hH32
      refine V (run_assign (by conv => lhs; whnf)) ?_
      refine RL.nil ?_
      refine CW.region ?_
      refine V (run_add e21_9 rfl (by omega)) ?_
      refine V (mV (I _) rfl) ?_
      refine RL.nil ?_
      refine ⟨(k + 1, m ++ [(s.lats.getD k.toNat lat0).name], v30), ?_, fr9.u4.u4.u4.u4.u4.u1.u1, (Hp.conv (hH32.sub (sQ (sQ sR))) (by first | rfl | simp)), rfl, (congrArg I (by first | rfl | omega)), ?_, ?_, ?_, ?_, ?_⟩
      ·((try dsimp only); omega)
      ·omega
      ·omega
      ·rw [lnames_next h0 ‹k < _›, ← hm]
      ·simp only [List.length_append, List.length_singleton]; omega
      ·exact fun j a b => if e : j = k then e ▸ (by rw [latOk, nf ‹(!nameR _) = false›, nf ‹(!shR _) = false›]; rfl) else hg j a (by omega)
   ·refine CW.exit (id := 0) rfl ?_
    refine CW.seq ?_
    refine SR ?_
    refine V (fA underlying25 1 rfl sizeOf23 e1_9) ?_
    refine V (run_ldV (hs.vars.sl.hp hH9) underlying23 rfl rfl (hH9.cell (i := 1) rfl rfl)) ?_
    refine V (run_lenSl (hs.vars.sl.hp hH9) rfl underlying23 rfl) ?_
    refine V (mV (I 0) rfl) ?_
    refine RL.nil ?_
    refine CW.block ?_
    refine CW.loop (G := (Int) × (List Tx) × (Value)) (fun (⟨j, m2, v3⟩ : (Int) × (List Tx) × (Value)) s' w' => (Fr [2, 3, 7, 44, 45, 46, 47, 48, 49, 50, 51, 52, 53, 54, 55, 56, 57, 58, 59, 60, 61, 62, 63, 64, 65, 66, 67, 68, 69, 70, 71, 72, 73, 74, 75, 76, 77, 78, 79, 80] _ s') ∧ (Hp w w' (.row v3 9 1 (m2.length) (txL m2) :: _)) ∧ (s' 3 = v3) ∧ (s' 44 = I j) ∧ (0 ≤ j) ∧ (j ≤ s.vars.length) ∧ (m2 = m ++ (s.vars.take j.toNat).map VarR.name) ∧ ((m2.length : Int) = k + j) ∧ (∀ i : Int, 0 ≤ i → i < j → varOk s.lats.length (s.vars.getD i.toNat var0) = true)) (fun (⟨j, m2, v3⟩ : (Int) × (List Tx) × (Value)) => (s.vars.length - j).toNat) ((0, m, (v3 : Value))) ⟨Fr.refl _ _, hH9, e3_9, rfl, (by omega), (by omega), (List.append_nil m).symm, (by omega), fun j a b => absurd b (by omega)⟩ ?_
    rintro ⟨j, m2, v3⟩ sg33 w33 ⟨fr33, hH33, e3_33, e44_33, j0, hj, hm2, hml2, hv⟩
    have e1_33 := (fr33 1 rfl).trans e1_9
    have e42_33 := (fr33 42 rfl).trans (by conv => lhs; whnf)
    have e43_33 : sg33 43 = I _ := (fr33 43 rfl).trans rfl
    refine SR ?_
    refine V (run_lss e44_33 e43_33) ?_
    refine RL.nil ?_
    refine CW.seq ?_
    refine CW.condP rfl (fun h35 => ?_) (fun h35 => ?_)
    ·refine CW.skip ?_
     refine CW.seq ?_
     refine CW.block ?_
     refine SR ?_
     refine V (run_indexAddrS (hs.vars.sl.hp hH33) underlying23 sizeOf60 e42_33 e44_33 (by omega)) ?_
     refine V (run_ldE (dv := var0) varL_len (hs.vars.sl.hp hH33) underlying60 rfl rfl rfl (by omega)) ?_
     refine RL.new rfl hH33 (f := fun b => (.pointer (some ⟨b, 0, none⟩))) (run_alloc Tryd.zeroValue60) ?_
     intro b38 w36 hH37
     refine RL.set hH37 (i := 0) rfl (run_stW (c' := (varL _).toArray) rfl rfl rfl (by simp [varL, Value.oneCell']) (hH37.blk (i := 0) rfl) rfl) ?_
     intro w39 hH40
     simp only [z0, z1] at hH40
     refine RL.nil ?_
     refine CW.seq ?_
     refine SR ?_
     refine V (fA underlying60 0 rfl sizeOf9 rfl) ?_
     refine V (run_ld underlying9 rfl rfl (hH40.cell (i := 0) rfl (v := .string _) rfl)) ?_
     refine RL.callP rfl hH40 (c_name_Right _  _) (run_call1 call38 rfl) ?_
     intro w41 hH42
     refine V (run_not rfl) ?_
     refine V (mV (B _) rfl) ?_
     refine RL.split (dj := 52) rfl (fun h45 => ?_) (fun h45 => ?_)
     ·refine RL.gF rfl rfl (bR (c := true) h45) rfl ?_
      refine RL.gF rfl rfl (bR (c := true) h45) rfl ?_
      refine RL.gF rfl rfl (bR (c := true) h45) rfl ?_
      refine RL.gF rfl rfl (bR (c := true) h45) rfl ?_
      refine RL.gU rfl rfl rfl ?_
      refine RL.gU rfl rfl rfl ?_
      refine RL.gU rfl rfl rfl ?_
      refine RL.gF rfl rfl (bR (c := true) h45) rfl ?_
      refine V (run_pickT (bR (c := true) h45) (v := B true) rfl) ?_
      refine V (mV (B _) rfl) ?_
      refine RL.gF rfl rfl rfl rfl ?_
      refine RL.gF rfl rfl rfl rfl ?_
      refine RL.gF rfl rfl rfl rfl ?_
      refine V (run_pickT rfl (v := B true) rfl) ?_
      refine V (mV (B _) rfl) ?_
      refine RL.gF rfl rfl rfl rfl ?_
      refine RL.gF rfl rfl rfl rfl ?_
      refine RL.gF rfl rfl rfl rfl ?_
      refine RL.gF rfl rfl rfl rfl ?_
      refine RL.gF rfl rfl rfl rfl ?_
      refine RL.gF rfl rfl rfl rfl ?_
      refine V (run_pickT rfl (v := B true) rfl) ?_
      refine RL.nil ?_
      refine CW.condT rfl ?_
      refine SR ?_
      refine V (aV (B false) rfl) ?_
      refine RL.nil ?_
      refine CW.ret ?_
      refine outP1 Tryd.results17 (congrArg B ?_) hH42.below
      first | exact (right_no1 (by omega)).symm | exact (right_no2 h0 ‹k < _› (by rw [latOk, nt ‹(!nameR _) = true›]; rfl)).symm | exact (right_no2 h0 ‹k < _› (by rw [latOk, nt ‹(!shR _) = true›, Bool.and_false])).symm | exact (right_no3 j0 ‹j < _› (by rw [varOk, nt ‹(!nameR _) = true›]; rfl)).symm | exact (right_no3 j0 ‹j < _› (by rw [varOk, decide_eq_false (by omega), Bool.and_false])).symm | (have hnm : m2 = namesS s := (by rw [hm2, hm, List.take_of_length_le (by omega), List.take_of_length_le (by omega)]; rfl); rw [hnm]; exact (right_yes hsz ‹¬ k < _› hg ‹¬ j < _› hv).symm)
     ·refine RL.gT rfl (bR (c := false) h45) ?_
      refine V (fA underlying60 1 rfl sizeOf3 rfl) ?_
      refine RL.gT rfl (bR (c := false) h45) ?_
      refine V (run_ld underlying3 rfl rfl (hH42.cell (i := 0) rfl (v := I _) rfl)) ?_
      refine RL.gT rfl (bR (c := false) h45) ?_
      refine V (run_neq rfl rfl) ?_
      refine RL.gT rfl (bR (c := false) h45) ?_
      refine V (mV (B _) rfl) ?_
      refine RL.splitP (dj := 56) rfl (fun h47 => ?_) (fun h47 => ?_)
      ·refine RL.gT rfl (bT h47) ?_
       refine V (fA underlying60 1 rfl sizeOf3 rfl) ?_
       refine RL.gT rfl (bT h47) ?_
       refine V (run_ld underlying3 rfl rfl (hH42.cell (i := 0) rfl (v := I _) rfl)) ?_
       refine RL.gT rfl (bT h47) ?_
       refine V (run_neq rfl rfl) ?_
       refine RL.gT rfl (bR (c := false) h45) ?_
       refine V (run_pickT (bT h47) (v := B _) rfl) ?_
       refine V (run_pickF (bR (c := false) h45) (v := B _) rfl) ?_
       refine V (mV (B _) rfl) ?_
       refine RL.splitP (dj := 62) rfl (fun h49 => ?_) (fun h49 => ?_)
       ·refine RL.gF rfl rfl (bT h49) rfl ?_
        refine RL.gF rfl rfl (bT h49) rfl ?_
        refine RL.gF rfl rfl (bT h49) rfl ?_
        refine V (run_pickT (bT h49) (v := B true) rfl) ?_
        refine V (mV (B _) rfl) ?_
        refine RL.gF rfl rfl rfl rfl ?_
        refine RL.gF rfl rfl rfl rfl ?_
        refine RL.gF rfl rfl rfl rfl ?_
        refine RL.gF rfl rfl rfl rfl ?_
        refine RL.gF rfl rfl rfl rfl ?_
        refine RL.gF rfl rfl rfl rfl ?_
        refine V (run_pickT rfl (v := B true) rfl) ?_
        refine RL.nil ?_
        refine CW.condT rfl ?_
        refine SR ?_
        refine V (aV (B false) rfl) ?_
        refine RL.nil ?_
        refine CW.ret ?_
        refine outP1 Tryd.results17 (congrArg B ?_) hH42.below
        first | exact (right_no1 (by omega)).symm | exact (right_no2 h0 ‹k < _› (by rw [latOk, nt ‹(!nameR _) = true›]; rfl)).symm | exact (right_no2 h0 ‹k < _› (by rw [latOk, nt ‹(!shR _) = true›, Bool.and_false])).symm | exact (right_no3 j0 ‹j < _› (by rw [varOk, nt ‹(!nameR _) = true›]; rfl)).symm | exact (right_no3 j0 ‹j < _› (by rw [varOk, decide_eq_false (by omega), Bool.and_false])).symm | (have hnm : m2 = namesS s := (by rw [hm2, hm, List.take_of_length_le (by omega), List.take_of_length_le (by omega)]; rfl); rw [hnm]; exact (right_yes hsz ‹¬ k < _› hg ‹¬ j < _› hv).symm)
       ·refine RL.gT rfl (bF h49) ?_
        refine V (fA underlying60 2 rfl sizeOf3 rfl) ?_
        refine RL.gT rfl (bF h49) ?_
        refine V (run_ld underlying3 rfl rfl (hH42.cell (i := 0) rfl (v := I _) rfl)) ?_
        refine RL.gT rfl (bF h49) ?_
        refine V (run_lss rfl rfl) ?_
        refine V (run_pickF (bF h49) (v := B _) rfl) ?_
        refine V (mV (B _) rfl) ?_
        refine RL.splitP (dj := 67) rfl (fun h51 => ?_) (fun h51 => ?_)
        ·refine RL.gF rfl rfl (bT h51) rfl ?_
         refine RL.gF rfl rfl (bT h51) rfl ?_
         refine RL.gF rfl rfl (bT h51) rfl ?_
         refine RL.gF rfl rfl (bT h51) rfl ?_
         refine RL.gF rfl rfl (bT h51) rfl ?_
         refine RL.gF rfl rfl (bT h51) rfl ?_
         refine V (run_pickT (bT h51) (v := B true) rfl) ?_
         refine RL.nil ?_
         refine CW.condT rfl ?_
         refine SR ?_
         refine V (aV (B false) rfl) ?_
         refine RL.nil ?_
         refine CW.ret ?_
         refine outP1 Tryd.results17 (congrArg B ?_) hH42.below
         first | exact (right_no1 (by omega)).symm | exact (right_no2 h0 ‹k < _› (by rw [latOk, nt ‹(!nameR _) = true›]; rfl)).symm | exact (right_no2 h0 ‹k < _› (by rw [latOk, nt ‹(!shR _) = true›, Bool.and_false])).symm | exact (right_no3 j0 ‹j < _› (by rw [varOk, nt ‹(!nameR _) = true›]; rfl)).symm | exact (right_no3 j0 ‹j < _› (by rw [varOk, decide_eq_false (by omega), Bool.and_false])).symm | (have hnm : m2 = namesS s := (by rw [hm2, hm, List.take_of_length_le (by omega), List.take_of_length_le (by omega)]; rfl); rw [hnm]; exact (right_yes hsz ‹¬ k < _› hg ‹¬ j < _› hv).symm)
        ·refine RL.gT rfl (bF h51) ?_
         refine V (fA underlying60 2 rfl sizeOf3 rfl) ?_
         refine RL.gT rfl (bF h51) ?_
         refine V (run_ld underlying3 rfl rfl (hH42.cell (i := 0) rfl (v := I _) rfl)) ?_
         refine RL.gT rfl (bF h51) ?_
         refine V (fA underlying25 0 rfl sizeOf22 e1_33) ?_
         refine RL.gT rfl (bF h51) ?_
         refine V (run_ldV (hs.lats.sl.hp hH42) underlying22 rfl rfl (hH42.cell (i := 2) rfl rfl)) ?_
         refine RL.gT rfl (bF h51) ?_
         refine V (run_lenSl (hs.lats.sl.hp hH42) rfl underlying22 rfl) ?_
         refine RL.gT rfl (bF h51) ?_
         refine V (run_geq rfl rfl) ?_
         refine V (run_pickF (bF h51) (v := B _) rfl) ?_
         refine RL.nil ?_
         refine CW.condP rfl (fun h53 => ?_) (fun h53 => ?_)
         ·refine SR ?_
          refine V (aV (B false) rfl) ?_
          refine RL.nil ?_
          refine CW.ret ?_
          refine outP1 Tryd.results17 (congrArg B ?_) hH42.below
          first | exact (right_no1 (by omega)).symm | exact (right_no2 h0 ‹k < _› (by rw [latOk, nt ‹(!nameR _) = true›]; rfl)).symm | exact (right_no2 h0 ‹k < _› (by rw [latOk, nt ‹(!shR _) = true›, Bool.and_false])).symm | exact (right_no3 j0 ‹j < _› (by rw [varOk, nt ‹(!nameR _) = true›]; rfl)).symm | exact (right_no3 j0 ‹j < _› (by rw [varOk, decide_eq_false (by omega), Bool.and_false])).symm | (have hnm : m2 = namesS s := (by rw [hm2, hm, List.take_of_length_le (by omega), List.take_of_length_le (by omega)]; rfl); rw [hnm]; exact (right_yes hsz ‹¬ k < _› hg ‹¬ j < _› hv).symm)
         ·refine CW.skip ?_
          refine CW.region ?_
          refine V (run_move e3_33) ?_
          refine V (fA underlying60 0 rfl sizeOf9 rfl) ?_
          refine V (run_ld underlying9 rfl rfl (hH42.cell (i := 0) rfl (v := .string _) rfl)) ?_
          refine RL.new rfl hH42 (f := fun b => (.slice (some ⟨b, 0, none⟩) 1 1)) (run_mkL underlying75 rfl rfl (sz := 1) (vs := [.string _]) rfl rfl (by decide) (by decide) rfl rfl) ?_
          intro b56 w54 hH55
          (try simp only [List.flatMap_cons, List.flatMap_nil, clI, clB, clS, clP, clL, clA, List.append_nil, List.cons_append, List.nil_append] at hH55)
          refine RL.app rfl hH55 (i := 2) rfl (hH55.slBlk (i := 0) (n := 1) (sz := 1) rfl rfl (by decide)) rfl rfl underlying75 rfl rfl (size := 1) (bytes := 16) rfl rfl rfl (by decide) (by simp [Value.oneCell']) (by omega) (by simp only [maxLen]; omega) ?_
          intro v57 w58 hH59
          simp only [z0, z1] at hH59
          refine V (run_assign (by conv => lhs; whnf)) ?_
          refine RL.nil ?_
          refine CW.region ?_
          refine V (run_add e44_33 rfl (by omega)) ?_
          refine V (mV (I _) rfl) ?_
          refine RL.nil ?_
          refine ⟨(j + 1, m2 ++ [(s.vars.getD j.toNat var0).name], v57), ?_, fr33.u4.u4.u4.u4.u4.u4.u4.u4.u4.u1.u1.u1, (Hp.conv (hH59.sub (sQ (sQ sR))) (by first | rfl | simp)), rfl, (congrArg I (by first | rfl | omega)), ?_, ?_, ?_, ?_, ?_⟩
          ·((try dsimp only); omega)
          ·omega
          ·omega
          ·rw [vnames_next j0 ‹j < _›, hm2, List.append_assoc]
          ·simp only [List.length_append, List.length_singleton]; omega
          ·exact fun i a b => if e : i = j then e ▸ (by rw [varOk, nf ‹(!nameR _) = false›, Bool.true_and, decide_eq_true_eq]; omega) else hv i a (by omega)
      ·refine RL.gF rfl rfl (bF h47) rfl ?_
       refine RL.gF rfl rfl (bF h47) rfl ?_
       refine RL.gF rfl rfl (bF h47) rfl ?_
       refine RL.gT rfl (bR (c := false) h45) ?_
       refine V (run_pickF (bF h47) (v := B false) rfl) ?_
       refine V (run_pickF (bR (c := false) h45) (v := B _) rfl) ?_
       refine V (mV (B _) rfl) ?_
       refine RL.gT rfl rfl ?_
       refine V (fA underlying60 2 rfl sizeOf3 rfl) ?_
       refine RL.gT rfl rfl ?_
       refine V (run_ld underlying3 rfl rfl (hH42.cell (i := 0) rfl (v := I _) rfl)) ?_
       refine RL.gT rfl rfl ?_
       refine V (run_lss rfl rfl) ?_
       refine V (run_pickF rfl (v := B _) rfl) ?_
       refine V (mV (B _) rfl) ?_
       refine RL.splitP (dj := 67) rfl (fun h61 => ?_) (fun h61 => ?_)
       ·refine RL.gF rfl rfl (bT h61) rfl ?_
        refine RL.gF rfl rfl (bT h61) rfl ?_
        refine RL.gF rfl rfl (bT h61) rfl ?_
        refine RL.gF rfl rfl (bT h61) rfl ?_
        refine RL.gF rfl rfl (bT h61) rfl ?_
        refine RL.gF rfl rfl (bT h61) rfl ?_
        refine V (run_pickT (bT h61) (v := B true) rfl) ?_
        refine RL.nil ?_
        refine CW.condT rfl ?_
        refine SR ?_
        refine V (aV (B false) rfl) ?_
        refine RL.nil ?_
        refine CW.ret ?_
        refine outP1 Tryd.results17 (congrArg B ?_) hH42.below
        first | exact (right_no1 (by omega)).symm | exact (right_no2 h0 ‹k < _› (by rw [latOk, nt ‹(!nameR _) = true›]; rfl)).symm | exact (right_no2 h0 ‹k < _› (by rw [latOk, nt ‹(!shR _) = true›, Bool.and_false])).symm | exact (right_no3 j0 ‹j < _› (by rw [varOk, nt ‹(!nameR _) = true›]; rfl)).symm | exact (right_no3 j0 ‹j < _› (by rw [varOk, decide_eq_false (by omega), Bool.and_false])).symm | (have hnm : m2 = namesS s := (by rw [hm2, hm, List.take_of_length_le (by omega), List.take_of_length_le (by omega)]; rfl); rw [hnm]; exact (right_yes hsz ‹¬ k < _› hg ‹¬ j < _› hv).symm)
       ·refine RL.gT rfl (bF h61) ?_
        refine V (fA underlying60 2 rfl sizeOf3 rfl) ?_
        refine RL.gT rfl (bF h61) ?_
        refine V (run_ld underlying3 rfl rfl (hH42.cell (i := 0) rfl (v := I _) rfl)) ?_
        refine RL.gT rfl (bF h61) ?_
        refine V (fA underlying25 0 rfl sizeOf22 e1_33) ?_
        refine RL.gT rfl (bF h61) ?_
        refine V (run_ldV (hs.lats.sl.hp hH42) underlying22 rfl rfl (hH42.cell (i := 2) rfl rfl)) ?_
        refine RL.gT rfl (bF h61) ?_
        refine V (run_lenSl (hs.lats.sl.hp hH42) rfl underlying22 rfl) ?_
        refine RL.gT rfl (bF h61) ?_
        refine V (run_geq rfl rfl) ?_
        refine V (run_pickF (bF h61) (v := B _) rfl) ?_
        refine RL.nil ?_
        refine CW.condP rfl (fun h63 => ?_) (fun h63 => ?_)
        ·refine SR ?_
         refine V (aV (B false) rfl) ?_
         refine RL.nil ?_
         refine CW.ret ?_
         refine outP1 Tryd.results17 (congrArg B ?_) hH42.below
         first | exact (right_no1 (by omega)).symm | exact (right_no2 h0 ‹k < _› (by rw [latOk, nt ‹(!nameR _) = true›]; rfl)).symm | exact (right_no2 h0 ‹k < _› (by rw [latOk, nt ‹(!shR _) = true›, Bool.and_false])).symm | exact (right_no3 j0 ‹j < _› (by rw [varOk, nt ‹(!nameR _) = true›]; rfl)).symm | exact (right_no3 j0 ‹j < _› (by rw [varOk, decide_eq_false (by omega), Bool.and_false])).symm | (have hnm : m2 = namesS s := (by rw [hm2, hm, List.take_of_length_le (by omega), List.take_of_length_le (by omega)]; rfl); rw [hnm]; exact (right_yes hsz ‹¬ k < _› hg ‹¬ j < _› hv).symm)
        ·refine CW.skip ?_
         refine CW.region ?_
         refine V (run_move e3_33) ?_
         refine V (fA underlying60 0 rfl sizeOf9 rfl) ?_
         refine V (run_ld underlying9 rfl rfl (hH42.cell (i := 0) rfl (v := .string _) rfl)) ?_
         refine RL.new rfl hH42 (f := fun b => (.slice (some ⟨b, 0, none⟩) 1 1)) (run_mkL underlying75 rfl rfl (sz := 1) (vs := [.string _]) rfl rfl (by decide) (by decide) rfl rfl) ?_
         intro b66 w64 hH65
         (try simp only [List.flatMap_cons, List.flatMap_nil, clI, clB, clS, clP, clL, clA, List.append_nil, List.cons_append, List.nil_append] at hH65)
         refine RL.app rfl hH65 (i := 2) rfl (hH65.slBlk (i := 0) (n := 1) (sz := 1) rfl rfl (by decide)) rfl rfl underlying75 rfl rfl (size := 1) (bytes := 16) rfl rfl rfl (by decide) (by simp [Value.oneCell']) (by omega) (by simp only [maxLen]; omega) ?_
         intro v67 w68 hH69
         simp only [z0, z1] at hH69
         refine V (run_assign (by conv => lhs; whnf)) ?_
         refine RL.nil ?_
         refine CW.region ?_
         refine V (run_add e44_33 rfl (by omega)) ?_
         refine V (mV (I _) rfl) ?_
         refine RL.nil ?_
         refine ⟨(j + 1, m2 ++ [(s.vars.getD j.toNat var0).name], v67), ?_, fr33.u4.u4.u4.u4.u4.u4.u4.u4.u4.u1.u1.u1, (Hp.conv (hH69.sub (sQ (sQ sR))) (by first | rfl | simp)), rfl, (congrArg I (by first | rfl | omega)), ?_, ?_, ?_, ?_, ?_⟩
         ·((try dsimp only); omega)
         ·omega
         ·omega
         ·rw [vnames_next j0 ‹j < _›, hm2, List.append_assoc]
         ·simp only [List.length_append, List.length_singleton]; omega
         ·exact fun i a b => if e : i = j then e ▸ (by rw [varOk, nf ‹(!nameR _) = false›, Bool.true_and, decide_eq_true_eq]; omega) else hv i a (by omega)
    ·refine CW.exit (id := 2) rfl ?_
     refine SR ?_
     refine V (run_move e3_33) ?_
     refine RL.callP rfl hH33 (c_name_Twice _ _  _ (hH33.sl (i := 0) rfl)) (run_call1 call39 rfl) ?_
     intro w70 hH71
     refine V (run_lss rfl rfl) ?_
     refine V (aV (B _) rfl) ?_
     refine RL.nil ?_
     refine CW.ret ?_
     refine outP1 Tryd.results17 (congrArg B ?_) hH71.below
     first | exact (right_no1 (by omega)).symm | exact (right_no2 h0 ‹k < _› (by rw [latOk, nt ‹(!nameR _) = true›]; rfl)).symm | exact (right_no2 h0 ‹k < _› (by rw [latOk, nt ‹(!shR _) = true›, Bool.and_false])).symm | exact (right_no3 j0 ‹j < _› (by rw [varOk, nt ‹(!nameR _) = true›]; rfl)).symm | exact (right_no3 j0 ‹j < _› (by rw [varOk, decide_eq_false (by omega), Bool.and_false])).symm | (have hnm : m2 = namesS s := (by rw [hm2, hm, List.take_of_length_le (by omega), List.take_of_length_le (by omega)]; rfl); rw [hnm]; exact (right_yes hsz ‹¬ k < _› hg ‹¬ j < _› hv).symm)

theorem c_clearancelaw13_words (v : Value) (l : List Tx) (hl : l.length ≤ 1000) (w : World) (hs : Sl w v 1 l.length (txL l)) : Calls Tryd.prog 25 #[v] w (PureRow 38 2 (wordsTo l l.length).length ((wordsTo l l.length).flatMap wdL) w) := by
 refine enter Tryd.func25 rfl Tryd.ntmps25 rfl ?_
 have hH := Hp.start w
 refine SR ?_
 refine V (aV (.slice none 0 0) rfl) ?_
 refine RL.nil ?_
 refine SR ?_
 refine V (aV (.slice none 0 0) rfl) ?_
 have hH1 := hH.nilRow 38 2
 refine RL.nil ?_
 refine CW.seq ?_
 refine SR ?_
 refine V (run_move (by conv => lhs; whnf)) ?_
 refine V (run_lenSl (hs.hp hH1) rfl underlying75 rfl) ?_
 refine V (mV (I 0) rfl) ?_
 refine RL.nil ?_
 refine CW.block ?_
 refine CW.loop (G := (Int) × (List Wd) × (Value)) (fun (⟨k, m, v3⟩ : (Int) × (List Wd) × (Value)) s' w' => (Fr [3, 4, 5, 8, 9, 10, 11, 12, 13, 14, 15, 16, 17, 18, 19, 20] _ s') ∧ (Hp w w' (.row v3 38 2 (m.length) (m.flatMap wdL) :: _)) ∧ (s' 3 = v3) ∧ (s' 8 = I k) ∧ (0 ≤ k) ∧ (k ≤ l.length) ∧ (m = wordsTo l k) ∧ ((m.length : Int) = k)) (fun (⟨k, m, v3⟩ : (Int) × (List Wd) × (Value)) => (l.length - k).toNat) ((0, [], (.slice none 0 0 : Value))) ⟨Fr.refl _ _, hH1, rfl, rfl, (by omega), (by omega), rfl, rfl⟩ ?_
 rintro ⟨k, m, v3⟩ sg2 w2 ⟨fr2, hH2, e3_2, e8_2, h0, hk, hm, hml⟩
 have e2_2 := (fr2 2 rfl).trans (by conv => lhs; whnf)
 have e6_2 := (fr2 6 rfl).trans (by conv => lhs; whnf)
 have e7_2 : sg2 7 = I _ := (fr2 7 rfl).trans rfl
 refine SR ?_
 refine V (run_lss e8_2 e7_2) ?_
 refine RL.nil ?_
 refine CW.seq ?_
 refine CW.condP rfl (fun h4 => ?_) (fun h4 => ?_)
 ·refine CW.skip ?_
  refine CW.seq ?_
  refine CW.block ?_
  refine SR ?_
  refine V (run_move e8_2) ?_
  refine V (run_indexAddrS (hs.hp hH2) underlying75 sizeOf9 e6_2 e8_2 (by omega)) ?_
  refine V (run_ld underlying9 rfl rfl ((hs.hp hH2).cell _ _ (txL_at (by omega)))) ?_
  refine V (aV (I _) rfl) ?_
  refine V (aV (.string _) rfl) ?_
  refine RL.nil ?_
  refine CW.region ?_
  refine V (run_move e3_2) ?_
  refine V (mV (.string _) rfl) ?_
  refine V (mV (I _) rfl) ?_
  refine V (run_add rfl rfl (by omega)) ?_
  refine V (run_bld (vs := [(0, S _), (1, I _)]) rfl (built_wdL _ _)) ?_
  refine RL.new rfl hH2 (f := fun b => (.slice (some ⟨b, 0, none⟩) 1 1)) (run_mkRecs wdL_len underlying39 rfl rfl rfl (l := [(⟨l.getD k.toNat tx0, 10 + k⟩ : Wd)]) rfl (by decide) (by decide) rfl) ?_
  intro b7 w5 hH6
  refine RL.app rfl hH6 (i := 1) rfl (Hp.slFlat wdL_len hH6 (i := 0) (l := [(⟨l.getD k.toNat tx0, 10 + k⟩ : Wd)]) rfl (by simp [maxLen])) rfl rfl underlying39 rfl rfl (size := 2) (bytes := 24) rfl rfl rfl (by decide) (by simp [wdL, Value.oneCell']) (by simp only [List.length_cons, List.length_nil]; omega) (by simp only [maxLen, List.length_cons, List.length_nil]; omega) ?_
  intro v8 w9 hH10
  simp only [z0, z1] at hH10
  refine V (run_assign (by conv => lhs; whnf)) ?_
  refine RL.nil ?_
  refine CW.region ?_
  refine V (run_add e8_2 rfl (by omega)) ?_
  refine V (mV (I _) rfl) ?_
  refine RL.nil ?_
  refine ⟨(k + 1, m ++ [⟨l.getD k.toNat tx0, 10 + k⟩], v8), ?_, fr2.u4.u4.u4.u4, (Hp.conv (hH10.sub (sQ sR)) (by first | rfl | simp)), rfl, (congrArg I (by first | rfl | omega)), ?_, ?_, ?_, ?_⟩
  ·((try dsimp only); omega)
  ·omega
  ·omega
  ·rw [words_next h0, ← hm]
  ·simp only [List.length_append, List.length_singleton]; omega
 ·refine CW.exit (id := 0) rfl ?_
  refine SR ?_
  refine V (run_move e3_2) ?_
  refine V (run_assign (by conv => lhs; whnf)) ?_
  refine RL.nil ?_
  refine CW.ret ?_
  exact outR Tryd.results25 rfl hH2 (i := 0) rfl (by rw [hm, show k = l.length by omega]) (by rw [hm, show k = l.length by omega])

theorem s_many (n : NodeR) (w : World) (hn : NodeV (Kw w) n) (ih : ∀ x ∈ n.kids, ∀ w, NodeV (Kw w) x → Calls Tryd.prog 54 #[.agg (nodeL x).toArray] w (Ret fun u w' => (∃ k : Int, u = I k) ∧ Below w.heap.size w w')) : Calls Tryd.prog 54 #[.agg (nodeL n).toArray] w (Ret fun u w' => (∃ k : Int, u = I k) ∧ Below w.heap.size w w') := by
 have hm1 := hn.kids_.small
 unfold maxLen at hm1
 refine enter Tryd.func54 rfl Tryd.ntmps54 rfl ?_
 have hH := Hp.start w
 refine SR ?_
 refine RL.new rfl hH (f := fun b => (.pointer (some ⟨b, 0, none⟩))) (run_box (v := .agg _) rfl) ?_
 intro b3 w1 hH2
 refine V (aV (I 0) rfl) ?_
 refine RL.nil ?_
 refine SR ?_
 refine V (fA underlying43 3 rfl sizeOf39 rfl) ?_
 refine V (run_ldV (hn.names_.sl.hp hH2) underlying39 rfl rfl (hH2.cell (i := 0) rfl rfl)) ?_
 refine V (run_lenSl (hn.names_.sl.hp hH2) rfl underlying39 rfl) ?_
 refine V (run_addW rfl rfl) ?_
 refine V (aV (I _) rfl) ?_
 refine RL.nil ?_
 refine CW.seq ?_
 refine SR ?_
 refine V (aV (I 0) rfl) ?_
 refine RL.nil ?_
 refine CW.block ?_
 refine CW.loop (G := (Int) × (Int)) (fun (⟨k, m⟩ : (Int) × (Int)) s' w' => (Fr [3, 4, 9, 10, 11, 12, 13, 14, 15, 16, 17, 18, 19, 20, 21, 22, 23] _ s') ∧ (Hp w w' _) ∧ (s' 3 = I m) ∧ (s' 4 = I k) ∧ (0 ≤ k) ∧ (k ≤ n.kids.length)) (fun (⟨k, m⟩ : (Int) × (Int)) => (n.kids.length - k).toNat) ((0, _)) ⟨Fr.refl _ _, hH2, rfl, rfl, (by omega), (by omega)⟩ ?_
 rintro ⟨k, m⟩ sg4 w4 ⟨fr4, hH4, e3_4, e4_4, h0, hk⟩
 have e1_4 : sg4 1 = Pn _ _ := (fr4 1 rfl).trans rfl
 have e2_4 : sg4 2 = I _ := (fr4 2 rfl).trans rfl
 refine CW.seq ?_
 refine SR ?_
 refine V (run_move e4_4) ?_
 refine V (fA underlying43 4 rfl sizeOf41 e1_4) ?_
 refine V (run_ldV (hn.kids_.sl.hp hH4) underlying41 rfl rfl (hH4.cell (i := 0) rfl rfl)) ?_
 refine V (run_lenSl (hn.kids_.sl.hp hH4) rfl underlying41 rfl) ?_
 refine V (run_lss rfl rfl) ?_
 refine RL.nil ?_
 refine CW.condP rfl (fun h6 => ?_) (fun h6 => ?_)
 ·refine CW.skip ?_
  refine CW.seq ?_
  refine CW.block ?_
  refine CW.region ?_
  refine V (run_move e3_4) ?_
  refine V (fA underlying43 4 rfl sizeOf41 e1_4) ?_
  refine V (run_ldV (hn.kids_.sl.hp hH4) underlying41 rfl rfl (hH4.cell (i := 0) rfl rfl)) ?_
  refine V (run_move e4_4) ?_
  refine V (run_indexAddrS (hn.kids_.sl.hp hH4) underlying41 sizeOf43 rfl rfl (by omega)) ?_
  refine V (run_ldE (dv := node0) nodeL_len (hn.kids_.sl.hp hH4) underlying43 rfl rfl rfl (by omega)) ?_
  refine RL.callT rfl (ih _ (List.mem_of_getElem? (getD_at (d := node0) h0 ‹k < _›)) _ ((hn.mono hH4.kw).at h0 ‹_›)) (run_call1 call54 rfl) ?_
  rintro _ w9 ⟨⟨k12, rfl⟩, hb10⟩
  have hH11 := hH4.call hb10
  refine V (run_addW rfl rfl) ?_
  refine V (aV (I _) rfl) ?_
  refine RL.nil ?_
  refine CW.region ?_
  refine V (run_move e4_4) ?_
  refine V (run_add rfl rfl (by omega)) ?_
  refine V (aV (I _) rfl) ?_
  refine RL.nil ?_
  refine ⟨(k + 1, _), ?_, fr4.u4.u4.u4.u4.u1, hH11, (congrArg I (by first | rfl | omega)), (congrArg I (by first | rfl | omega)), ?_, ?_⟩
  ·((try dsimp only); omega)
  ·omega
  ·omega
 ·refine CW.exit (id := 0) rfl ?_
  refine SR ?_
  refine V (run_move e3_4) ?_
  refine V (aV (I _) rfl) ?_
  refine RL.nil ?_
  refine CW.ret ?_
  exact out1 Tryd.results54 rfl ⟨⟨_, rfl⟩, hH4.below⟩
theorem c_clearanceref10_Many (n : NodeR) : ∀ (w : World) (hn : NodeV (Kw w) n), Calls Tryd.prog 54 #[.agg (nodeL n).toArray] w (Ret fun u w' => (∃ k : Int, u = I k) ∧ Below w.heap.size w w') := node_ind (C := fun n => ∀ (w : World) (hn : NodeV (Kw w) n), Calls Tryd.prog 54 #[.agg (nodeL n).toArray] w (Ret fun u w' => (∃ k : Int, u = I k) ∧ Below w.heap.size w w')) (fun n ih w hn => s_many n w hn ih) n

theorem c_clearancelaw10_Big (v : Value) (l : List NodeR) (w : World) (hs : Sl w v 5 l.length (l.flatMap nodeL)) (hv : NodesV (Kw w) l) : Calls Tryd.prog 26 #[v] w (Ret fun u w' => (∃ b : Bool, u = B b) ∧ Below w.heap.size w w') := by
 have hm := hs.small
 unfold maxLen at hm
 refine enter Tryd.func26 rfl Tryd.ntmps26 rfl ?_
 have hH := Hp.start w
 refine SR ?_
 refine V (aV (B false) rfl) ?_
 refine RL.nil ?_
 refine CW.seq ?_
 refine SR ?_
 refine V (run_move (by conv => lhs; whnf)) ?_
 refine V (run_lenSl (hs.hp hH) rfl underlying41 rfl) ?_
 refine V (mV (I 0) rfl) ?_
 refine RL.nil ?_
 refine CW.block ?_
 refine CW.loop (G := (Int)) (fun (k : Int) s' w' => (Fr [2, 4, 7, 8, 9, 10, 11, 12, 13, 14] _ s') ∧ (Hp w w' _) ∧ (s' 7 = I k) ∧ (0 ≤ k) ∧ (k ≤ l.length)) (fun (k : Int) => (l.length - k).toNat) (0) ⟨Fr.refl _ _, hH, rfl, (by omega), (by omega)⟩ ?_
 rintro k sg1 w1 ⟨fr1, hH1, e7_1, h0, hk⟩
 have e5_1 := (fr1 5 rfl).trans (by conv => lhs; whnf)
 have e6_1 : sg1 6 = I _ := (fr1 6 rfl).trans rfl
 refine SR ?_
 refine V (run_lss e7_1 e6_1) ?_
 refine RL.nil ?_
 refine CW.seq ?_
 refine CW.condP rfl (fun h3 => ?_) (fun h3 => ?_)
 ·refine CW.skip ?_
  refine CW.seq ?_
  refine CW.block ?_
  refine SR ?_
  refine V (run_indexAddrS (hs.hp hH1) underlying41 sizeOf43 e5_1 e7_1 (by omega)) ?_
  refine V (run_ldE (dv := node0) nodeL_len (hs.hp hH1) underlying43 rfl rfl rfl (by omega)) ?_
  refine RL.new rfl hH1 (f := fun b => (.pointer (some ⟨b, 0, none⟩))) (run_alloc Tryd.zeroValue43) ?_
  intro b6 w4 hH5
  refine RL.set hH5 (i := 0) rfl (run_stW (c' := (nodeL _).toArray) rfl rfl rfl (nodeL_one (hv.at (by omega) (by omega))) (hH5.blk (i := 0) rfl) rfl) ?_
  intro w7 hH8
  simp only [z0, z1] at hH8
  refine RL.nil ?_
  refine SR ?_
  refine V (run_ldA (cs := nodeL _) underlying43 rfl rfl rfl (rangeAt_cells (hH8.blk (i := 0) rfl))) ?_
  refine RL.callT rfl (c_clearanceref10_Many _ _ ((hv.mono hH8.kw).at h0 ‹_›)) (run_call1 call54 rfl) ?_
  rintro _ w11 ⟨⟨k14, rfl⟩, hb12⟩
  have hH13 := hH8.call hb12
  refine V (run_gtr rfl rfl) ?_
  refine RL.nil ?_
  refine CW.condP rfl (fun h16 => ?_) (fun h16 => ?_)
  ·refine SR ?_
   refine V (aV (B true) rfl) ?_
   refine RL.nil ?_
   refine CW.ret ?_
   exact out1 Tryd.results26 rfl ⟨⟨_, rfl⟩, hH13.below⟩
  ·refine CW.skip ?_
   refine CW.region ?_
   refine V (run_add e7_1 rfl (by omega)) ?_
   refine V (mV (I _) rfl) ?_
   refine RL.nil ?_
   refine ⟨k + 1, ?_, fr1.u4.u4.u1, (hH13.sub (sQ sR)), (congrArg I (by first | rfl | omega)), ?_, ?_⟩
   ·((try dsimp only); omega)
   ·omega
   ·omega
 ·refine CW.exit (id := 0) rfl ?_
  refine SR ?_
  refine V (aV (B false) rfl) ?_
  refine RL.nil ?_
  refine CW.ret ?_
  exact out1 Tryd.results26 rfl ⟨⟨_, rfl⟩, hH1.below⟩

theorem c_clearancelaw12_Big (c : CmdR) (w : World) (hc : CmdV (Kw w) c) : Calls Tryd.prog 14 #[.agg (cmdL c).toArray] w (Ret fun u w' => (∃ b : Bool, u = B b ∧ (b = false → c.names.length ≤ 100 ∧ c.pairs.length ≤ 100)) ∧ Below w.heap.size w w') := by
 have hm1 := hc.names.sl.small
 have hm2 := hc.pairs.sl.small
 unfold maxLen at hm1 hm2
 refine enter Tryd.func14 rfl Tryd.ntmps14 rfl ?_
 have hH := Hp.start w
 refine SR ?_
 refine RL.new rfl hH (f := fun b => (.pointer (some ⟨b, 0, none⟩))) (run_box (v := .agg _) rfl) ?_
 intro b3 w1 hH2
 refine V (aV (B false) rfl) ?_
 refine RL.nil ?_
 refine CW.seq ?_
 refine SR ?_
 refine V (fA underlying45 4 rfl sizeOf39 rfl) ?_
 refine V (run_ldV (hc.names.sl.hp hH2) underlying39 rfl rfl (hH2.cell (i := 0) rfl rfl)) ?_
 refine V (run_lenSl (hc.names.sl.hp hH2) rfl underlying39 rfl) ?_
 refine V (run_gtr rfl rfl) ?_
 refine V (mV (B _) rfl) ?_
 refine RL.splitP (dj := 7) rfl (fun h5 => ?_) (fun h5 => ?_)
 ·refine RL.gF rfl rfl (bT h5) rfl ?_
  refine RL.gF rfl rfl (bT h5) rfl ?_
  refine RL.gF rfl rfl (bT h5) rfl ?_
  refine RL.gF rfl rfl (bT h5) rfl ?_
  refine V (run_pickT (bT h5) (v := B true) rfl) ?_
  refine V (mV (B _) rfl) ?_
  refine RL.gF rfl rfl rfl rfl ?_
  refine RL.gF rfl rfl rfl rfl ?_
  refine RL.gF rfl rfl rfl rfl ?_
  refine RL.gF rfl rfl rfl rfl ?_
  refine RL.gF rfl rfl rfl rfl ?_
  refine V (run_pickT rfl (v := B true) rfl) ?_
  refine RL.nil ?_
  refine CW.condT rfl ?_
  refine SR ?_
  refine V (aV (B true) rfl) ?_
  refine RL.nil ?_
  refine CW.ret ?_
  exact out1 Tryd.results14 rfl ⟨⟨_, rfl, fun h => by first | (exfalso; cases h; done) | omega⟩, hH2.below⟩
 ·refine RL.gT rfl (bF h5) ?_
  refine V (fA underlying45 5 rfl sizeOf40 rfl) ?_
  refine RL.gT rfl (bF h5) ?_
  refine V (run_ldV (hc.pairs.sl.hp hH2) underlying40 rfl rfl (hH2.cell (i := 0) rfl rfl)) ?_
  refine RL.gT rfl (bF h5) ?_
  refine V (run_lenSl (hc.pairs.sl.hp hH2) rfl underlying40 rfl) ?_
  refine RL.gT rfl (bF h5) ?_
  refine V (run_gtr rfl rfl) ?_
  refine V (run_pickF (bF h5) (v := B _) rfl) ?_
  refine V (mV (B _) rfl) ?_
  refine RL.splitP (dj := 13) rfl (fun h7 => ?_) (fun h7 => ?_)
  ·refine RL.gF rfl rfl (bT h7) rfl ?_
   refine RL.gF rfl rfl (bT h7) rfl ?_
   refine RL.gF rfl rfl (bT h7) rfl ?_
   refine RL.gF rfl rfl (bT h7) rfl ?_
   refine RL.gF rfl rfl (bT h7) rfl ?_
   refine V (run_pickT (bT h7) (v := B true) rfl) ?_
   refine RL.nil ?_
   refine CW.condT rfl ?_
   refine SR ?_
   refine V (aV (B true) rfl) ?_
   refine RL.nil ?_
   refine CW.ret ?_
   exact out1 Tryd.results14 rfl ⟨⟨_, rfl, fun h => by first | (exfalso; cases h; done) | omega⟩, hH2.below⟩
  ·refine RL.gT rfl (bF h7) ?_
   refine V (fA underlying45 2 rfl sizeOf38 rfl) ?_
   refine RL.gT rfl (bF h7) ?_
   refine V (fA underlying38 0 rfl sizeOf9 rfl) ?_
   refine RL.gT rfl (bF h7) ?_
   refine V (run_ld underlying9 rfl rfl (hH2.cell (i := 0) rfl (v := .string _) rfl)) ?_
   refine RL.gT rfl (bF h7) ?_
   refine V (run_lenStr rfl underlying9 rfl) ?_
   refine RL.gT rfl (bF h7) ?_
   refine V (run_gtr rfl rfl) ?_
   refine V (run_pickF (bF h7) (v := B _) rfl) ?_
   refine RL.nil ?_
   refine CW.condP rfl (fun h9 => ?_) (fun h9 => ?_)
   ·refine SR ?_
    refine V (aV (B true) rfl) ?_
    refine RL.nil ?_
    refine CW.ret ?_
    exact out1 Tryd.results14 rfl ⟨⟨_, rfl, fun h => by first | (exfalso; cases h; done) | omega⟩, hH2.below⟩
   ·refine CW.skip ?_
    refine SR ?_
    refine V (fA underlying45 7 rfl sizeOf43 rfl) ?_
    refine V (run_ldSub (sub := nodeL _) underlying43 rfl rfl rfl (hH2.blk (i := 0) rfl) rfl) ?_
    refine V (fA underlying45 12 rfl sizeOf43 rfl) ?_
    refine V (run_ldSub (sub := nodeL _) underlying43 rfl rfl rfl (hH2.blk (i := 0) rfl) rfl) ?_
    refine RL.new rfl hH2 (f := fun b => (.slice (some ⟨b, 0, none⟩) 2 2)) (run_mkRecs nodeL_len underlying41 rfl rfl rfl (l := [c.left, c.right]) rfl (by decide) (by decide) rfl) ?_
    intro b12 w10 hH11
    refine RL.callT rfl (c_clearancelaw10_Big _ [c.left, c.right] _ (Hp.slFlat nodeL_len hH11 (i := 0) (l := [c.left, c.right]) rfl (by simp [maxLen])) ⟨fun x hx => by simp at hx; rcases hx with rfl | rfl <;> first | exact NodeV.mono hH11.kw hc.left | exact NodeV.mono hH11.kw hc.right⟩) (run_call1 call26 rfl) ?_
    rintro _ w15 ⟨⟨b18, rfl⟩, hb16⟩
    have hH17 := hH11.call hb16
    refine V (aV (B _) rfl) ?_
    refine RL.nil ?_
    refine CW.ret ?_
    exact out1 Tryd.results14 rfl ⟨⟨_, rfl, fun h => by first | (exfalso; cases h; done) | omega⟩, hH17.below⟩

theorem c_clearancelaw13_alive  (w : World) (hT : Tab w) : Calls Tryd.prog 8 #[] w (Pure (B true) w) := by
 refine enter Tryd.func8 rfl Tryd.ntmps8 rfl ?_
 have hH := Hp.start w
 refine SR ?_
 refine V (aV (B false) rfl) ?_
 refine RL.nil ?_
 refine SR ?_
 refine V (run_bld (vs := []) rfl built_scp0) ?_
 refine V (run_bld (vs := [(0, .string ⟨#[107]⟩)]) rfl (built_wdLs _)) ?_
 refine RL.new rfl hH (f := fun b => (.slice (some ⟨b, 0, none⟩) 2 2)) (run_mkL underlying75 rfl rfl (sz := 1) (vs := [.string ⟨#[97]⟩, .string ⟨#[98]⟩]) rfl rfl (by decide) (by decide) rfl rfl) ?_
 intro b3 w1 hH2
 (try simp only [List.flatMap_cons, List.flatMap_nil, clI, clB, clS, clP, clL, clA, List.append_nil, List.cons_append, List.nil_append] at hH2)
 refine RL.callR rfl hH2 (c_clearancelaw13_words _ [exA, exB] (by decide) _ (hH2.slBlk (i := 0) (n := 2) (sz := 1) rfl rfl (by decide))) (run_call1 call25 rfl) ?_
 intro v6 w4 hH5
 obtain ⟨Z7, hz8, hv9, -⟩ := hH5.frz ((Kw w))
 have hH10 : Hp _ w4 (_ :: Z7) := hz8.zin0 (L := [_])
 have hc11 : CmdV (Kz (Kw w) Z7) (mkC 1 ⟨exK, 0⟩ v6 (wordsTo [exA, exB] 2)) := mkC_v hv9
 refine V (run_bld (vs := [(0, I 1), (2, .agg (wdL ⟨exK, 0⟩).toArray), (3, v6)]) rfl (built_cmdN (one_slice hv9).2 1 ⟨exK, 0⟩ (wordsTo [exA, exB] 2))) ?_
 refine RL.callF rfl hH10 (c_scope_Add (Kz (Kw w) Z7) scp0 (mkC 1 ⟨exK, 0⟩ v6 (wordsTo [exA, exB] 2)) (al_sm0 _) _ (hH10.kz (Le.refl _) (fun x hx => (mT hx))) (scp0_v _) (hc11.mono (Le.zz (fun x hx => hx))) (hT.hp hH10)) (run_call2 call19 rfl rfl) ?_
 intro v14 w15 Z17 hH16 hp18
 have hH19 : Hp _ w15 (_ :: (Z17 ++ Z7)) := hH16.zin (L := [_]) (L' := Z7)
 obtain ⟨q20, rfl, qsc21, qv22⟩ := hp18
 refine RL.new rfl hH19 (f := fun b => (.pointer (some ⟨b, 0, none⟩))) (run_alloc Tryd.zeroValue25) ?_
 intro b25 w23 hH24
 have hq26 := qv22.mono Le.kk
 refine RL.set hH24 (i := 0) rfl (run_stW (c' := (scpL q20).toArray) rfl rfl rfl (scpL_one hq26) (hH24.blk (i := 0) rfl) rfl) ?_
 intro w27 hH28
 simp only [z0, z1] at hH28
 refine RL.nil ?_
 refine SR ?_
 refine V (run_bld (vs := [(0, .string ⟨#[107]⟩)]) rfl (built_wdLs _)) ?_
 refine RL.new rfl hH28 (f := fun b => (.slice (some ⟨b, 0, none⟩) 1 1)) (run_mkL underlying75 rfl rfl (sz := 1) (vs := [.string ⟨#[120]⟩]) rfl rfl (by decide) (by decide) rfl rfl) ?_
 intro b31 w29 hH30
 (try simp only [List.flatMap_cons, List.flatMap_nil, clI, clB, clS, clP, clL, clA, List.append_nil, List.cons_append, List.nil_append] at hH30)
 refine RL.callR rfl hH30 (c_clearancelaw13_words _ [exX] (by decide) _ (hH30.slBlk (i := 0) (n := 1) (sz := 1) rfl rfl (by decide))) (run_call1 call25 rfl) ?_
 intro v34 w32 hH33
 obtain ⟨Z35, hz36, hv37, -⟩ := hH33.frz ((Kw w))
 have hH38 : Hp _ w32 (_ :: _ :: _ :: (Z35 ++ (Z17 ++ Z7))) := hz36.zin (L := [_, _, _]) (L' := (Z17 ++ Z7))
 have hc39 : CmdV (Kz (Kw w) Z35) (mkC 6 ⟨exK, 0⟩ v34 (wordsTo [exX] 1)) := mkC_v hv37
 refine V (run_bld (vs := [(0, I 6), (2, .agg (wdL ⟨exK, 0⟩).toArray), (3, v34)]) rfl (built_cmdN (one_slice hv37).2 6 ⟨exK, 0⟩ (wordsTo [exX] 1))) ?_
 refine RL.new rfl hH38 (f := fun b => (.pointer (some ⟨b, 0, none⟩))) (run_alloc Tryd.zeroValue45) ?_
 intro b42 w40 hH41
 refine RL.set hH41 (i := 0) rfl (run_stW (c' := (cmdL (mkC 6 ⟨exK, 0⟩ v34 (wordsTo [exX] 1))).toArray) rfl rfl rfl (cmdL_one hc39) (hH41.blk (i := 0) rfl) rfl) ?_
 intro w43 hH44
 simp only [z0, z1] at hH44
 refine RL.nil ?_
 refine SR ?_
 refine V (run_ldA (cs := scpL _) underlying25 rfl rfl rfl (rangeAt_cells (hH44.blk (i := 2) rfl))) ?_
 refine V (run_ldA (cs := cmdL _) underlying45 rfl rfl rfl (rangeAt_cells (hH44.blk (i := 0) rfl))) ?_
 refine RL.callF rfl hH44 (c_scope_Add (Kz (Kw w) (Z35 ++ (Z17 ++ Z7))) q20 (mkC 6 ⟨exK, 0⟩ v34 (wordsTo [exX] 1)) (al_sm (qsc21.trans (al_1 _)) (by decide) _) _ (hH44.kz (Le.refl _) (fun x hx => (mT (mT (mT (mT hx)))))) (hq26.mono (Le.zz (fun x hx => (List.mem_append_right _ hx)))) (hc39.mono (Le.zz (fun x hx => (List.mem_append_left _ hx)))) (hT.hp hH44)) (run_call2 call19 rfl rfl) ?_
 intro v47 w48 Z50 hH49 hp51
 have hH52 : Hp _ w48 (_ :: _ :: _ :: _ :: (Z50 ++ (Z35 ++ (Z17 ++ Z7)))) := hH49.zin (L := [_, _, _, _]) (L' := (Z35 ++ (Z17 ++ Z7)))
 obtain ⟨q53, rfl, qsc54, qv55⟩ := hp51
 refine RL.new rfl hH52 (f := fun b => (.pointer (some ⟨b, 0, none⟩))) (run_alloc Tryd.zeroValue25) ?_
 intro b58 w56 hH57
 have hq59 := qv55.mono Le.kk
 obtain ⟨hl1, hl2, hl3, hl4, hl5⟩ := al_3 (qsc54.trans (al_2 (qsc21.trans (al_1 _)) _)) v34
 refine RL.set hH57 (i := 0) rfl (run_stW (c' := (scpL q53).toArray) rfl rfl rfl (scpL_one hq59) (hH57.blk (i := 0) rfl) rfl) ?_
 intro w60 hH61
 simp only [z0, z1] at hH61
 refine RL.nil ?_
 refine SR ?_
 refine V (run_ldA (cs := scpL _) underlying25 rfl rfl rfl (rangeAt_cells (hH61.blk (i := 0) rfl))) ?_
 refine RL.callP rfl hH61 (c_scope_Find q53 exX _ ((hq59.mono (Le.zz (fun x hx => hx))).mono (hH61.kz (Le.refl _) (fun x hx => (mT (mT (mT (mT (mT hx))))))))) (run_call2 call9 rfl (show _ = Value.string ⟨#[120]⟩ from rfl)) ?_
 intro w62 hH63
 refine V (run_move (by conv => lhs; whnf)) ?_
 refine V (run_extract rfl (v := I _) rfl) ?_
 refine V (run_extract rfl (v := I _) rfl) ?_
 refine V (aV (I _) rfl) ?_
 refine V (aV (I _) rfl) ?_
 refine RL.nil ?_
 refine SR ?_
 refine V (fA underlying25 0 rfl sizeOf22 rfl) ?_
 refine V (run_ldV (hq59.lats.mono (hH63.kz (Le.refl _) (fun x hx => (mT (mT (mT (mT (mT hx)))))))).sl underlying22 rfl rfl (hH63.cell (i := 0) rfl rfl)) ?_
 refine V (run_lenSl (hq59.lats.mono (hH63.kz (Le.refl _) (fun x hx => (mT (mT (mT (mT (mT hx)))))))).sl rfl underlying22 rfl) ?_
 refine V (run_eql rfl rfl) ?_
 refine V (mV (B _) rfl) ?_
 refine RL.gT rfl (bT ((by omega))) ?_
 refine V (mV (I _) rfl) ?_
 refine RL.gT rfl (bT ((by omega))) ?_
 refine V (run_eql rfl rfl) ?_
 refine V (run_pickT (bT ((by omega))) (v := B _) rfl) ?_
 refine V (mV (B _) rfl) ?_
 refine RL.gT rfl (bT ((by rw [hl2]))) ?_
 refine V (mV (I _) rfl) ?_
 refine RL.gT rfl (bT ((by rw [hl2]))) ?_
 refine V (run_eql rfl rfl) ?_
 refine V (run_pickT (bT ((by rw [hl2]))) (v := B _) rfl) ?_
 refine V (mV (B _) rfl) ?_
 refine RL.gT rfl (bT ((by rw [hl3]))) ?_
 refine V (run_ldA (cs := scpL _) underlying25 rfl rfl rfl (rangeAt_cells (hH63.blk (i := 0) rfl))) ?_
 refine RL.gT rfl (bT ((by rw [hl3]))) ?_
 refine V (run_ldA (cs := cmdL _) underlying45 rfl rfl rfl (rangeAt_cells (hH63.blk (i := 1) rfl))) ?_
 refine RL.gT rfl (bT ((by rw [hl3]))) ?_
 refine RL.callP rfl hH63 (c_scope_Fault q53 (mkC 6 ⟨exK, 0⟩ v34 (wordsTo [exX] 1)) (al_sm (qsc54.trans (al_2 (qsc21.trans (al_1 _)) _)) (by decide) _) _ ((hq59.mono (Le.zz (fun x hx => hx))).mono (hH63.kz (Le.refl _) (fun x hx => (mT (mT (mT (mT (mT hx)))))))) ((hc39.mono (Le.zz (fun x hx => (List.mem_append_right _ (List.mem_append_left _ hx))))).mono (hH63.kz (Le.refl _) (fun x hx => (mT (mT (mT (mT (mT hx)))))))) (hT.hp hH63)) (run_call2 call15 rfl rfl) ?_
 intro w67 hH68
 refine RL.gT rfl (bT ((by rw [hl3]))) ?_
 refine V (run_bld (vs := [(0, I 3), (1, I 10)]) rfl (built_fltL _ _)) ?_
 refine RL.gT rfl (bT ((by rw [hl3]))) ?_
 refine V (run_eqlT (eq_flt _ _) rfl rfl) ?_
 refine V (run_pickT (bT ((by rw [hl3]))) (v := B _) rfl) ?_
 refine V (mV (B _) rfl) ?_
 refine RL.gT rfl (bT (hl4)) ?_
 refine V (run_ldA (cs := scpL _) underlying25 rfl rfl rfl (rangeAt_cells (hH68.blk (i := 0) rfl))) ?_
 refine RL.gT rfl (bT (hl4)) ?_
 refine RL.callP rfl hH68 (c_scope_Right q53 _ ((hq59.mono (Le.zz (fun x hx => hx))).mono (hH68.kz (Le.refl _) (fun x hx => (mT (mT (mT (mT (mT hx)))))))) (hT.hp hH68)) (run_call1 call17 rfl) ?_
 intro w70 hH71
 refine V (run_pickT (bT (hl4)) (v := B _) rfl) ?_
 refine V (aV (B _) rfl) ?_
 refine RL.nil ?_
 refine CW.ret ?_
 refine outP1 Tryd.results8 (congrArg B ?_) hH71.below
 first | rfl | exact hl5

theorem c_clearancelaw13_ScopeFaults (s : Scp) (c : CmdR) (w : World) (hs : ScpV (Kw w) s) (hc : CmdV (Kw w) c) (hT : Tab w) : Calls Tryd.prog 4 #[.agg (scpC s), .agg (cmdL c).toArray] w (Pure (B true) w) := by
 refine enter Tryd.func4 rfl Tryd.ntmps4 rfl ?_
 have hH := Hp.start w
 refine SR ?_
 refine RL.new rfl hH (f := fun b => (.pointer (some ⟨b, 0, none⟩))) (run_box (v := .agg _) rfl) ?_
 intro b3 w1 hH2
 refine RL.new rfl hH2 (f := fun b => (.pointer (some ⟨b, 0, none⟩))) (run_box (v := .agg _) rfl) ?_
 intro b6 w4 hH5
 refine V (aV (B false) rfl) ?_
 refine RL.nil ?_
 refine CW.seq ?_
 refine SR ?_
 refine V (run_ldA (cs := scpL _) underlying25 rfl rfl rfl (rangeAt_cells (hH5.blk (i := 1) rfl))) ?_
 refine RL.callP rfl hH5 (c_clearancelaw13_Big _  _ (hs.mono hH5.kw)) (run_call1 call7 rfl) ?_
 intro w7 hH8
 refine V (mV (B _) rfl) ?_
 refine RL.split (dj := 7) rfl (fun h10 => ?_) (fun h10 => ?_)
 ·refine RL.gF rfl rfl (bR (c := true) h10) rfl ?_
  refine RL.gF rfl rfl (bR (c := true) h10) rfl ?_
  refine V (run_pickT (bR (c := true) h10) (v := B true) rfl) ?_
  refine RL.nil ?_
  refine CW.condT rfl ?_
  refine SR ?_
  refine RL.callP rfl hH8 (c_clearancelaw13_alive   _ (hT.hp hH8)) (run_call0 call8) ?_
  intro w11 hH12
  refine V (aV (B _) rfl) ?_
  refine RL.nil ?_
  refine CW.ret ?_
  refine outP1 Tryd.results4 (congrArg B ?_) hH12.below
  rfl
 ·refine RL.gT rfl (bR (c := false) h10) ?_
  refine V (run_ldA (cs := cmdL _) underlying45 rfl rfl rfl (rangeAt_cells (hH8.blk (i := 0) rfl))) ?_
  refine RL.gT rfl (bR (c := false) h10) ?_
  refine RL.callT rfl (c_clearancelaw12_Big _  _ (hc.mono hH8.kw)) (run_call1 call14 rfl) ?_
  rintro _ w16 ⟨⟨b19, rfl, hb20⟩, hb17⟩
  have hH18 := hH8.call hb17
  refine V (run_pickF (bR (c := false) h10) (v := B _) rfl) ?_
  refine RL.nil ?_
  refine CW.cond rfl (fun h22 => ?_) (fun h22 => ?_)
  ·refine SR ?_
   refine RL.callP rfl hH18 (c_clearancelaw13_alive   _ (hT.hp hH18)) (run_call0 call8) ?_
   intro w23 hH24
   refine V (aV (B _) rfl) ?_
   refine RL.nil ?_
   refine CW.ret ?_
   refine outP1 Tryd.results4 (congrArg B ?_) hH24.below
   rfl
  ·refine CW.skip ?_
   refine CW.seq ?_
   refine CW.regionD (by kernel_rfl) hH18 ?_
   intro w26 hH27
   refine AT 0 rfl (hH27.sub sR) (fun w hS => run_ldA (cs := scpL _) underlying25 rfl rfl rfl (rangeAt_cells (hS.blk (i := 1) rfl))) ?_
   refine AT 1 rfl (hH27.sub sR) (fun w hS => run_ldA (cs := cmdL _) underlying45 rfl rfl rfl (rangeAt_cells (hS.blk (i := 0) rfl))) ?_
   refine AT 3 rfl (hH27.sub sR) (fun w hS => run_ldA (cs := scpL _) underlying25 rfl rfl rfl (rangeAt_cells (hS.blk (i := 1) rfl))) ?_
   refine AT 4 rfl (hH27.sub sR) (fun w hS => run_ldA (cs := cmdL _) underlying45 rfl rfl rfl (rangeAt_cells (hS.blk (i := 0) rfl))) ?_
   refine A1 2 ?_
   refine AO.callP rfl gnone rfl hH27 sR (c_scope_Fault _ _ (sm_of ‹bigScp s = false› (hb20 ‹_›)) _ (hs.mono hH27.kw) (hc.mono hH27.kw) (hT.hp hH27)) (run_call2 call15 rfl rfl) ?_
   intro w28 hH29
   refine A1 5 ?_
   refine AO.callP rfl gnone rfl hH29 sR (c_clearanceref13_Fault _ _ (sm_of ‹bigScp s = false› (hb20 ‹_›)) _ (hs.mono hH29.kw) (hc.mono hH29.kw)) (run_call2 call16 rfl rfl) ?_
   intro w30 hH31
   refine AT 6 rfl (hH31.sub sR) (fun w hS => run_eqlT (eq_flt _ _) rfl rfl) ?_
   refine AT 7 rfl (hH31.sub sR) (fun w hS => mV (B _) rfl) ?_
   refine A1 8 ?_
   refine AO.callP rfl (gsome rfl (bT (rfl))) rfl hH31 sR (c_clearancelaw13_alive   _ (hT.hp hH31)) (run_call0 call8) ?_
   intro w33 hH34
   refine AT 9 rfl (hH34.sub sR) (fun w hS => run_pickT (bT (rfl)) (v := B _) rfl) ?_
   refine AT 10 rfl (hH34.sub sR) (fun w hS => aV (B _) rfl) ?_
   refine AD ?_
   refine CW.ret ?_
   refine outP1 Tryd.results4 (congrArg B ?_) hH34.below
   rfl

end Go.Proofs.YtiaifdnlkdcbiaaDoor.W
