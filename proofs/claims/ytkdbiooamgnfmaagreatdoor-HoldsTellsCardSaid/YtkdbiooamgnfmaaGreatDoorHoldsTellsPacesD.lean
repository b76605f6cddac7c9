/-
  The walks of the functions that the laws of this seat reach, part 4: each returns what its plain counterpart tells, and turns nothing that was there.
-/
import Derived.Test.YtkdbiooamgnfmaaGreatDoorProg
import Derived.Test.YtkdbiooamgnfmaaGreatDoorEnv
import Derived.Test.YtkdbiooamgnfmaaGreatDoorPlain
import Derived.Test.YtkdbiooamgnfmaaGreatDoorBase
import Derived.Test.YtkdbiooamgnfmaaGreatDoorOrd
import Derived.Test.YtkdbiooamgnfmaaGreatDoorRel
import Derived.Test.YtkdbiooamgnfmaaGreatDoorClo
import Derived.Test.YtkdbiooamgnfmaaGreatDoorCov
import Derived.Test.YtkdbiooamgnfmaaGreatDoorArr
import Derived.Test.YtkdbiooamgnfmaaGreatDoorHas
import Derived.Test.YtkdbiooamgnfmaaGreatDoorGrd
import Derived.Test.YtkdbiooamgnfmaaGreatDoorStr
import Derived.Test.YtkdbiooamgnfmaaGreatDoorVu
import Derived.Test.YtkdbiooamgnfmaaGreatDoorShp
import Derived.Test.YtkdbiooamgnfmaaGreatDoorShl
import Derived.Test.YtkdbiooamgnfmaaGreatDoorShq
import Derived.Test.YtkdbiooamgnfmaaGreatDoorCut
import Derived.Test.YtkdbiooamgnfmaaGreatDoorRec
import Derived.Test.YtkdbiooamgnfmaaGreatDoorScp
import Derived.Test.YtkdbiooamgnfmaaGreatDoorNod
import Derived.Test.YtkdbiooamgnfmaaGreatDoorSpn
import Derived.Test.YtkdbiooamgnfmaaGreatDoorSpy
import Derived.Test.YtkdbiooamgnfmaaGreatDoorMk
import Derived.Test.YtkdbiooamgnfmaaGreatDoorAsn
import Derived.Test.YtkdbiooamgnfmaaGreatDoorAsr
import Derived.Test.YtkdbiooamgnfmaaGreatDoorAst
import Derived.Test.YtkdbiooamgnfmaaGreatDoorAsw
import Derived.Test.YtkdbiooamgnfmaaGreatDoorRgs
import Derived.Test.YtkdbiooamgnfmaaGreatDoorIns
import Derived.Test.YtkdbiooamgnfmaaGreatDoorCod
import Derived.Test.YtkdbiooamgnfmaaGreatDoorFit
import Derived.Test.YtkdbiooamgnfmaaGreatDoorRow
import Derived.Test.YtkdbiooamgnfmaaGreatDoorHol
import Derived.Test.YtkdbiooamgnfmaaGreatDoorGap
import Derived.Test.YtkdbiooamgnfmaaGreatDoorMap
import Derived.Test.YtkdbiooamgnfmaaGreatDoorExn
import Derived.Test.YtkdbiooamgnfmaaGreatDoorMin
import Derived.Test.YtkdbiooamgnfmaaGreatDoorHoldsTellsPacesC
namespace Go.Proofs.YtkdbiooamgnfmaaGreatDoor.W
open Go Go.RowKit Go.Proofs.YtkdbiooamgnfmaaGreatDoor.E Go.Proofs.YtkdbiooamgnfmaaGreatDoor.M
set_option linter.unusedVariables false
set_option linter.unusedSimpArgs false
set_option maxRecDepth 100000
open Tryz
theorem c_scope_Right (s : Scp) (w : World) (hs : ScpV (Kw w) s) (hT : Tab w) : Calls Tryz.prog 32 #[.agg (scpC s)] w (Pure (B (rightS s)) w) := by
 have hm1 := hs.lats.sl.small
 have hm2 := hs.vars.sl.small
 unfold maxLen at hm1 hm2
 refine enter Tryz.func32 rfl Tryz.ntmps32 rfl <| have hH := Hp.start w; SR <| RL.new rfl hH (f := fun b => (.pointer (some ⟨b, 0, none⟩))) (run_box (v := .agg _) rfl) <| fun b3 w1 hH2 => va (v := B false) rfl <| RL.nil <| CW.seq <| SR <| V (fA underlying25 0 rfl sizeOf22 rfl) <| V (run_ldV (hs.lats.sl.hp hH2) underlying22 rfl rfl (hH2.cell (i := 0) rfl rfl)) <| V (run_lenSl (hs.lats.sl.hp hH2) rfl underlying22 rfl) <| V (run_gtr rfl rfl) <| mB rfl <| RL.splitP (dj := 12) rfl (fun h5 => ?_) (fun h5 => ?_)
 ·refine gF rfl (bT h5) <| gF rfl (bT h5) <| gF rfl (bT h5) <| gF rfl (bT h5) <| V (run_pickT (bT h5) (v := B true) rfl) <| RL.nil <| CW.condT rfl <| SR <| va (v := B false) rfl <| RL.nil <| CW.ret <| outP1 Tryz.results32 (congrArg B ?_) hH2.below
  exact (right_no1 (by omega)).symm
 ·refine gT rfl (bF h5) <| V (fA underlying25 1 rfl sizeOf23 rfl) <| gT rfl (bF h5) <| V (run_ldV (hs.vars.sl.hp hH2) underlying23 rfl rfl (hH2.cell (i := 0) rfl rfl)) <| gT rfl (bF h5) <| V (run_lenSl (hs.vars.sl.hp hH2) rfl underlying23 rfl) <| gT rfl (bF h5) <| V (run_gtr rfl rfl) <| V (run_pickF (bF h5) (v := B _) rfl) <| RL.nil <| CW.condP rfl (fun h7 => ?_) (fun h7 => ?_)
  ·refine SR <| va (v := B false) rfl <| RL.nil <| CW.ret <| outP1 Tryz.results32 (congrArg B ?_) hH2.below
   exact (right_no1 (by omega)).symm
  ·refine CW.skip <| SR <| va (v := .slice none 0 0) rfl <| have hH8 := hH2.nilRow 9 1; RL.nil <| CW.seq <| SR <| V (fA underlying25 0 rfl sizeOf22 rfl) <| V (run_ldV (hs.lats.sl.hp hH8) underlying22 rfl rfl (hH8.cell (i := 1) rfl rfl)) <| V (run_lenSl (hs.lats.sl.hp hH8) rfl underlying22 rfl) <| vm (v := I 0) rfl <| RL.nil <| CW.block <| have hsz : s.lats.length ≤ 16 ∧ s.vars.length ≤ 64 := (by omega); CW.loop (G := Int × (List Tx) × Value) (fun ⟨k, m, v3⟩ s' w' => (Fr (2 :: 3 :: (5 :: (rg 21 20 []))) _ s') ∧ (Hp w w' (.row v3 9 1 (m.length) (txL m) :: _)) ∧ (s' 3 = v3) ∧ (s' 21 = I k) ∧ (0 ≤ k) ∧ (k ≤ s.lats.length) ∧ (m = (s.lats.take k.toNat).map LatR.name) ∧ ((m.length : Int) = k) ∧ (∀ j : Int, 0 ≤ j → j < k → latOk (s.lats.getD j.toNat lat0) = true)) (fun ⟨k, m, v3⟩ => (s.lats.length - k).toNat) ((0, [], (.slice none 0 0 : Value))) ⟨Fr.refl _ _, hH8, rfl, rfl, (by omega), (by omega), rfl, rfl, fun j a b => absurd b (by omega)⟩ <| ?_
   rintro ⟨k, m, v3⟩ sg9 w9 ⟨fr9, hH9, e3_9, e21_9, h0, hk, hm, hml, hg⟩
   have e1_9 := fr9.pp 1 rfl rfl
   have e19_9 := (fr9 19 rfl).trans (by conv => lhs; whnf)
   have e20_9 := fr9.ii 20 rfl rfl
   refine SR <| V (run_lss e21_9 e20_9) <| RL.nil <| CW.seq <| CW.condP rfl (fun h11 => ?_) (fun h11 => ?_)
   ·refine CW.skip <| CW.seq <| CW.block <| SR <| V (run_indexAddrS (hs.lats.sl.hp hH9) underlying22 sizeOf67 e19_9 e21_9 (by omega)) <| V (run_ldE (dv := lat0) latL_len (hs.lats.sl.hp hH9) underlying67 rfl rfl rfl (by omega)) <| RL.new rfl hH9 (f := fun b => (.pointer (some ⟨b, 0, none⟩))) (run_alloc zero_lat) <| fun b14 w12 hH13 => RL.set hH13 (i := 0) rfl (run_stW (c' := (latL _).toArray) rfl rfl rfl (latL_one (hs.at (by omega) (by omega))) (hH13.blk (i := 0) rfl) rfl) <| fun w15 hH16 => ?_
    simp only [z2] at hH16
    refine RL.nil <| CW.seq <| SR <| V (fA underlying67 0 rfl sizeOf9 rfl) <| V (run_ld underlying9 rfl rfl (hH16.cell (i := 0) rfl (v := .string _) rfl)) <| RL.callP rfl hH16 (c_name_Right _  _) (run_call1 call54 rfl) <| fun w17 hH18 => V (run_not rfl) <| mB rfl <| RL.split (dj := 29) rfl (fun h21 => ?_) (fun h21 => ?_)
    ·refine gF rfl (bR (c := true) h21) <| gF rfl (bR (c := true) h21) <| gF rfl (bR (c := true) h21) <| gF rfl (bR (c := true) h21) <| V (run_pickT (bR (c := true) h21) (v := B true) rfl) <| RL.nil <| CW.condT rfl <| SR <| va (v := B false) rfl <| RL.nil <| CW.ret <| outP1 Tryz.results32 (congrArg B ?_) hH18.below
     exact (right_no2 h0 ‹k < _› (by rw [latOk, nt ‹(!nameR _) = true›]; rfl)).symm
    ·refine gT rfl (bR (c := false) h21) <| V (fA underlying67 1 rfl sizeOf65 rfl) <| gT rfl (bR (c := false) h21) <| V (run_ldSub (sub := shpL _) underlying65 rfl rfl rfl (hH18.blk (i := 0) rfl) rfl) <| gT rfl (bR (c := false) h21) <| RL.callP rfl hH18 (c_shape_Right _  _ ((hs.at (by omega) (by omega)).mono hH18.kw) (hT.hp hH18)) (run_call1 call55 rfl) <| fun w22 hH23 => gT rfl (bR (c := false) h21) <| V (run_not rfl) <| V (run_pickF (bR (c := false) h21) (v := B _) rfl) <| RL.nil <| CW.cond rfl (fun h26 => ?_) (fun h26 => ?_)
     ·refine SR <| va (v := B false) rfl <| RL.nil <| CW.ret <| outP1 Tryz.results32 (congrArg B ?_) hH23.below
      exact (right_no2 h0 ‹k < _› (by rw [latOk, nt ‹(!shR _) = true›, Bool.and_false])).symm
     ·refine CW.skip <| CW.region <| vm e3_9 <| V (fA underlying67 0 rfl sizeOf9 rfl) <| V (run_ld underlying9 rfl rfl (hH23.cell (i := 0) rfl (v := .string _) rfl)) <| RL.new rfl hH23 (f := fun b => (.slice (some ⟨b, 0, none⟩) 1 1)) (run_mkL underlying57 rfl rfl (sz := 1) (vs := [.string _]) rfl rfl (by decide) (by decide) rfl rfl) <| fun b29 w27 hH28 => ?_
      (try simp only [clX] at hH28)
      refine RL.app rfl hH28 (i := 2) rfl (hH28.slBlk (i := 0) (n := 1) (sz := 1) rfl rfl (by decide)) rfl rfl underlying57 rfl rfl (size := 1) (bytes := 16) rfl rfl rfl (by decide) (by simp [Value.oneCell']) (by omega) (by simp only [maxLen]; omega) <| fun v30 w31 hH32 => ?_
      simp only [z2] at hH32
      refine V (run_assign (by conv => lhs; whnf)) ?_
      refine RL.nil <| CW.region <| V (run_add e21_9 rfl (by omega)) <| mI rfl <| RL.nil <| ?_
      refine ⟨(k + 1, m ++ [(s.lats.getD k.toNat lat0).name], v30), ?_, fr9.u4.u4.u4.u4.u4.u1.u1, (Hp.conv (hH32.sub (sQ (sQ sR))) (by simp)), rfl, (congrArg I (by rfl)), ?_, ?_, ?_, ?_, ?_⟩
      ·((try dsimp only); omega)
      ·omega
      ·omega
      ·rw [lnames_next h0 ‹k < _›, ← hm]
      ·simp only [List.length_append, List.length_singleton]; omega
      ·exact fun j a b => if e : j = k then e ▸ (by rw [latOk, nf ‹(!nameR _) = false›, nf ‹(!shR _) = false›]; rfl) else hg j a (by omega)
   ·refine CW.exit (id := 0) rfl <| CW.seq <| SR <| V (fA underlying25 1 rfl sizeOf23 e1_9) <| V (run_ldV (hs.vars.sl.hp hH9) underlying23 rfl rfl (hH9.cell (i := 1) rfl rfl)) <| V (run_lenSl (hs.vars.sl.hp hH9) rfl underlying23 rfl) <| vm (v := I 0) rfl <| RL.nil <| CW.block <| CW.loop (G := Int × (List Tx) × Value) (fun ⟨j, m2, v3⟩ s' w' => (Fr (2 :: 3 :: (7 :: (rg 44 37 []))) _ s') ∧ (Hp w w' (.row v3 9 1 (m2.length) (txL m2) :: _)) ∧ (s' 3 = v3) ∧ (s' 44 = I j) ∧ (0 ≤ j) ∧ (j ≤ s.vars.length) ∧ (m2 = m ++ (s.vars.take j.toNat).map VarR.name) ∧ ((m2.length : Int) = k + j) ∧ (∀ i : Int, 0 ≤ i → i < j → varOk s.lats.length (s.vars.getD i.toNat var0) = true)) (fun ⟨j, m2, v3⟩ => (s.vars.length - j).toNat) ((0, m, (v3 : Value))) ⟨Fr.refl _ _, hH9, e3_9, rfl, (by omega), (by omega), (List.append_nil m).symm, (by omega), fun j a b => absurd b (by omega)⟩ <| ?_
    rintro ⟨j, m2, v3⟩ sg33 w33 ⟨fr33, hH33, e3_33, e44_33, j0, hj, hm2, hml2, hv⟩
    have e1_33 := (fr33 1 rfl).trans e1_9
    have e42_33 := (fr33 42 rfl).trans (by conv => lhs; whnf)
    have e43_33 := fr33.ii 43 rfl rfl
    refine SR <| V (run_lss e44_33 e43_33) <| RL.nil <| CW.seq <| CW.condP rfl (fun h35 => ?_) (fun h35 => ?_)
    ·refine CW.skip <| CW.seq <| CW.block <| SR <| V (run_indexAddrS (hs.vars.sl.hp hH33) underlying23 sizeOf69 e42_33 e44_33 (by omega)) <| V (run_ldE (dv := var0) varL_len (hs.vars.sl.hp hH33) underlying69 rfl rfl rfl (by omega)) <| RL.new rfl hH33 (f := fun b => (.pointer (some ⟨b, 0, none⟩))) (run_alloc Tryz.zeroValue69) <| fun b38 w36 hH37 => RL.set hH37 (i := 0) rfl (run_stW (c' := (varL _).toArray) rfl rfl rfl (by simp [varL, Value.oneCell']) (hH37.blk (i := 0) rfl) rfl) <| fun w39 hH40 => ?_
     simp only [z2] at hH40
     refine RL.nil <| CW.seq <| SR <| V (fA underlying69 0 rfl sizeOf9 rfl) <| V (run_ld underlying9 rfl rfl (hH40.cell (i := 0) rfl (v := .string _) rfl)) <| RL.callP rfl hH40 (c_name_Right _  _) (run_call1 call54 rfl) <| fun w41 hH42 => V (run_not rfl) <| mB rfl <| RL.split (dj := 52) rfl (fun h45 => ?_) (fun h45 => ?_)
     ·refine gF rfl (bR (c := true) h45) <| gF rfl (bR (c := true) h45) <| gF rfl (bR (c := true) h45) <| gF rfl (bR (c := true) h45) <| RL.gU rfl rfl rfl <| RL.gU rfl rfl rfl <| RL.gU rfl rfl rfl <| gF rfl (bR (c := true) h45) <| V (run_pickT (bR (c := true) h45) (v := B true) rfl) <| mB rfl <| gF rfl rfl <| gF rfl rfl <| gF rfl rfl <| V (run_pickT rfl (v := B true) rfl) <| mB rfl <| gF rfl rfl <| gF rfl rfl <| gF rfl rfl <| gF rfl rfl <| gF rfl rfl <| gF rfl rfl <| V (run_pickT rfl (v := B true) rfl) <| RL.nil <| CW.condT rfl <| SR <| va (v := B false) rfl <| RL.nil <| CW.ret <| outP1 Tryz.results32 (congrArg B ?_) hH42.below
      exact (right_no3 j0 ‹j < _› (by rw [varOk, nt ‹(!nameR _) = true›]; rfl)).symm
     ·refine gT rfl (bR (c := false) h45) <| V (fA underlying69 1 rfl sizeOf3 rfl) <| gT rfl (bR (c := false) h45) <| V (run_ld underlying3 rfl rfl (hH42.cell (i := 0) rfl (v := I _) rfl)) <| gT rfl (bR (c := false) h45) <| V (run_neq rfl rfl) <| gT rfl (bR (c := false) h45) <| mB rfl <| RL.splitP (dj := 56) rfl (fun h47 => ?_) (fun h47 => ?_)
      ·refine gT rfl (bT h47) <| V (fA underlying69 1 rfl sizeOf3 rfl) <| gT rfl (bT h47) <| V (run_ld underlying3 rfl rfl (hH42.cell (i := 0) rfl (v := I _) rfl)) <| gT rfl (bT h47) <| V (run_neq rfl rfl) <| gT rfl (bR (c := false) h45) <| V (run_pickT (bT h47) (v := B _) rfl) <| V (run_pickF (bR (c := false) h45) (v := B _) rfl) <| mB rfl <| RL.splitP (dj := 62) rfl (fun h49 => ?_) (fun h49 => ?_)
       ·refine gF rfl (bT h49) <| gF rfl (bT h49) <| gF rfl (bT h49) <| V (run_pickT (bT h49) (v := B true) rfl) <| mB rfl <| gF rfl rfl <| gF rfl rfl <| gF rfl rfl <| gF rfl rfl <| gF rfl rfl <| gF rfl rfl <| V (run_pickT rfl (v := B true) rfl) <| RL.nil <| CW.condT rfl <| SR <| va (v := B false) rfl <| RL.nil <| CW.ret <| outP1 Tryz.results32 (congrArg B ?_) hH42.below
        exact (right_no3 j0 ‹j < _› (by rw [varOk, decide_eq_false (by omega), Bool.and_false])).symm
       ·refine gT rfl (bF h49) <| V (fA underlying69 2 rfl sizeOf3 rfl) <| gT rfl (bF h49) <| V (run_ld underlying3 rfl rfl (hH42.cell (i := 0) rfl (v := I _) rfl)) <| gT rfl (bF h49) <| V (run_lss rfl rfl) <| V (run_pickF (bF h49) (v := B _) rfl) <| mB rfl <| RL.splitP (dj := 67) rfl (fun h51 => ?_) (fun h51 => ?_)
        ·refine gF rfl (bT h51) <| gF rfl (bT h51) <| gF rfl (bT h51) <| gF rfl (bT h51) <| gF rfl (bT h51) <| gF rfl (bT h51) <| V (run_pickT (bT h51) (v := B true) rfl) <| RL.nil <| CW.condT rfl <| SR <| va (v := B false) rfl <| RL.nil <| CW.ret <| outP1 Tryz.results32 (congrArg B ?_) hH42.below
         exact (right_no3 j0 ‹j < _› (by rw [varOk, decide_eq_false (by omega), Bool.and_false])).symm
        ·refine gT rfl (bF h51) <| V (fA underlying69 2 rfl sizeOf3 rfl) <| gT rfl (bF h51) <| V (run_ld underlying3 rfl rfl (hH42.cell (i := 0) rfl (v := I _) rfl)) <| gT rfl (bF h51) <| V (fA underlying25 0 rfl sizeOf22 e1_33) <| gT rfl (bF h51) <| V (run_ldV (hs.lats.sl.hp hH42) underlying22 rfl rfl (hH42.cell (i := 2) rfl rfl)) <| gT rfl (bF h51) <| V (run_lenSl (hs.lats.sl.hp hH42) rfl underlying22 rfl) <| gT rfl (bF h51) <| V (run_geq rfl rfl) <| V (run_pickF (bF h51) (v := B _) rfl) <| RL.nil <| CW.condP rfl (fun h53 => ?_) (fun h53 => ?_)
         ·refine SR <| va (v := B false) rfl <| RL.nil <| CW.ret <| outP1 Tryz.results32 (congrArg B ?_) hH42.below
          exact (right_no3 j0 ‹j < _› (by rw [varOk, decide_eq_false (by omega), Bool.and_false])).symm
         ·refine CW.skip <| CW.region <| vm e3_33 <| V (fA underlying69 0 rfl sizeOf9 rfl) <| V (run_ld underlying9 rfl rfl (hH42.cell (i := 0) rfl (v := .string _) rfl)) <| RL.new rfl hH42 (f := fun b => (.slice (some ⟨b, 0, none⟩) 1 1)) (run_mkL underlying57 rfl rfl (sz := 1) (vs := [.string _]) rfl rfl (by decide) (by decide) rfl rfl) <| fun b56 w54 hH55 => ?_
          (try simp only [clX] at hH55)
          refine RL.app rfl hH55 (i := 2) rfl (hH55.slBlk (i := 0) (n := 1) (sz := 1) rfl rfl (by decide)) rfl rfl underlying57 rfl rfl (size := 1) (bytes := 16) rfl rfl rfl (by decide) (by simp [Value.oneCell']) (by omega) (by simp only [maxLen]; omega) <| fun v57 w58 hH59 => ?_
          simp only [z2] at hH59
          refine V (run_assign (by conv => lhs; whnf)) ?_
          refine RL.nil <| CW.region <| V (run_add e44_33 rfl (by omega)) <| mI rfl <| RL.nil <| ?_
          refine ⟨(j + 1, m2 ++ [(s.vars.getD j.toNat var0).name], v57), ?_, fr33.u4.u4.u4.u4.u4.u4.u4.u4.u4.u1.u1.u1, (Hp.conv (hH59.sub (sQ (sQ sR))) (by simp)), rfl, (congrArg I (by rfl)), ?_, ?_, ?_, ?_, ?_⟩
          ·((try dsimp only); omega)
          ·omega
          ·omega
          ·rw [vnames_next j0 ‹j < _›, hm2, List.append_assoc]
          ·simp only [List.length_append, List.length_singleton]; omega
          ·exact fun i a b => if e : i = j then e ▸ (by rw [varOk, nf ‹(!nameR _) = false›, Bool.true_and, decide_eq_true_eq]; omega) else hv i a (by omega)
      ·refine gF rfl (bF h47) <| gF rfl (bF h47) <| gF rfl (bF h47) <| gT rfl (bR (c := false) h45) <| V (run_pickF (bF h47) (v := B false) rfl) <| V (run_pickF (bR (c := false) h45) (v := B _) rfl) <| mB rfl <| gT rfl rfl <| V (fA underlying69 2 rfl sizeOf3 rfl) <| gT rfl rfl <| V (run_ld underlying3 rfl rfl (hH42.cell (i := 0) rfl (v := I _) rfl)) <| gT rfl rfl <| V (run_lss rfl rfl) <| V (run_pickF rfl (v := B _) rfl) <| mB rfl <| RL.splitP (dj := 67) rfl (fun h61 => ?_) (fun h61 => ?_)
       ·refine gF rfl (bT h61) <| gF rfl (bT h61) <| gF rfl (bT h61) <| gF rfl (bT h61) <| gF rfl (bT h61) <| gF rfl (bT h61) <| V (run_pickT (bT h61) (v := B true) rfl) <| RL.nil <| CW.condT rfl <| SR <| va (v := B false) rfl <| RL.nil <| CW.ret <| outP1 Tryz.results32 (congrArg B ?_) hH42.below
        exact (right_no3 j0 ‹j < _› (by rw [varOk, decide_eq_false (by omega), Bool.and_false])).symm
       ·refine gT rfl (bF h61) <| V (fA underlying69 2 rfl sizeOf3 rfl) <| gT rfl (bF h61) <| V (run_ld underlying3 rfl rfl (hH42.cell (i := 0) rfl (v := I _) rfl)) <| gT rfl (bF h61) <| V (fA underlying25 0 rfl sizeOf22 e1_33) <| gT rfl (bF h61) <| V (run_ldV (hs.lats.sl.hp hH42) underlying22 rfl rfl (hH42.cell (i := 2) rfl rfl)) <| gT rfl (bF h61) <| V (run_lenSl (hs.lats.sl.hp hH42) rfl underlying22 rfl) <| gT rfl (bF h61) <| V (run_geq rfl rfl) <| V (run_pickF (bF h61) (v := B _) rfl) <| RL.nil <| CW.condP rfl (fun h63 => ?_) (fun h63 => ?_)
        ·refine SR <| va (v := B false) rfl <| RL.nil <| CW.ret <| outP1 Tryz.results32 (congrArg B ?_) hH42.below
         exact (right_no3 j0 ‹j < _› (by rw [varOk, decide_eq_false (by omega), Bool.and_false])).symm
        ·refine CW.skip <| CW.region <| vm e3_33 <| V (fA underlying69 0 rfl sizeOf9 rfl) <| V (run_ld underlying9 rfl rfl (hH42.cell (i := 0) rfl (v := .string _) rfl)) <| RL.new rfl hH42 (f := fun b => (.slice (some ⟨b, 0, none⟩) 1 1)) (run_mkL underlying57 rfl rfl (sz := 1) (vs := [.string _]) rfl rfl (by decide) (by decide) rfl rfl) <| fun b66 w64 hH65 => ?_
         (try simp only [clX] at hH65)
         refine RL.app rfl hH65 (i := 2) rfl (hH65.slBlk (i := 0) (n := 1) (sz := 1) rfl rfl (by decide)) rfl rfl underlying57 rfl rfl (size := 1) (bytes := 16) rfl rfl rfl (by decide) (by simp [Value.oneCell']) (by omega) (by simp only [maxLen]; omega) <| fun v67 w68 hH69 => ?_
         simp only [z2] at hH69
         refine V (run_assign (by conv => lhs; whnf)) ?_
         refine RL.nil <| CW.region <| V (run_add e44_33 rfl (by omega)) <| mI rfl <| RL.nil <| ?_
         refine ⟨(j + 1, m2 ++ [(s.vars.getD j.toNat var0).name], v67), ?_, fr33.u4.u4.u4.u4.u4.u4.u4.u4.u4.u1.u1.u1, (Hp.conv (hH69.sub (sQ (sQ sR))) (by simp)), rfl, (congrArg I (by rfl)), ?_, ?_, ?_, ?_, ?_⟩
         ·((try dsimp only); omega)
         ·omega
         ·omega
         ·rw [vnames_next j0 ‹j < _›, hm2, List.append_assoc]
         ·simp only [List.length_append, List.length_singleton]; omega
         ·exact fun i a b => if e : i = j then e ▸ (by rw [varOk, nf ‹(!nameR _) = false›, Bool.true_and, decide_eq_true_eq]; omega) else hv i a (by omega)
    ·refine CW.exit (id := 2) rfl <| SR <| vm e3_33 <| RL.callP rfl hH33 (c_name_Twice _ _  _ (hH33.sl (i := 0) rfl)) (run_call1 call56 rfl) <| fun w70 hH71 => V (run_lss rfl rfl) <| aB rfl <| RL.nil <| CW.ret <| outP1 Tryz.results32 (congrArg B ?_) hH71.below
     (have hnm : m2 = namesS s := (by rw [hm2, hm, List.take_of_length_le (by omega), List.take_of_length_le (by omega)]; rfl); rw [hnm]; exact (right_yes hsz ‹¬ k < _› hg ‹¬ j < _› hv).symm)
theorem c_code_fold (s : Shp) (op : Int) (v : Value) (l : List El) (hne : 1 ≤ l.length) (w : World) (hs : Sl w v 8 l.length (l.flatMap elL)) (hsh : ShpV (Kw w) s) (hT : Tab w) : Calls Tryz.prog 45 #[.agg (shpC s), I op, v] w (Pure (.agg (elC (foldE (opE s.sh op) l))) w) := by
 have hm := hs.small
 unfold maxLen at hm
 refine enter Tryz.func45 rfl Tryz.ntmps45 rfl <| have hH := Hp.start w; SR <| RL.new rfl hH (f := fun b => (.pointer (some ⟨b, 0, none⟩))) (run_box (v := .agg _) rfl) <| fun b3 w1 hH2 => RL.new rfl hH2 (f := fun b => (.pointer (some ⟨b, 0, none⟩))) (run_alloc zero_el) <| fun b6 w4 hH5 => RL.nil <| SR <| ?_
 refine V (run_move (by conv => lhs; whnf)) ?_
 refine V (run_move (by conv => lhs; whnf)) ?_
 refine V (run_lenSl (hs.hp hH5) rfl underlying29 rfl) <| V (run_sub rfl rfl (by omega)) <| V (run_indexAddrS (hs.hp hH5) underlying29 sizeOf39 rfl rfl (by omega)) <| V (run_ldElS (hs.hp hH5) underlying39 rfl rfl rfl (by omega)) <| RL.new rfl hH5 (f := fun b => (.pointer (some ⟨b, 0, none⟩))) (run_alloc zero_el) <| fun b9 w7 hH8 => RL.set hH8 (i := 0) rfl (run_stEl rfl rfl rfl (hH8.blk (i := 0) rfl)) <| fun w10 hH11 => ?_
 simp only [z2] at hH11
 refine RL.nil <| CW.seq <| SR <| ?_
 refine V (run_move (by conv => lhs; whnf)) ?_
 refine V (run_lenSl (hs.hp hH11) rfl underlying29 rfl) <| V (run_sub rfl rfl (by omega)) <| aI rfl <| RL.nil <| CW.block <| CW.loop (G := Int × El) (fun ⟨k, e1⟩ s' w' => (Fr (8 :: (rg 18 19 [])) _ s') ∧ (Hp w w' (.blk b9 (.cells (elC e1) 39 (0, 0)) :: _)) ∧ (s' 8 = I k) ∧ (-1 ≤ k) ∧ (k ≤ (l.length : Int) - 2) ∧ (e1 = foldE (opE s.sh op) (l.drop (k + 1).toNat))) (fun ⟨k, e1⟩ => (k + 1).toNat) (((l.length : Int) - 2, (l.getD ((l.length : Int) - 1).toNat el0))) ⟨Fr.refl _ _, hH11, rfl, (by omega), (by omega), (by rw [show ((l.length : Int) - 2 + 1).toNat = l.length - 1 by omega, foldE_last (by intro h; rw [h] at hne; simp at hne)]; congr 1; omega)⟩ <| ?_
 rintro ⟨k, e1⟩ sg12 w12 ⟨fr12, hH12, e8_12, h0, hk, he⟩
 have e1_12 := fr12.ii 1 rfl rfl
 have e2_12 := (fr12 2 rfl).trans (by conv => lhs; whnf)
 have e3_12 := fr12.pp 3 rfl rfl
 have e6_12 := fr12.pp 6 rfl rfl
 have e7_12 := fr12.pp 7 rfl rfl
 refine CW.seq <| SR <| vm e8_12 <| V (run_geq rfl rfl) <| RL.nil <| CW.condP rfl (fun h14 => ?_) (fun h14 => ?_)
 ·refine CW.skip <| CW.seq <| CW.block <| CW.seq <| SR <| vm e1_12 <| V (run_eql rfl rfl) <| RL.nil <| CW.condP rfl (fun h16 => ?_) (fun h16 => ?_)
  ·refine CW.seq <| CW.regionS (by kernel_rfl) hH12 (sQ sR) <| fun w17 hH18 => have zh18 := hH18.sub (sQ sR); AT 0 rfl zh18 (fun w hS => run_ldA (cs := [B _, _]) underlying65 rfl rfl e3_12 (rangeAt_cells (hS.blk (i := 1) rfl))) <| AQ 1 rfl zh18 (run_move e2_12) <| AQ 2 rfl zh18 (run_move e8_12) <| AT 3 rfl zh18 (fun w hS => run_indexAddrS (hs.hp hS) underlying29 sizeOf39 rfl rfl (by omega)) <| AT 4 rfl zh18 (fun w hS => run_ldElS (hs.hp hS) underlying39 rfl rfl rfl (by omega)) <| A1 5 <| AO.read rfl gnone rfl hH18 (sQ sR) (run_ldEl underlying39 rfl rfl e7_12 (hH18.blk (i := 0) rfl)) <| A1 6 <| AO.callP rfl gnone rfl hH18 (sQ sR) (c_shape_Join _ _ _  _ (hsh.mono hH18.kw) (hT.hp hH18)) (run_call3 call71 rfl rfl rfl) <| fun w21 hH22 => A1 7 <| AO.set rfl gnone hH22 (j := 0) rfl (sQ sR) (run_stEl rfl e7_12 rfl (hH22.blk (i := 0) rfl)) <| fun w25 hH26 => ?_
   simp only [z2] at hH26
   refine AD <| CW.exit (id := 1) rfl <| CW.region <| vm e8_12 <| V (run_sub rfl rfl (by omega)) <| aI rfl <| RL.nil <| ?_
   refine ⟨(k - 1, _), ?_, fr12.u4.u4.u4.u1.u1, hH26, (congrArg I (by rfl)), ?_, ?_, ?_⟩
   ·((try dsimp only); omega)
   ·omega
   ·omega
   ·(rw [show (k - 1 + 1).toNat = k.toNat by omega, foldE_k (by omega) (by omega), ← he]; exact opE_3 ‹op = 3›)
  ·refine CW.skip <| CW.regionS (by kernel_rfl) hH12 (sQ sR) <| fun w27 hH28 => have zh28 := hH28.sub (sQ sR); AQ 0 rfl zh28 (run_move e2_12) <| AQ 1 rfl zh28 (run_move e8_12) <| AT 2 rfl zh28 (fun w hS => run_indexAddrS (hs.hp hS) underlying29 sizeOf39 rfl rfl (by omega)) <| AT 3 rfl zh28 (fun w hS => run_ldElS (hs.hp hS) underlying39 rfl rfl rfl (by omega)) <| A1 4 <| AO.read rfl gnone rfl hH28 (sQ sR) (run_ldEl underlying39 rfl rfl e7_12 (hH28.blk (i := 0) rfl)) <| A1 5 <| AO.callP rfl gnone rfl hH28 (sQ sR) (c_shape_Meet _ _  _) (run_call2 call72 rfl rfl) <| fun w31 hH32 => A1 6 <| AO.set rfl gnone hH32 (j := 0) rfl (sQ sR) (run_stEl rfl e7_12 rfl (hH32.blk (i := 0) rfl)) <| fun w35 hH36 => ?_
   simp only [z2] at hH36
   refine AD <| CW.region <| vm e8_12 <| V (run_sub rfl rfl (by omega)) <| aI rfl <| RL.nil <| ?_
   refine ⟨(k - 1, _), ?_, fr12.u4.u4.u4.u1, hH36, (congrArg I (by rfl)), ?_, ?_, ?_⟩
   ·((try dsimp only); omega)
   ·omega
   ·omega
   ·(rw [show (k - 1 + 1).toNat = k.toNat by omega, foldE_k (by omega) (by omega), ← he]; exact opE_4 ‹¬ op = 3›)
 ·refine CW.exit (id := 0) rfl <| SR <| V (run_ldEl underlying39 rfl rfl e7_12 (hH12.blk (i := 0) rfl)) <| RL.set hH12 (i := 1) rfl (run_stEl rfl e6_12 rfl (hH12.blk (i := 1) rfl)) <| fun w37 hH38 => ?_
  simp only [z2] at hH38
  refine RL.nil <| CW.ret <| outCg Tryz.results45 e6_12 hH38 (i := 1) rfl underlying39 rfl (by rw [elC_size]; rfl) ⟨?_, hH38.below⟩
  (exact congrArg Value.agg (elC_congr (by rw [he, show (k + 1).toNat = 0 by omega]; exact fun _ _ => rfl)))
set_option maxHeartbeats 1000000 in
theorem c_code_Eval (s : Shp) (v : Value) (l : List InsR) (u : Value) (vs : List El) (hl : l.length ≤ 1000) (w : World) (hs : Sl w v 10 l.length (l.flatMap insL)) (ht : Sl w u 8 vs.length (vs.flatMap elL)) (hsh : ShpV (Kw w) s) (hT : Tab w) : Calls Tryz.prog 22 #[.agg (shpC s), v, u] w (Pure (.tuple #[.agg (elC (evalF s.sh l vs).1), B (evalF s.sh l vs).2]) w) := by
 have hm := hs.small
 unfold maxLen at hm
 have hm2 := ht.small
 unfold maxLen at hm2
 refine enter Tryz.func22 rfl Tryz.ntmps22 rfl <| have hH := Hp.start w; SR <| RL.new rfl hH (f := fun b => (.pointer (some ⟨b, 0, none⟩))) (run_box (v := .agg _) rfl) <| fun b3 w1 hH2 => RL.new rfl hH2 (f := fun b => (.pointer (some ⟨b, 0, none⟩))) (run_alloc zero_el) <| fun b6 w4 hH5 => va (v := B false) rfl <| RL.nil <| CW.seq <| SR <| ?_
 refine V (run_move (by conv => lhs; whnf)) ?_
 refine RL.callP rfl hH5 (c_code_Right _ _  _ (hs.hp hH5)) (run_call1 call44 rfl) <| fun w7 hH8 => V (run_not rfl) <| RL.nil <| CW.cond rfl (fun h11 => ?_) (fun h11 => ?_)
 ·refine SR <| V (run_bld (vs := []) rfl (built_el0)) <| RL.set hH8 (i := 0) rfl (run_stEl rfl rfl rfl (hH8.blk (i := 0) rfl)) <| fun w12 hH13 => ?_
  simp only [z2] at hH13
  refine va (v := B false) rfl <| RL.nil <| CW.ret <| outCT Tryz.results22 rfl rfl hH13 (i := 0) rfl underlying39 rfl (by rw [elC_size]; rfl) ⟨?_, hH13.below⟩
  (rw [ev_no (nt ‹(!rightC l) = true›)]; rfl)
 ·refine CW.skip <| SR <| va (v := .slice none 0 0) rfl <| have hH14 := hH8.nilRow 39 8; RL.nil <| CW.seq <| SR <| ?_
  refine V (run_move (by conv => lhs; whnf)) ?_
  refine V (run_lenSl (hs.hp hH14) rfl underlying36 rfl) <| vm (v := I 0) rfl <| RL.nil <| CW.block <| have hr : rightC l = true := nf ‹(!rightC l) = false›; CW.loop (G := Int × (List El) × Value) (fun ⟨k, st, v8⟩ s' w' => (Fr (7 :: 8 :: (10 :: 11 :: (rg 18 53 []))) _ s') ∧ (Hp w w' (.row v8 39 8 (st.length) (st.flatMap elL) :: _)) ∧ (s' 8 = v8) ∧ (s' 18 = I k) ∧ (0 ≤ k) ∧ (k ≤ l.length) ∧ (stackTo s.sh vs l k = some st) ∧ (deepTo l k = some (st.length : Int))) (fun ⟨k, st, v8⟩ => (l.length - k).toNat) ((0, [], (.slice none 0 0 : Value))) ⟨Fr.refl _ _, hH14, rfl, rfl, (by omega), (by omega), rfl, deep_zero l⟩ <| ?_
  rintro ⟨k, st, v8⟩ sg15 w15 ⟨fr15, hH15, e8_15, e18_15, h0, hk, hst, hdp⟩
  have e2_15 := (fr15 2 rfl).trans (by conv => lhs; whnf)
  have e3_15 := fr15.pp 3 rfl rfl
  have e6_15 := fr15.pp 6 rfl rfl
  have e16_15 := (fr15 16 rfl).trans (by conv => lhs; whnf)
  have e17_15 := fr15.ii 17 rfl rfl
  have hdk := deep_bd h0 hk hdp
  refine SR <| V (run_lss e18_15 e17_15) <| RL.nil <| CW.seq <| CW.condP rfl (fun h17 => ?_) (fun h17 => ?_)
  ·refine CW.skip <| CW.seq <| CW.block <| SR <| V (run_indexAddrS (hs.hp hH15) underlying36 sizeOf91 e16_15 e18_15 (by omega)) <| V (run_ldE (dv := ins0) insL_len (hs.hp hH15) underlying91 rfl rfl rfl (by omega)) <| RL.new rfl hH15 (f := fun b => (.pointer (some ⟨b, 0, none⟩))) (run_alloc zero_ins) <| fun b20 w18 hH19 => RL.set hH19 (i := 0) rfl (run_stW (c' := (insL _).toArray) rfl rfl rfl (insL_one _) (hH19.blk (i := 0) rfl) rfl) <| fun w21 hH22 => ?_
   simp only [z2] at hH22
   refine RL.nil <| SR <| V (fA underlying91 0 rfl sizeOf3 rfl) <| V (run_ld underlying3 rfl rfl (hH22.cell (i := 0) rfl (v := I _) rfl)) <| RL.nil <| CW.block <| SR <| V (run_eql rfl rfl) <| aB rfl <| RL.nil <| CW.condP rfl (fun h24 => ?_) (fun h24 => ?_)
   ·refine CW.seq <| SR <| V (fA underlying91 1 rfl sizeOf3 rfl) <| V (run_ld underlying3 rfl rfl (hH22.cell (i := 0) rfl (v := I _) rfl)) <| V (run_lss rfl rfl) <| mB rfl <| RL.splitP (dj := 47) rfl (fun h26 => ?_) (fun h26 => ?_)
    ·refine gF rfl (bT h26) <| gF rfl (bT h26) <| gF rfl (bT h26) <| gF rfl (bT h26) <| gF rfl (bT h26) <| V (run_pickT (bT h26) (v := B true) rfl) <| RL.nil <| CW.condT rfl <| SR <| V (run_bld (vs := []) rfl (built_el0)) <| RL.set hH22 (i := 2) rfl (run_stEl rfl e6_15 rfl (hH22.blk (i := 2) rfl)) <| fun w27 hH28 => ?_
     simp only [z2] at hH28
     refine va (v := B false) rfl <| RL.nil <| CW.ret <| outCT Tryz.results22 e6_15 rfl hH28 (i := 2) rfl underlying39 rfl (by rw [elC_size]; rfl) ⟨?_, hH28.below⟩
     (rw [ev_dead h0 ‹k < _› hst ‹(List.getD l k.toNat ins0).op = 1› (by omega)]; rfl)
    ·refine gT rfl (bF h26) <| V (fA underlying91 1 rfl sizeOf3 rfl) <| gT rfl (bF h26) <| V (run_ld underlying3 rfl rfl (hH22.cell (i := 0) rfl (v := I _) rfl)) <| gT rfl (bF h26) <| vm e2_15 <| gT rfl (bF h26) <| V (run_lenSl (ht.hp hH22) rfl underlying29 rfl) <| gT rfl (bF h26) <| V (run_geq rfl rfl) <| V (run_pickF (bF h26) (v := B _) rfl) <| RL.nil <| CW.condP rfl (fun h30 => ?_) (fun h30 => ?_)
     ·refine SR <| V (run_bld (vs := []) rfl (built_el0)) <| RL.set hH22 (i := 2) rfl (run_stEl rfl e6_15 rfl (hH22.blk (i := 2) rfl)) <| fun w31 hH32 => ?_
      simp only [z2] at hH32
      refine va (v := B false) rfl <| RL.nil <| CW.ret <| outCT Tryz.results22 e6_15 rfl hH32 (i := 2) rfl underlying39 rfl (by rw [elC_size]; rfl) ⟨?_, hH32.below⟩
      (rw [ev_dead h0 ‹k < _› hst ‹(List.getD l k.toNat ins0).op = 1› (by omega)]; rfl)
     ·refine CW.skip <| CW.region <| vm e8_15 <| vm e2_15 <| V (fA underlying91 1 rfl sizeOf3 rfl) <| V (run_ld underlying3 rfl rfl (hH22.cell (i := 0) rfl (v := I _) rfl)) <| V (run_indexAddrS (ht.hp hH22) underlying29 sizeOf39 rfl rfl (by omega)) <| V (run_ldElS (ht.hp hH22) underlying39 rfl rfl rfl (by omega)) <| RL.new rfl hH22 (f := fun b => (.slice (some ⟨b, 0, none⟩) 1 1)) (run_mkEl1 underlying29 rfl rfl rfl rfl) <| fun b35 w33 hH34 => ?_
      (try simp only [clX] at hH34)
      refine RL.app rfl hH34 (i := 2) rfl (Hp.slFlat elL_len hH34 (i := 0) (l := [_]) rfl (by simp [maxLen])) rfl rfl underlying29 rfl rfl (size := 8) (bytes := 64) rfl rfl rfl (by decide) (els_one _) (by show (st.length + 1) * _ ≤ _; omega) (by show st.length + 1 ≤ _; simp only [maxLen]; omega) <| fun v36 w37 hH38 => ?_
      simp only [z2] at hH38
      refine V (run_assign (by conv => lhs; whnf)) ?_
      refine RL.nil <| CW.region <| V (run_add e18_15 rfl (by omega)) <| mI rfl <| RL.nil <| ?_
      refine ⟨(k + 1, st ++ [vs.getD (l.getD k.toNat ins0).n.toNat el0], v36), ?_, fr15.u4.u4.u4.u4.u4.u4.u4.u1, (Hp.conv (hH38.sub (sQ (sQ sR))) (by simp; done)), rfl, (congrArg I (by rfl)), ?_, ?_, ?_, ?_⟩
      ·((try dsimp only); omega)
      ·omega
      ·omega
      ·exact ev_1 h0 ‹k < _› hst ‹(List.getD l k.toNat ins0).op = 1› ⟨by omega, by omega⟩
      ·(rw [deep_next h0 ‹k < _›, hdp, st_push (.inl ‹(List.getD l k.toNat ins0).op = 1›)]; simp; done)
   ·refine SR <| V (run_eql rfl rfl) <| aB rfl <| RL.nil <| CW.condP rfl (fun h40 => ?_) (fun h40 => ?_)
    ·refine CW.region <| vm e8_15 <| V (fA underlying91 2 rfl sizeOf39 rfl) <| V (run_ldElR underlying39 rfl rfl rfl (hH22.blk (i := 0) rfl) (ins_elB _)) <| RL.new rfl hH22 (f := fun b => (.slice (some ⟨b, 0, none⟩) 1 1)) (run_mkEl1 underlying29 rfl rfl rfl rfl) <| fun b43 w41 hH42 => ?_
     (try simp only [clX] at hH42)
     refine RL.app rfl hH42 (i := 2) rfl (Hp.slFlat elL_len hH42 (i := 0) (l := [_]) rfl (by simp [maxLen])) rfl rfl underlying29 rfl rfl (size := 8) (bytes := 64) rfl rfl rfl (by decide) (els_one _) (by show (st.length + 1) * _ ≤ _; omega) (by show st.length + 1 ≤ _; simp only [maxLen]; omega) <| fun v44 w45 hH46 => ?_
     simp only [z2] at hH46
     refine V (run_assign (by conv => lhs; whnf)) ?_
     refine RL.nil <| CW.region <| V (run_add e18_15 rfl (by omega)) <| mI rfl <| RL.nil <| ?_
     refine ⟨(k + 1, st ++ [(l.getD k.toNat ins0).c], v44), ?_, fr15.u4.u4.u4.u4.u1.u1, (Hp.conv (hH46.sub (sQ (sQ sR))) (by simp; done)), rfl, (congrArg I (by rfl)), ?_, ?_, ?_, ?_⟩
     ·((try dsimp only); omega)
     ·omega
     ·omega
     ·exact ev_2 h0 ‹k < _› hst ‹(List.getD l k.toNat ins0).op = 2›
     ·(rw [deep_next h0 ‹k < _›, hdp, st_push (.inr ‹(List.getD l k.toNat ins0).op = 2›)]; simp; done)
    ·refine SR <| vm e8_15 <| V (run_lenSl (hH22.sl (i := 1) rfl) rfl underlying29 rfl) <| V (fA underlying91 1 rfl sizeOf3 rfl) <| V (run_ld underlying3 rfl rfl (hH22.cell (i := 0) rfl (v := I _) rfl)) <| V (run_sub rfl rfl (by have hq := (deep_pop hr h0 ‹k < _› hdp ‹¬ (List.getD l k.toNat ins0).op = 1› ‹¬ (List.getD l k.toNat ins0).op = 2›); omega)) <| aI rfl <| RL.nil <| have hpo := (deep_pop hr h0 ‹k < _› hdp ‹¬ (List.getD l k.toNat ins0).op = 1› ‹¬ (List.getD l k.toNat ins0).op = 2›); CW.regionS (by kernel_rfl) hH22 (sP (sQ sR)) <| fun w47 hH48 => have zh48 := hH48.sub (sP (sQ sR)); AQ 0 rfl zh48 (run_move e8_15) <| AQ 1 rfl zh48 (mV (I _) rfl) <| AQ 2 rfl zh48 (mV (I _) rfl) <| AT 4 rfl zh48 (fun w hS => run_ldA (cs := [B _, _]) underlying65 rfl rfl e3_15 (rangeAt_cells (hS.blk (i := 2) rfl))) <| AQ 5 rfl zh48 (fA underlying91 0 rfl sizeOf3 rfl) <| AT 6 rfl zh48 (fun w hS => run_ld underlying3 rfl rfl (hS.cell (i := 0) rfl (v := I _) rfl)) <| AQ 7 rfl zh48 (run_move e8_15) <| AQ 8 rfl zh48 (mV (I _) rfl) <| AN.two 3 9 (by kernel_rfl) ?_ ?_
     ·refine AO.read rfl gnone rfl hH48 (sP (sQ sR)) (run_cut3 (hH48.sl (i := 1) rfl) underlying29 sizeOf39 rfl rfl rfl (by omega)) <| A1 9 <| AO.read rfl gnone rfl hH48 (sP (sQ sR)) (run_from (hH48.sl (i := 1) rfl) underlying29 sizeOf39 rfl rfl (by omega)) <| A1 10 <| AO.callP rfl gnone rfl hH48 (sP (sQ sR)) (c_code_fold s (l.getD k.toNat ins0).op _ (st.drop ((st.length : Int) - (l.getD k.toNat ins0).n).toNat) (by rw [List.length_drop]; omega) _ (Sl.frE elL_len (hH48.sl (i := 1) rfl) _ (by omega)) (hsh.mono hH48.kw) (hT.hp hH48)) (run_call3 call45 rfl rfl rfl) <| fun w53 hH54 => A1 11 <| AO.new rfl gnone rfl hH54 (sP (sQ sR)) (f := fun b => .slice (some ⟨b, 0, none⟩) 1 1) (run_mkEl1 underlying29 rfl rfl rfl rfl) <| fun b57 w55 hH56 => ?_
      (try simp only [clX] at hH56)
      refine A1 12 <| AO.appG rfl gnone rfl hH56 (j := 2) rfl (q := (((st.length : Int) - (l.getD k.toNat ins0).n)).toNat) (by omega) (fun _ => (sQ (sP (sQ sR)))) (Hp.slFlat elL_len hH56 (i := 0) (l := [_]) rfl (by simp [maxLen])) rfl rfl underlying29 rfl rfl (size := 8) (bytes := 64) rfl rfl rfl (by simp) (by show (((st.length : Int) - (l.getD k.toNat ins0).n).toNat + 1) * _ ≤ _; omega) (by show ((st.length : Int) - (l.getD k.toNat ins0).n).toNat + 1 ≤ _; simp only [maxLen]; omega) <| fun v60 w61 hH62 => ?_
      simp only [z2] at hH62
      refine AQ 13 rfl (hH62.sub (sQ (sP (sQ sR)))) (run_assign (by conv => lhs; whnf)) ?_
      refine AD <| CW.region <| V (run_add e18_15 rfl (by omega)) <| mI rfl <| RL.nil <| ?_
      refine ⟨(k + 1, st.take ((st.length : Int) - (l.getD k.toNat ins0).n).toNat ++ [foldE (opE s.sh (l.getD k.toNat ins0).op) (st.drop ((st.length : Int) - (l.getD k.toNat ins0).n).toNat)], v60), ?_, fr15.u4.u4.u4.u4.u4.u4.u4.u4, (Hp.conv (hH62.sub (sQ (sQ sR))) (by rw [flat_take elL_len, List.length_append, List.length_take, Nat.min_eq_left (by omega), List.flatMap_append]; done)), rfl, (congrArg I (by rfl)), ?_, ?_, ?_, ?_⟩
      ·((try dsimp only); omega)
      ·omega
      ·omega
      ·exact ev_3i h0 ‹k < _› hst ‹¬ (List.getD l k.toNat ins0).op = 1› ‹¬ (List.getD l k.toNat ins0).op = 2› rfl (by have := (deep_pop hr h0 ‹k < _› hdp ‹¬ (List.getD l k.toNat ins0).op = 1› ‹¬ (List.getD l k.toNat ins0).op = 2›); omega)
      ·(have hq := (deep_pop hr h0 ‹k < _› hdp ‹¬ (List.getD l k.toNat ins0).op = 1› ‹¬ (List.getD l k.toNat ins0).op = 2›); rw [hq.2.2, List.length_append, List.length_take, List.length_singleton]; congr 1 <;> omega)
     ·refine AO.read rfl gnone rfl hH48 (sP (sQ sR)) (run_from (hH48.sl (i := 1) rfl) underlying29 sizeOf39 rfl rfl (by omega)) <| AN.two 3 10 (by kernel_rfl) ?_ ?_
      ·refine AO.read rfl gnone rfl hH48 (sP (sQ sR)) (run_cut3 (hH48.sl (i := 1) rfl) underlying29 sizeOf39 rfl rfl rfl (by omega)) <| A1 10 <| AO.callP rfl gnone rfl hH48 (sP (sQ sR)) (c_code_fold s (l.getD k.toNat ins0).op _ (st.drop ((st.length : Int) - (l.getD k.toNat ins0).n).toNat) (by rw [List.length_drop]; omega) _ (Sl.frE elL_len (hH48.sl (i := 1) rfl) _ (by omega)) (hsh.mono hH48.kw) (hT.hp hH48)) (run_call3 call45 rfl rfl rfl) <| fun w67 hH68 => A1 11 <| AO.new rfl gnone rfl hH68 (sP (sQ sR)) (f := fun b => .slice (some ⟨b, 0, none⟩) 1 1) (run_mkEl1 underlying29 rfl rfl rfl rfl) <| fun b71 w69 hH70 => ?_
       (try simp only [clX] at hH70)
       refine A1 12 <| AO.appG rfl gnone rfl hH70 (j := 2) rfl (q := (((st.length : Int) - (l.getD k.toNat ins0).n)).toNat) (by omega) (fun _ => (sQ (sP (sQ sR)))) (Hp.slFlat elL_len hH70 (i := 0) (l := [_]) rfl (by simp [maxLen])) rfl rfl underlying29 rfl rfl (size := 8) (bytes := 64) rfl rfl rfl (by simp) (by show (((st.length : Int) - (l.getD k.toNat ins0).n).toNat + 1) * _ ≤ _; omega) (by show ((st.length : Int) - (l.getD k.toNat ins0).n).toNat + 1 ≤ _; simp only [maxLen]; omega) <| fun v74 w75 hH76 => ?_
       simp only [z2] at hH76
       refine AQ 13 rfl (hH76.sub (sQ (sP (sQ sR)))) (run_assign (by conv => lhs; whnf)) ?_
       refine AD <| CW.region <| V (run_add e18_15 rfl (by omega)) <| mI rfl <| RL.nil <| ?_
       refine ⟨(k + 1, st.take ((st.length : Int) - (l.getD k.toNat ins0).n).toNat ++ [foldE (opE s.sh (l.getD k.toNat ins0).op) (st.drop ((st.length : Int) - (l.getD k.toNat ins0).n).toNat)], v74), ?_, fr15.u4.u4.u4.u4.u4.u4.u4.u4, (Hp.conv (hH76.sub (sQ (sQ sR))) (by rw [flat_take elL_len, List.length_append, List.length_take, Nat.min_eq_left (by omega), List.flatMap_append]; done)), rfl, (congrArg I (by rfl)), ?_, ?_, ?_, ?_⟩
       ·((try dsimp only); omega)
       ·omega
       ·omega
       ·exact ev_3i h0 ‹k < _› hst ‹¬ (List.getD l k.toNat ins0).op = 1› ‹¬ (List.getD l k.toNat ins0).op = 2› rfl (by have := (deep_pop hr h0 ‹k < _› hdp ‹¬ (List.getD l k.toNat ins0).op = 1› ‹¬ (List.getD l k.toNat ins0).op = 2›); omega)
       ·(have hq := (deep_pop hr h0 ‹k < _› hdp ‹¬ (List.getD l k.toNat ins0).op = 1› ‹¬ (List.getD l k.toNat ins0).op = 2›); rw [hq.2.2, List.length_append, List.length_take, List.length_singleton]; congr 1 <;> omega)
      ·refine AO.callP rfl gnone rfl hH48 (sP (sQ sR)) (c_code_fold s (l.getD k.toNat ins0).op _ (st.drop ((st.length : Int) - (l.getD k.toNat ins0).n).toNat) (by rw [List.length_drop]; omega) _ (Sl.frE elL_len (hH48.sl (i := 1) rfl) _ (by omega)) (hsh.mono hH48.kw) (hT.hp hH48)) (run_call3 call45 rfl rfl rfl) <| fun w77 hH78 => AN.two 3 11 (by kernel_rfl) ?_ ?_
       ·refine AO.read rfl gnone rfl hH78 (sP (sQ sR)) (run_cut3 (hH78.sl (i := 1) rfl) underlying29 sizeOf39 rfl rfl rfl (by omega)) <| A1 11 <| AO.new rfl gnone rfl hH78 (sP (sQ sR)) (f := fun b => .slice (some ⟨b, 0, none⟩) 1 1) (run_mkEl1 underlying29 rfl rfl rfl rfl) <| fun b83 w81 hH82 => ?_
        (try simp only [clX] at hH82)
        refine A1 12 <| AO.appG rfl gnone rfl hH82 (j := 2) rfl (q := (((st.length : Int) - (l.getD k.toNat ins0).n)).toNat) (by omega) (fun _ => (sQ (sP (sQ sR)))) (Hp.slFlat elL_len hH82 (i := 0) (l := [_]) rfl (by simp [maxLen])) rfl rfl underlying29 rfl rfl (size := 8) (bytes := 64) rfl rfl rfl (by simp) (by show (((st.length : Int) - (l.getD k.toNat ins0).n).toNat + 1) * _ ≤ _; omega) (by show ((st.length : Int) - (l.getD k.toNat ins0).n).toNat + 1 ≤ _; simp only [maxLen]; omega) <| fun v86 w87 hH88 => ?_
        simp only [z2] at hH88
        refine AQ 13 rfl (hH88.sub (sQ (sP (sQ sR)))) (run_assign (by conv => lhs; whnf)) ?_
        refine AD <| CW.region <| V (run_add e18_15 rfl (by omega)) <| mI rfl <| RL.nil <| ?_
        refine ⟨(k + 1, st.take ((st.length : Int) - (l.getD k.toNat ins0).n).toNat ++ [foldE (opE s.sh (l.getD k.toNat ins0).op) (st.drop ((st.length : Int) - (l.getD k.toNat ins0).n).toNat)], v86), ?_, fr15.u4.u4.u4.u4.u4.u4.u4.u4, (Hp.conv (hH88.sub (sQ (sQ sR))) (by rw [flat_take elL_len, List.length_append, List.length_take, Nat.min_eq_left (by omega), List.flatMap_append]; done)), rfl, (congrArg I (by rfl)), ?_, ?_, ?_, ?_⟩
        ·((try dsimp only); omega)
        ·omega
        ·omega
        ·exact ev_3i h0 ‹k < _› hst ‹¬ (List.getD l k.toNat ins0).op = 1› ‹¬ (List.getD l k.toNat ins0).op = 2› rfl (by have := (deep_pop hr h0 ‹k < _› hdp ‹¬ (List.getD l k.toNat ins0).op = 1› ‹¬ (List.getD l k.toNat ins0).op = 2›); omega)
        ·(have hq := (deep_pop hr h0 ‹k < _› hdp ‹¬ (List.getD l k.toNat ins0).op = 1› ‹¬ (List.getD l k.toNat ins0).op = 2›); rw [hq.2.2, List.length_append, List.length_take, List.length_singleton]; congr 1 <;> omega)
       ·refine AO.new rfl gnone rfl hH78 (sP (sQ sR)) (f := fun b => .slice (some ⟨b, 0, none⟩) 1 1) (run_mkEl1 underlying29 rfl rfl rfl rfl) <| fun b91 w89 hH90 => ?_
        (try simp only [clX] at hH90)
        refine A1 3 <| AO.read rfl gnone rfl hH90 (sQ (sP (sQ sR))) (run_cut3 (hH90.sl (i := 2) rfl) underlying29 sizeOf39 rfl rfl rfl (by omega)) <| A1 12 <| AO.appG rfl gnone rfl hH90 (j := 2) rfl (q := (((st.length : Int) - (l.getD k.toNat ins0).n)).toNat) (by omega) (fun _ => (sQ (sP (sQ sR)))) (Hp.slFlat elL_len hH90 (i := 0) (l := [_]) rfl (by simp [maxLen])) rfl rfl underlying29 rfl rfl (size := 8) (bytes := 64) rfl rfl rfl (by simp) (by show (((st.length : Int) - (l.getD k.toNat ins0).n).toNat + 1) * _ ≤ _; omega) (by show ((st.length : Int) - (l.getD k.toNat ins0).n).toNat + 1 ≤ _; simp only [maxLen]; omega) <| fun v96 w97 hH98 => ?_
        simp only [z2] at hH98
        refine AQ 13 rfl (hH98.sub (sQ (sP (sQ sR)))) (run_assign (by conv => lhs; whnf)) ?_
        refine AD <| CW.region <| V (run_add e18_15 rfl (by omega)) <| mI rfl <| RL.nil <| ?_
        refine ⟨(k + 1, st.take ((st.length : Int) - (l.getD k.toNat ins0).n).toNat ++ [foldE (opE s.sh (l.getD k.toNat ins0).op) (st.drop ((st.length : Int) - (l.getD k.toNat ins0).n).toNat)], v96), ?_, fr15.u4.u4.u4.u4.u4.u4.u4.u4, (Hp.conv (hH98.sub (sQ (sQ sR))) (by rw [flat_take elL_len, List.length_append, List.length_take, Nat.min_eq_left (by omega), List.flatMap_append]; done)), rfl, (congrArg I (by rfl)), ?_, ?_, ?_, ?_⟩
        ·((try dsimp only); omega)
        ·omega
        ·omega
        ·exact ev_3i h0 ‹k < _› hst ‹¬ (List.getD l k.toNat ins0).op = 1› ‹¬ (List.getD l k.toNat ins0).op = 2› rfl (by have := (deep_pop hr h0 ‹k < _› hdp ‹¬ (List.getD l k.toNat ins0).op = 1› ‹¬ (List.getD l k.toNat ins0).op = 2›); omega)
        ·(have hq := (deep_pop hr h0 ‹k < _› hdp ‹¬ (List.getD l k.toNat ins0).op = 1› ‹¬ (List.getD l k.toNat ins0).op = 2›); rw [hq.2.2, List.length_append, List.length_take, List.length_singleton]; congr 1 <;> omega)
  ·refine CW.exit (id := 0) rfl <| SR <| vm e8_15 <| V (run_indexAddrS (hH15.sl (i := 0) rfl) underlying29 sizeOf39 rfl rfl (by have := deep_fin hr hk ‹¬ k < _› hdp; omega)) <| V (run_ldElS (hH15.sl (i := 0) rfl) underlying39 rfl rfl rfl (by have := deep_fin hr hk ‹¬ k < _› hdp; omega)) <| RL.set hH15 (i := 1) rfl (run_stEl rfl e6_15 rfl (hH15.blk (i := 1) rfl)) <| fun w99 hH100 => ?_
   simp only [z2] at hH100
   refine va (v := B true) rfl <| RL.nil <| CW.ret <| outCT Tryz.results22 e6_15 rfl hH100 (i := 1) rfl underlying39 rfl (by rw [elC_size]; rfl) ⟨?_, hH100.below⟩
   (rw [ev_end hr hk ‹¬ k < _› hst]; rfl)
set_option maxHeartbeats 2000000 in
theorem c_clearanceref14_Eval (s : Shp) (v : Value) (l : List InsR) (u : Value) (vs : List El) (hl : l.length ≤ 1000) (w : World) (hs : Sl w v 10 l.length (l.flatMap insL)) (ht : Sl w u 8 vs.length (vs.flatMap elL)) (hsh : ShpV (Kw w) s) : Calls Tryz.prog 28 #[.agg (shpC s), v, u] w (Pure (.tuple #[.agg (elC (evalF s.sh l vs).1), B (evalF s.sh l vs).2]) w) := by
 have hm := hs.small
 unfold maxLen at hm
 have hm2 := ht.small
 unfold maxLen at hm2
 refine enter Tryz.func28 rfl Tryz.ntmps28 rfl <| have hH := Hp.start w; SR <| RL.new rfl hH (f := fun b => (.pointer (some ⟨b, 0, none⟩))) (run_box (v := .agg _) rfl) <| fun b3 w1 hH2 => RL.new rfl hH2 (f := fun b => (.pointer (some ⟨b, 0, none⟩))) (run_alloc zero_el) <| fun b6 w4 hH5 => va (v := B false) rfl <| RL.nil <| SR <| va (v := .slice none 0 0) rfl <| have hH7 := hH5.nilRow 39 8; RL.nil <| CW.seq <| SR <| ?_
 refine V (run_move (by conv => lhs; whnf)) ?_
 refine RL.callP rfl hH7 (c_clearanceref14_Right _ _  _ (hs.hp hH7)) (run_call1 call48 rfl) <| fun w8 hH9 => V (run_not rfl) <| RL.nil <| CW.cond rfl (fun h12 => ?_) (fun h12 => ?_)
 ·refine SR <| V (run_bld (vs := []) rfl (built_el0)) <| RL.set hH9 (i := 1) rfl (run_stEl rfl rfl rfl (hH9.blk (i := 1) rfl)) <| fun w13 hH14 => ?_
  simp only [z2] at hH14
  refine va (v := B false) rfl <| RL.nil <| CW.ret <| outCT Tryz.results28 rfl rfl hH14 (i := 1) rfl underlying39 rfl (by rw [elC_size]; rfl) ⟨?_, hH14.below⟩
  (rw [ev_no (nt ‹(!rightC l) = true›)]; rfl)
 ·refine CW.skip <| CW.seq <| SR <| va (v := I 0) rfl <| RL.nil <| CW.block <| have hr : rightC l = true := nf ‹(!rightC l) = false›; CW.loop (G := Int × (List El) × Value) (fun ⟨k, st, v8⟩ s' w' => (Fr (rg 7 6 (rg 17 86 [])) _ s') ∧ (Hp w w' (.row v8 39 8 (st.length) (st.flatMap elL) :: _)) ∧ (s' 8 = v8) ∧ (s' 9 = I k) ∧ (0 ≤ k) ∧ (k ≤ l.length) ∧ (stackTo s.sh vs l k = some st) ∧ (deepTo l k = some (st.length : Int))) (fun ⟨k, st, v8⟩ => (l.length - k).toNat) ((0, [], (.slice none 0 0 : Value))) ⟨Fr.refl _ _, hH9, rfl, rfl, (by omega), (by omega), rfl, deep_zero l⟩ <| ?_
  rintro ⟨k, st, v8⟩ sg15 w15 ⟨fr15, hH15, e8_15, e9_15, h0, hk, hst, hdp⟩
  have e1_15 := (fr15 1 rfl).trans (by conv => lhs; whnf)
  have e2_15 := (fr15 2 rfl).trans (by conv => lhs; whnf)
  have e3_15 := fr15.pp 3 rfl rfl
  have e6_15 := fr15.pp 6 rfl rfl
  have hdk := deep_bd h0 hk hdp
  refine CW.seq <| SR <| vm e9_15 <| vm e1_15 <| V (run_lenSl (hs.hp hH15) rfl underlying36 rfl) <| V (run_lss rfl rfl) <| RL.nil <| CW.condP rfl (fun h17 => ?_) (fun h17 => ?_)
  ·refine CW.skip <| CW.seq <| CW.block <| SR <| vm e1_15 <| vm e9_15 <| V (run_indexAddrS (hs.hp hH15) underlying36 sizeOf91 rfl rfl (by omega)) <| V (run_ldE (dv := ins0) insL_len (hs.hp hH15) underlying91 rfl rfl rfl (by omega)) <| RL.new rfl hH15 (f := fun b => (.pointer (some ⟨b, 0, none⟩))) (run_alloc zero_ins) <| fun b20 w18 hH19 => RL.set hH19 (i := 0) rfl (run_stW (c' := (insL _).toArray) rfl rfl rfl (insL_one _) (hH19.blk (i := 0) rfl) rfl) <| fun w21 hH22 => ?_
   simp only [z2] at hH22
   refine RL.nil <| SR <| V (fA underlying91 0 rfl sizeOf3 rfl) <| V (run_ld underlying3 rfl rfl (hH22.cell (i := 0) rfl (v := I _) rfl)) <| V (run_eql rfl rfl) <| RL.nil <| CW.condP rfl (fun h24 => ?_) (fun h24 => ?_)
   ·refine CW.region <| vm e8_15 <| V (fA underlying91 2 rfl sizeOf39 rfl) <| V (run_ldElR underlying39 rfl rfl rfl (hH22.blk (i := 0) rfl) (ins_elB _)) <| RL.new rfl hH22 (f := fun b => (.slice (some ⟨b, 0, none⟩) 1 1)) (run_mkEl1 underlying29 rfl rfl rfl rfl) <| fun b27 w25 hH26 => ?_
    (try simp only [clX] at hH26)
    refine RL.app rfl hH26 (i := 2) rfl (Hp.slFlat elL_len hH26 (i := 0) (l := [_]) rfl (by simp [maxLen])) rfl rfl underlying29 rfl rfl (size := 8) (bytes := 64) rfl rfl rfl (by decide) (els_one _) (by show (st.length + 1) * _ ≤ _; omega) (by simp only [maxLen]; ((show st.length + 1 ≤ _; omega))) <| fun v28 w29 hH30 => ?_
    simp only [z2] at hH30
    refine V (run_assign (by conv => lhs; whnf)) ?_
    refine RL.nil <| CW.region <| vm e9_15 <| V (run_add rfl rfl (by omega)) <| aI rfl <| RL.nil <| ?_
    refine ⟨(k + 1, st ++ [(l.getD k.toNat ins0).c], v28), ?_, fr15.u4.u4.u4.u4.u4.u1, (Hp.conv (hH30.sub (sQ (sQ sR))) (by simp; done)), rfl, (congrArg I (by rfl)), ?_, ?_, ?_, ?_⟩
    ·((try dsimp only); omega)
    ·omega
    ·omega
    ·exact ev_2 h0 ‹k < _› hst ‹(List.getD l k.toNat ins0).op = 2›
    ·(rw [deep_next h0 ‹k < _›, hdp, st_push (.inr ‹(List.getD l k.toNat ins0).op = 2›)]; simp; done)
   ·refine SR <| V (fA underlying91 0 rfl sizeOf3 rfl) <| V (run_ld underlying3 rfl rfl (hH22.cell (i := 0) rfl (v := I _) rfl)) <| V (run_eql rfl rfl) <| RL.nil <| CW.condP rfl (fun h32 => ?_) (fun h32 => ?_)
    ·refine CW.seq <| SR <| V (fA underlying91 1 rfl sizeOf3 rfl) <| V (run_ld underlying3 rfl rfl (hH22.cell (i := 0) rfl (v := I _) rfl)) <| V (run_lss rfl rfl) <| mB rfl <| RL.splitP (dj := 41) rfl (fun h34 => ?_) (fun h34 => ?_)
     ·refine gF rfl (bT h34) <| gF rfl (bT h34) <| gF rfl (bT h34) <| gF rfl (bT h34) <| gF rfl (bT h34) <| V (run_pickT (bT h34) (v := B true) rfl) <| RL.nil <| CW.condT rfl <| SR <| V (run_bld (vs := []) rfl (built_el0)) <| RL.set hH22 (i := 2) rfl (run_stEl rfl e6_15 rfl (hH22.blk (i := 2) rfl)) <| fun w35 hH36 => ?_
      simp only [z2] at hH36
      refine va (v := B false) rfl <| RL.nil <| CW.ret <| outCT Tryz.results28 e6_15 rfl hH36 (i := 2) rfl underlying39 rfl (by rw [elC_size]; rfl) ⟨?_, hH36.below⟩
      (rw [ev_dead h0 ‹k < _› hst ‹(List.getD l k.toNat ins0).op = 1› (by omega)]; rfl)
     ·refine gT rfl (bF h34) <| V (fA underlying91 1 rfl sizeOf3 rfl) <| gT rfl (bF h34) <| V (run_ld underlying3 rfl rfl (hH22.cell (i := 0) rfl (v := I _) rfl)) <| gT rfl (bF h34) <| vm e2_15 <| gT rfl (bF h34) <| V (run_lenSl (ht.hp hH22) rfl underlying29 rfl) <| gT rfl (bF h34) <| V (run_geq rfl rfl) <| V (run_pickF (bF h34) (v := B _) rfl) <| RL.nil <| CW.condP rfl (fun h38 => ?_) (fun h38 => ?_)
      ·refine SR <| V (run_bld (vs := []) rfl (built_el0)) <| RL.set hH22 (i := 2) rfl (run_stEl rfl e6_15 rfl (hH22.blk (i := 2) rfl)) <| fun w39 hH40 => ?_
       simp only [z2] at hH40
       refine va (v := B false) rfl <| RL.nil <| CW.ret <| outCT Tryz.results28 e6_15 rfl hH40 (i := 2) rfl underlying39 rfl (by rw [elC_size]; rfl) ⟨?_, hH40.below⟩
       (rw [ev_dead h0 ‹k < _› hst ‹(List.getD l k.toNat ins0).op = 1› (by omega)]; rfl)
      ·refine CW.skip <| CW.region <| vm e8_15 <| vm e2_15 <| V (fA underlying91 1 rfl sizeOf3 rfl) <| V (run_ld underlying3 rfl rfl (hH22.cell (i := 0) rfl (v := I _) rfl)) <| V (run_indexAddrS (ht.hp hH22) underlying29 sizeOf39 rfl rfl (by omega)) <| V (run_ldElS (ht.hp hH22) underlying39 rfl rfl rfl (by omega)) <| RL.new rfl hH22 (f := fun b => (.slice (some ⟨b, 0, none⟩) 1 1)) (run_mkEl1 underlying29 rfl rfl rfl rfl) <| fun b43 w41 hH42 => ?_
       (try simp only [clX] at hH42)
       refine RL.app rfl hH42 (i := 2) rfl (Hp.slFlat elL_len hH42 (i := 0) (l := [_]) rfl (by simp [maxLen])) rfl rfl underlying29 rfl rfl (size := 8) (bytes := 64) rfl rfl rfl (by decide) (els_one _) (by show (st.length + 1) * _ ≤ _; omega) (by simp only [maxLen]; ((show st.length + 1 ≤ _; omega))) <| fun v44 w45 hH46 => ?_
       simp only [z2] at hH46
       refine V (run_assign (by conv => lhs; whnf)) ?_
       refine RL.nil <| CW.region <| vm e9_15 <| V (run_add rfl rfl (by omega)) <| aI rfl <| RL.nil <| ?_
       refine ⟨(k + 1, st ++ [vs.getD (l.getD k.toNat ins0).n.toNat el0], v44), ?_, fr15.u4.u4.u4.u4.u4.u4.u4.u4.u4.u1, (Hp.conv (hH46.sub (sQ (sQ sR))) (by simp; done)), rfl, (congrArg I (by rfl)), ?_, ?_, ?_, ?_⟩
       ·((try dsimp only); omega)
       ·omega
       ·omega
       ·exact ev_1 h0 ‹k < _› hst ‹(List.getD l k.toNat ins0).op = 1› ⟨by omega, by omega⟩
       ·(rw [deep_next h0 ‹k < _›, hdp, st_push (.inl ‹(List.getD l k.toNat ins0).op = 1›)]; simp; done)
    ·refine SR <| vm e8_15 <| vm e8_15 <| V (run_lenSl (hH22.sl (i := 1) rfl) rfl underlying29 rfl) <| V (run_sub rfl rfl (by omega)) <| V (run_indexAddrS (hH22.sl (i := 1) rfl) underlying29 sizeOf39 rfl rfl (by have := (deep_pop hr h0 ‹k < _› hdp ‹¬ (List.getD l k.toNat ins0).op = 1› ‹¬ (List.getD l k.toNat ins0).op = 2›); omega)) <| V (run_ldElS (hH22.sl (i := 1) rfl) underlying39 rfl rfl rfl (by have := (deep_pop hr h0 ‹k < _› hdp ‹¬ (List.getD l k.toNat ins0).op = 1› ‹¬ (List.getD l k.toNat ins0).op = 2›); omega)) <| RL.new rfl hH22 (f := fun b => (.pointer (some ⟨b, 0, none⟩))) (run_alloc zero_el) <| fun b49 w47 hH48 => RL.set hH48 (i := 0) rfl (run_stEl rfl rfl rfl (hH48.blk (i := 0) rfl)) <| fun w50 hH51 => ?_
     simp only [z2] at hH51
     refine RL.nil <| CW.seq <| SR <| va (v := I 2) rfl <| RL.nil <| CW.block <| have hpo := (deep_pop hr h0 ‹k < _› hdp ‹¬ (List.getD l k.toNat ins0).op = 1› ‹¬ (List.getD l k.toNat ins0).op = 2›); CW.loop (G := Int × El) (fun ⟨j, e1⟩ s' w' => (Fr (12 :: (rg 63 28 [])) _ s') ∧ (Hp w w' (.blk b49 (.cells (elC e1) 39 (0, 0)) :: _)) ∧ (s' 12 = I j) ∧ (2 ≤ j) ∧ (j ≤ (l.getD k.toNat ins0).n + 1) ∧ (e1 = foldE (opE s.sh (l.getD k.toNat ins0).op) (st.drop ((st.length : Int) - (j - 1)).toNat))) (fun ⟨j, e1⟩ => ((l.getD k.toNat ins0).n + 1 - j).toNat) ((2, (st.getD ((st.length : Int) - 1).toNat el0))) ⟨Fr.refl _ _, hH51, rfl, (by omega), (by omega), (by rw [show ((st.length : Int) - (2 - 1)).toNat = st.length - 1 by omega, foldE_last (by intro h; rw [h] at hpo; simp at hpo; omega)]; congr 1; omega)⟩ <| ?_
     rintro ⟨j, e1⟩ sg52 w52 ⟨fr52, hH52, e12_52, j0, jk, he⟩
     have e3_52 := (fr52 3 rfl).trans e3_15
     have e8_52 := (fr52 8 rfl).trans e8_15
     have e9_52 := (fr52 9 rfl).trans e9_15
     have e10_52 := fr52.pp 10 rfl rfl
     have e11_52 := fr52.pp 11 rfl rfl
     refine CW.seq <| SR <| vm e12_52 <| V (fA underlying91 1 rfl sizeOf3 e10_52) <| V (run_ld underlying3 rfl rfl (hH52.cell (i := 1) rfl (v := I _) rfl)) <| V (run_leq rfl rfl) <| RL.nil <| CW.condP rfl (fun h54 => ?_) (fun h54 => ?_)
     ·refine CW.skip <| CW.seq <| CW.block <| SR <| V (fA underlying91 0 rfl sizeOf3 e10_52) <| V (run_ld underlying3 rfl rfl (hH52.cell (i := 1) rfl (v := I _) rfl)) <| V (run_eql rfl rfl) <| RL.nil <| CW.condP rfl (fun h56 => ?_) (fun h56 => ?_)
      ·refine CW.regionS (by kernel_rfl) hH52 (sQ sR) <| fun w57 hH58 => have zh58 := hH58.sub (sQ sR); AT 0 rfl zh58 (fun w hS => run_ldA (cs := [B _, _]) underlying65 rfl rfl e3_52 (rangeAt_cells (hS.blk (i := 3) rfl))) <| AQ 1 rfl zh58 (run_move e8_52) <| AQ 2 rfl zh58 (run_move e8_52) <| AT 3 rfl zh58 (fun w hS => run_lenSl (hS.sl (i := 1) rfl) rfl underlying29 rfl) <| AQ 4 rfl zh58 (run_move e12_52) <| AQ 5 rfl zh58 (run_sub rfl rfl (by omega)) <| AT 6 rfl zh58 (fun w hS => run_indexAddrS (hS.sl (i := 1) rfl) underlying29 sizeOf39 rfl rfl (by omega)) <| AT 7 rfl zh58 (fun w hS => run_ldElS (hS.sl (i := 1) rfl) underlying39 rfl rfl rfl (by omega)) <| A1 8 <| AO.read rfl gnone rfl hH58 (sQ sR) (run_ldEl underlying39 rfl rfl e11_52 (hH58.blk (i := 0) rfl)) <| A1 9 <| AO.callP rfl gnone rfl hH58 (sQ sR) (c_clearanceref07_Join _ _ _  _ (hsh.mono hH58.kw)) (run_call3 call49 rfl rfl rfl) <| fun w61 hH62 => A1 10 <| AO.set rfl gnone hH62 (j := 0) rfl (sQ sR) (run_stEl rfl e11_52 rfl (hH62.blk (i := 0) rfl)) <| fun w65 hH66 => ?_
       simp only [z2] at hH66
       refine AD <| CW.region <| vm e12_52 <| V (run_add rfl rfl (by omega)) <| aI rfl <| RL.nil <| ?_
       refine ⟨(j + 1, _), ?_, fr52.u4.u4.u4.u4.u4, hH66, (congrArg I (by rfl)), ?_, ?_, ?_⟩
       ·((try dsimp only); omega)
       ·omega
       ·omega
       ·(rw [show ((st.length : Int) - (j + 1 - 1)).toNat = ((st.length : Int) - j).toNat by omega, foldE_k (by omega) (by omega), show ((st.length : Int) - j + 1).toNat = ((st.length : Int) - (j - 1)).toNat by omega, ← he]; exact opE_3 ‹(List.getD l k.toNat ins0).op = 3›)
      ·refine CW.regionS (by kernel_rfl) hH52 (sQ sR) <| fun w67 hH68 => have zh68 := hH68.sub (sQ sR); AQ 0 rfl zh68 (run_move e8_52) <| AQ 1 rfl zh68 (run_move e8_52) <| AT 2 rfl zh68 (fun w hS => run_lenSl (hS.sl (i := 1) rfl) rfl underlying29 rfl) <| AQ 3 rfl zh68 (run_move e12_52) <| AQ 4 rfl zh68 (run_sub rfl rfl (by omega)) <| AT 5 rfl zh68 (fun w hS => run_indexAddrS (hS.sl (i := 1) rfl) underlying29 sizeOf39 rfl rfl (by omega)) <| AT 6 rfl zh68 (fun w hS => run_ldElS (hS.sl (i := 1) rfl) underlying39 rfl rfl rfl (by omega)) <| A1 7 <| AO.read rfl gnone rfl hH68 (sQ sR) (run_ldEl underlying39 rfl rfl e11_52 (hH68.blk (i := 0) rfl)) <| A1 8 <| AO.callP rfl gnone rfl hH68 (sQ sR) (c_clearanceref07_Meet _ _  _) (run_call2 call50 rfl rfl) <| fun w71 hH72 => A1 9 <| AO.set rfl gnone hH72 (j := 0) rfl (sQ sR) (run_stEl rfl e11_52 rfl (hH72.blk (i := 0) rfl)) <| fun w75 hH76 => ?_
       simp only [z2] at hH76
       refine AD <| CW.region <| vm e12_52 <| V (run_add rfl rfl (by omega)) <| aI rfl <| RL.nil <| ?_
       refine ⟨(j + 1, _), ?_, fr52.u4.u4.u4.u4.u1.u1.u1, hH76, (congrArg I (by rfl)), ?_, ?_, ?_⟩
       ·((try dsimp only); omega)
       ·omega
       ·omega
       ·(rw [show ((st.length : Int) - (j + 1 - 1)).toNat = ((st.length : Int) - j).toNat by omega, foldE_k (by omega) (by omega), show ((st.length : Int) - j + 1).toNat = ((st.length : Int) - (j - 1)).toNat by omega, ← he]; exact opE_4 ‹¬ (List.getD l k.toNat ins0).op = 3›)
     ·refine CW.exit (id := 2) rfl <| have he3 : e1 = foldE (opE s.sh (l.getD k.toNat ins0).op) (st.drop ((st.length : Int) - (l.getD k.toNat ins0).n).toNat) := (by rw [he]; congr 2; omega); CW.regionD (by kernel_rfl) hH52 <| fun w77 hH78 => have zh78 := hH78.sub sR; AQ 1 rfl zh78 (run_move e8_52) <| AQ 2 rfl zh78 (run_move e8_52) <| AT 3 rfl zh78 (fun w hS => run_lenSl (hS.sl (i := 2) rfl) rfl underlying29 rfl) <| AQ 4 rfl zh78 (fA underlying91 1 rfl sizeOf3 e10_52) <| AT 5 rfl zh78 (fun w hS => run_ld underlying3 rfl rfl (hS.cell (i := 1) rfl (v := I _) rfl)) <| AQ 6 rfl zh78 (run_sub rfl rfl (by omega)) <| AT 9 rfl zh78 (fun w hS => run_ldEl underlying39 rfl rfl e11_52 (hS.blk (i := 0) rfl)) <| AN.three 0 7 10 (by kernel_rfl) ?_ ?_ ?_
      ·refine AO.new rfl gnone rfl hH78 sR (f := fun b => .slice (some ⟨b, 0, none⟩) 0 0) (run_mkE underlying29 sizeOf39) <| fun b81 w79 hH80 => ?_
       (try simp only [clX] at hH80)
       have hH82 := hH80.blkRow 0 8 rfl (by decide)
       refine AN.two 7 10 (by kernel_rfl) ?_ ?_
       ·refine AO.read rfl gnone rfl hH82 (sQ sR) (run_cut (hH82.sl (i := 3) rfl) underlying29 sizeOf39 rfl rfl (by omega)) <| AN.two 8 10 (by kernel_rfl) ?_ ?_
        ·refine AO.app rfl gnone rfl hH82 (j := 0) rfl (fun _ => (sQ sR)) ((hH82.sl (i := 3) rfl).cut _ (by (have := (deep_pop hr h0 ‹k < _› hdp ‹¬ (List.getD l k.toNat ins0).op = 1› ‹¬ (List.getD l k.toNat ins0).op = 2›); omega))) rfl rfl underlying29 rfl rfl (size := 8) (bytes := 64) rfl rfl rfl (by decide) (fun u hu => els_one st u (List.mem_of_mem_take hu)) (by omega) (by simp only [maxLen]; omega) <| fun v87 w85 hH86 => ?_
         simp only [z2] at hH86
         refine A1 10 <| AO.new rfl gnone rfl hH86 (sQ sR) (f := fun b => .slice (some ⟨b, 0, none⟩) 1 1) (run_mkEl1 underlying29 rfl rfl rfl rfl) <| fun b90 w88 hH89 => ?_
         (try simp only [clX] at hH89)
         refine A1 11 <| AO.app rfl gnone rfl hH89 (j := 1) rfl (fun _ => (sQ (sQ sR))) (Hp.slFlat elL_len hH89 (i := 0) (l := [_]) rfl (by simp [maxLen])) rfl rfl underlying29 rfl rfl (size := 8) (bytes := 64) rfl rfl rfl (by decide) (els_one _) (by show (0 + ((st.length : Int) - (l.getD k.toNat ins0).n).toNat + 1) * _ ≤ _; omega) (by simp only [maxLen]; ((show 0 + ((st.length : Int) - (l.getD k.toNat ins0).n).toNat + 1 ≤ _; omega))) <| fun v93 w91 hH92 => ?_
         simp only [z2] at hH92
         refine AQ 12 rfl (hH92.sub (sQ (sQ sR))) (run_assign (by conv => lhs; whnf)) ?_
         refine AD <| CW.region <| vm e9_52 <| V (run_add rfl rfl (by omega)) <| aI rfl <| RL.nil <| have hH94 := Hp.swap (hH92.perm (((pC pR).trans pS).trans (pC pR))) (i := 3) (by simp only [List.length_cons]; omega); ?_
         simp only [z2] at hH94
         refine ⟨(k + 1, st.take ((st.length : Int) - (l.getD k.toNat ins0).n).toNat ++ [e1], v93), ?_, (((fr15.u4.u4.u4.u4.u4.u1.u1.u1).t fr52 rfl)).u4.u4.u4.u4.u4, (Hp.conv (hH94.sub (sQ (sQ (sQ sR)))) (by rw [flat_take elL_len, List.length_append, List.length_take, Nat.min_eq_left (by omega), List.flatMap_append, Nat.zero_add]; done)), rfl, (congrArg I (by rfl)), ?_, ?_, ?_, ?_⟩
         ·((try dsimp only); omega)
         ·omega
         ·omega
         ·(rw [he3]; exact ev_3i h0 ‹k < _› hst ‹¬ (List.getD l k.toNat ins0).op = 1› ‹¬ (List.getD l k.toNat ins0).op = 2› rfl (by have := (deep_pop hr h0 ‹k < _› hdp ‹¬ (List.getD l k.toNat ins0).op = 1› ‹¬ (List.getD l k.toNat ins0).op = 2›); omega))
         ·(have hq := (deep_pop hr h0 ‹k < _› hdp ‹¬ (List.getD l k.toNat ins0).op = 1› ‹¬ (List.getD l k.toNat ins0).op = 2›); rw [hq.2.2, List.length_append, List.length_take, List.length_singleton]; congr 1 <;> omega)
        ·refine AO.new rfl gnone rfl hH82 (sQ sR) (f := fun b => .slice (some ⟨b, 0, none⟩) 1 1) (run_mkEl1 underlying29 rfl rfl rfl rfl) <| fun b97 w95 hH96 => ?_
         (try simp only [clX] at hH96)
         refine A1 8 <| AO.app rfl gnone rfl hH96 (j := 1) rfl (fun _ => (sQ (sQ sR))) ((hH96.sl (i := 4) rfl).cut _ (by (have := (deep_pop hr h0 ‹k < _› hdp ‹¬ (List.getD l k.toNat ins0).op = 1› ‹¬ (List.getD l k.toNat ins0).op = 2›); omega))) rfl rfl underlying29 rfl rfl (size := 8) (bytes := 64) rfl rfl rfl (by decide) (fun u hu => els_one st u (List.mem_of_mem_take hu)) (by omega) (by simp only [maxLen]; omega) <| fun v100 w98 hH99 => ?_
         simp only [z2] at hH99
         refine A1 11 <| AO.app rfl gnone rfl hH99 (j := 1) rfl (fun _ => (sQ (sQ sR))) (Hp.slFlat elL_len hH99 (i := 0) (l := [_]) rfl (by simp [maxLen])) rfl rfl underlying29 rfl rfl (size := 8) (bytes := 64) rfl rfl rfl (by decide) (els_one _) (by show (0 + ((st.length : Int) - (l.getD k.toNat ins0).n).toNat + 1) * _ ≤ _; omega) (by simp only [maxLen]; ((show 0 + ((st.length : Int) - (l.getD k.toNat ins0).n).toNat + 1 ≤ _; omega))) <| fun v103 w101 hH102 => ?_
         simp only [z2] at hH102
         refine AQ 12 rfl (hH102.sub (sQ (sQ sR))) (run_assign (by conv => lhs; whnf)) ?_
         refine AD <| CW.region <| vm e9_52 <| V (run_add rfl rfl (by omega)) <| aI rfl <| RL.nil <| have hH104 := Hp.swap (hH102.perm (((pC pR).trans pS).trans (pC pR))) (i := 3) (by simp only [List.length_cons]; omega); ?_
         simp only [z2] at hH104
         refine ⟨(k + 1, st.take ((st.length : Int) - (l.getD k.toNat ins0).n).toNat ++ [e1], v103), ?_, (((fr15.u4.u4.u4.u4.u4.u1.u1.u1).t fr52 rfl)).u4.u4.u4.u4.u4, (Hp.conv (hH104.sub (sQ (sQ (sQ sR)))) (by rw [flat_take elL_len, List.length_append, List.length_take, Nat.min_eq_left (by omega), List.flatMap_append, Nat.zero_add]; rfl)), rfl, (congrArg I (by rfl)), ?_, ?_, ?_, ?_⟩
         ·((try dsimp only); omega)
         ·omega
         ·omega
         ·(rw [he3]; exact ev_3i h0 ‹k < _› hst ‹¬ (List.getD l k.toNat ins0).op = 1› ‹¬ (List.getD l k.toNat ins0).op = 2› rfl (by have := (deep_pop hr h0 ‹k < _› hdp ‹¬ (List.getD l k.toNat ins0).op = 1› ‹¬ (List.getD l k.toNat ins0).op = 2›); omega))
         ·(have hq := (deep_pop hr h0 ‹k < _› hdp ‹¬ (List.getD l k.toNat ins0).op = 1› ‹¬ (List.getD l k.toNat ins0).op = 2›); rw [hq.2.2, List.length_append, List.length_take, List.length_singleton]; congr 1 <;> omega)
       ·refine AO.new rfl gnone rfl hH82 (sQ sR) (f := fun b => .slice (some ⟨b, 0, none⟩) 1 1) (run_mkEl1 underlying29 rfl rfl rfl rfl) <| fun b107 w105 hH106 => ?_
        (try simp only [clX] at hH106)
        refine A1 7 <| AO.read rfl gnone rfl hH106 (sQ (sQ sR)) (run_cut (hH106.sl (i := 4) rfl) underlying29 sizeOf39 rfl rfl (by omega)) <| A1 8 <| AO.app rfl gnone rfl hH106 (j := 1) rfl (fun _ => (sQ (sQ sR))) ((hH106.sl (i := 4) rfl).cut _ (by (have := (deep_pop hr h0 ‹k < _› hdp ‹¬ (List.getD l k.toNat ins0).op = 1› ‹¬ (List.getD l k.toNat ins0).op = 2›); omega))) rfl rfl underlying29 rfl rfl (size := 8) (bytes := 64) rfl rfl rfl (by decide) (fun u hu => els_one st u (List.mem_of_mem_take hu)) (by omega) (by simp only [maxLen]; omega) <| fun v112 w110 hH111 => ?_
        simp only [z2] at hH111
        refine A1 11 <| AO.app rfl gnone rfl hH111 (j := 1) rfl (fun _ => (sQ (sQ sR))) (Hp.slFlat elL_len hH111 (i := 0) (l := [_]) rfl (by simp [maxLen])) rfl rfl underlying29 rfl rfl (size := 8) (bytes := 64) rfl rfl rfl (by decide) (els_one _) (by show (0 + ((st.length : Int) - (l.getD k.toNat ins0).n).toNat + 1) * _ ≤ _; omega) (by simp only [maxLen]; ((show 0 + ((st.length : Int) - (l.getD k.toNat ins0).n).toNat + 1 ≤ _; omega))) <| fun v115 w113 hH114 => ?_
        simp only [z2] at hH114
        refine AQ 12 rfl (hH114.sub (sQ (sQ sR))) (run_assign (by conv => lhs; whnf)) ?_
        refine AD <| CW.region <| vm e9_52 <| V (run_add rfl rfl (by omega)) <| aI rfl <| RL.nil <| have hH116 := Hp.swap (hH114.perm (((pC pR).trans pS).trans (pC pR))) (i := 3) (by simp only [List.length_cons]; omega); ?_
        simp only [z2] at hH116
        refine ⟨(k + 1, st.take ((st.length : Int) - (l.getD k.toNat ins0).n).toNat ++ [e1], v115), ?_, (((fr15.u4.u4.u4.u4.u4.u1.u1.u1).t fr52 rfl)).u4.u4.u4.u4.u4, (Hp.conv (hH116.sub (sQ (sQ (sQ sR)))) (by rw [flat_take elL_len, List.length_append, List.length_take, Nat.min_eq_left (by omega), List.flatMap_append, Nat.zero_add]; rfl)), rfl, (congrArg I (by rfl)), ?_, ?_, ?_, ?_⟩
        ·((try dsimp only); omega)
        ·omega
        ·omega
        ·(rw [he3]; exact ev_3i h0 ‹k < _› hst ‹¬ (List.getD l k.toNat ins0).op = 1› ‹¬ (List.getD l k.toNat ins0).op = 2› rfl (by have := (deep_pop hr h0 ‹k < _› hdp ‹¬ (List.getD l k.toNat ins0).op = 1› ‹¬ (List.getD l k.toNat ins0).op = 2›); omega))
        ·(have hq := (deep_pop hr h0 ‹k < _› hdp ‹¬ (List.getD l k.toNat ins0).op = 1› ‹¬ (List.getD l k.toNat ins0).op = 2›); rw [hq.2.2, List.length_append, List.length_take, List.length_singleton]; congr 1 <;> omega)
      ·refine AO.read rfl gnone rfl hH78 sR (run_cut (hH78.sl (i := 2) rfl) underlying29 sizeOf39 rfl rfl (by omega)) <| AN.two 0 10 (by kernel_rfl) ?_ ?_
       ·refine AO.new rfl gnone rfl hH78 sR (f := fun b => .slice (some ⟨b, 0, none⟩) 0 0) (run_mkE underlying29 sizeOf39) <| fun b121 w119 hH120 => ?_
        (try simp only [clX] at hH120)
        have hH122 := hH120.blkRow 0 8 rfl (by decide)
        refine AN.two 8 10 (by kernel_rfl) ?_ ?_
        ·refine AO.app rfl gnone rfl hH122 (j := 0) rfl (fun _ => (sQ sR)) ((hH122.sl (i := 3) rfl).cut _ (by (have := (deep_pop hr h0 ‹k < _› hdp ‹¬ (List.getD l k.toNat ins0).op = 1› ‹¬ (List.getD l k.toNat ins0).op = 2›); omega))) rfl rfl underlying29 rfl rfl (size := 8) (bytes := 64) rfl rfl rfl (by decide) (fun u hu => els_one st u (List.mem_of_mem_take hu)) (by omega) (by simp only [maxLen]; omega) <| fun v125 w123 hH124 => ?_
         simp only [z2] at hH124
         refine A1 10 <| AO.new rfl gnone rfl hH124 (sQ sR) (f := fun b => .slice (some ⟨b, 0, none⟩) 1 1) (run_mkEl1 underlying29 rfl rfl rfl rfl) <| fun b128 w126 hH127 => ?_
         (try simp only [clX] at hH127)
         refine A1 11 <| AO.app rfl gnone rfl hH127 (j := 1) rfl (fun _ => (sQ (sQ sR))) (Hp.slFlat elL_len hH127 (i := 0) (l := [_]) rfl (by simp [maxLen])) rfl rfl underlying29 rfl rfl (size := 8) (bytes := 64) rfl rfl rfl (by decide) (els_one _) (by show (0 + ((st.length : Int) - (l.getD k.toNat ins0).n).toNat + 1) * _ ≤ _; omega) (by simp only [maxLen]; ((show 0 + ((st.length : Int) - (l.getD k.toNat ins0).n).toNat + 1 ≤ _; omega))) <| fun v131 w129 hH130 => ?_
         simp only [z2] at hH130
         refine AQ 12 rfl (hH130.sub (sQ (sQ sR))) (run_assign (by conv => lhs; whnf)) ?_
         refine AD <| CW.region <| vm e9_52 <| V (run_add rfl rfl (by omega)) <| aI rfl <| RL.nil <| have hH132 := Hp.swap (hH130.perm (((pC pR).trans pS).trans (pC pR))) (i := 3) (by simp only [List.length_cons]; omega); ?_
         simp only [z2] at hH132
         refine ⟨(k + 1, st.take ((st.length : Int) - (l.getD k.toNat ins0).n).toNat ++ [e1], v131), ?_, (((fr15.u4.u4.u4.u4.u4.u1.u1.u1).t fr52 rfl)).u4.u4.u4.u4.u4, (Hp.conv (hH132.sub (sQ (sQ (sQ sR)))) (by rw [flat_take elL_len, List.length_append, List.length_take, Nat.min_eq_left (by omega), List.flatMap_append, Nat.zero_add]; done)), rfl, (congrArg I (by rfl)), ?_, ?_, ?_, ?_⟩
         ·((try dsimp only); omega)
         ·omega
         ·omega
         ·(rw [he3]; exact ev_3i h0 ‹k < _› hst ‹¬ (List.getD l k.toNat ins0).op = 1› ‹¬ (List.getD l k.toNat ins0).op = 2› rfl (by have := (deep_pop hr h0 ‹k < _› hdp ‹¬ (List.getD l k.toNat ins0).op = 1› ‹¬ (List.getD l k.toNat ins0).op = 2›); omega))
         ·(have hq := (deep_pop hr h0 ‹k < _› hdp ‹¬ (List.getD l k.toNat ins0).op = 1› ‹¬ (List.getD l k.toNat ins0).op = 2›); rw [hq.2.2, List.length_append, List.length_take, List.length_singleton]; congr 1 <;> omega)
        ·refine AO.new rfl gnone rfl hH122 (sQ sR) (f := fun b => .slice (some ⟨b, 0, none⟩) 1 1) (run_mkEl1 underlying29 rfl rfl rfl rfl) <| fun b135 w133 hH134 => ?_
         (try simp only [clX] at hH134)
         refine A1 8 <| AO.app rfl gnone rfl hH134 (j := 1) rfl (fun _ => (sQ (sQ sR))) ((hH134.sl (i := 4) rfl).cut _ (by (have := (deep_pop hr h0 ‹k < _› hdp ‹¬ (List.getD l k.toNat ins0).op = 1› ‹¬ (List.getD l k.toNat ins0).op = 2›); omega))) rfl rfl underlying29 rfl rfl (size := 8) (bytes := 64) rfl rfl rfl (by decide) (fun u hu => els_one st u (List.mem_of_mem_take hu)) (by omega) (by simp only [maxLen]; omega) <| fun v138 w136 hH137 => ?_
         simp only [z2] at hH137
         refine A1 11 <| AO.app rfl gnone rfl hH137 (j := 1) rfl (fun _ => (sQ (sQ sR))) (Hp.slFlat elL_len hH137 (i := 0) (l := [_]) rfl (by simp [maxLen])) rfl rfl underlying29 rfl rfl (size := 8) (bytes := 64) rfl rfl rfl (by decide) (els_one _) (by show (0 + ((st.length : Int) - (l.getD k.toNat ins0).n).toNat + 1) * _ ≤ _; omega) (by simp only [maxLen]; ((show 0 + ((st.length : Int) - (l.getD k.toNat ins0).n).toNat + 1 ≤ _; omega))) <| fun v141 w139 hH140 => ?_
         simp only [z2] at hH140
         refine AQ 12 rfl (hH140.sub (sQ (sQ sR))) (run_assign (by conv => lhs; whnf)) ?_
         refine AD <| CW.region <| vm e9_52 <| V (run_add rfl rfl (by omega)) <| aI rfl <| RL.nil <| have hH142 := Hp.swap (hH140.perm (((pC pR).trans pS).trans (pC pR))) (i := 3) (by simp only [List.length_cons]; omega); ?_
         simp only [z2] at hH142
         refine ⟨(k + 1, st.take ((st.length : Int) - (l.getD k.toNat ins0).n).toNat ++ [e1], v141), ?_, (((fr15.u4.u4.u4.u4.u4.u1.u1.u1).t fr52 rfl)).u4.u4.u4.u4.u4, (Hp.conv (hH142.sub (sQ (sQ (sQ sR)))) (by rw [flat_take elL_len, List.length_append, List.length_take, Nat.min_eq_left (by omega), List.flatMap_append, Nat.zero_add]; rfl)), rfl, (congrArg I (by rfl)), ?_, ?_, ?_, ?_⟩
         ·((try dsimp only); omega)
         ·omega
         ·omega
         ·(rw [he3]; exact ev_3i h0 ‹k < _› hst ‹¬ (List.getD l k.toNat ins0).op = 1› ‹¬ (List.getD l k.toNat ins0).op = 2› rfl (by have := (deep_pop hr h0 ‹k < _› hdp ‹¬ (List.getD l k.toNat ins0).op = 1› ‹¬ (List.getD l k.toNat ins0).op = 2›); omega))
         ·(have hq := (deep_pop hr h0 ‹k < _› hdp ‹¬ (List.getD l k.toNat ins0).op = 1› ‹¬ (List.getD l k.toNat ins0).op = 2›); rw [hq.2.2, List.length_append, List.length_take, List.length_singleton]; congr 1 <;> omega)
       ·refine AO.new rfl gnone rfl hH78 sR (f := fun b => .slice (some ⟨b, 0, none⟩) 1 1) (run_mkEl1 underlying29 rfl rfl rfl rfl) <| fun b145 w143 hH144 => ?_
        (try simp only [clX] at hH144)
        refine A1 0 <| AO.new rfl gnone rfl hH144 (sQ sR) (f := fun b => .slice (some ⟨b, 0, none⟩) 0 0) (run_mkE underlying29 sizeOf39) <| fun b148 w146 hH147 => ?_
        (try simp only [clX] at hH147)
        have hH149 := hH147.blkRow 0 8 rfl (by decide)
        refine A1 8 <| AO.app rfl gnone rfl hH149 (j := 0) rfl (fun _ => (sQ (sQ sR))) ((hH149.sl (i := 4) rfl).cut _ (by (have := (deep_pop hr h0 ‹k < _› hdp ‹¬ (List.getD l k.toNat ins0).op = 1› ‹¬ (List.getD l k.toNat ins0).op = 2›); omega))) rfl rfl underlying29 rfl rfl (size := 8) (bytes := 64) rfl rfl rfl (by decide) (fun u hu => els_one st u (List.mem_of_mem_take hu)) (by omega) (by simp only [maxLen]; omega) <| fun v152 w150 hH151 => ?_
        simp only [z2] at hH151
        refine A1 11 <| AO.app rfl gnone rfl hH151 (j := 0) rfl (fun _ => (sQ (sQ sR))) (Hp.slFlat elL_len hH151 (i := 1) (l := [_]) rfl (by simp [maxLen])) rfl rfl underlying29 rfl rfl (size := 8) (bytes := 64) rfl rfl rfl (by decide) (els_one _) (by show (0 + ((st.length : Int) - (l.getD k.toNat ins0).n).toNat + 1) * _ ≤ _; omega) (by simp only [maxLen]; ((show 0 + ((st.length : Int) - (l.getD k.toNat ins0).n).toNat + 1 ≤ _; omega))) <| fun v155 w153 hH154 => ?_
        simp only [z2] at hH154
        refine AQ 12 rfl (hH154.sub (sQ (sQ sR))) (run_assign (by conv => lhs; whnf)) ?_
        refine AD <| CW.region <| vm e9_52 <| V (run_add rfl rfl (by omega)) <| aI rfl <| RL.nil <| have hH156 := Hp.swap hH154 (i := 3) (by simp only [List.length_cons]; omega); ?_
        simp only [z2] at hH156
        refine ⟨(k + 1, st.take ((st.length : Int) - (l.getD k.toNat ins0).n).toNat ++ [e1], v155), ?_, (((fr15.u4.u4.u4.u4.u4.u1.u1.u1).t fr52 rfl)).u4.u4.u4.u4.u4, (Hp.conv (hH156.sub (sQ (sQ (sQ sR)))) (by rw [flat_take elL_len, List.length_append, List.length_take, Nat.min_eq_left (by omega), List.flatMap_append, Nat.zero_add]; rfl)), rfl, (congrArg I (by rfl)), ?_, ?_, ?_, ?_⟩
        ·((try dsimp only); omega)
        ·omega
        ·omega
        ·(rw [he3]; exact ev_3i h0 ‹k < _› hst ‹¬ (List.getD l k.toNat ins0).op = 1› ‹¬ (List.getD l k.toNat ins0).op = 2› rfl (by have := (deep_pop hr h0 ‹k < _› hdp ‹¬ (List.getD l k.toNat ins0).op = 1› ‹¬ (List.getD l k.toNat ins0).op = 2›); omega))
        ·(have hq := (deep_pop hr h0 ‹k < _› hdp ‹¬ (List.getD l k.toNat ins0).op = 1› ‹¬ (List.getD l k.toNat ins0).op = 2›); rw [hq.2.2, List.length_append, List.length_take, List.length_singleton]; congr 1 <;> omega)
      ·refine AO.new rfl gnone rfl hH78 sR (f := fun b => .slice (some ⟨b, 0, none⟩) 1 1) (run_mkEl1 underlying29 rfl rfl rfl rfl) <| fun b159 w157 hH158 => ?_
       (try simp only [clX] at hH158)
       refine AN.two 0 7 (by kernel_rfl) ?_ ?_
       ·refine AO.new rfl gnone rfl hH158 (sQ sR) (f := fun b => .slice (some ⟨b, 0, none⟩) 0 0) (run_mkE underlying29 sizeOf39) <| fun b162 w160 hH161 => ?_
        (try simp only [clX] at hH161)
        have hH163 := hH161.blkRow 0 8 rfl (by decide)
        refine A1 7 <| AO.read rfl gnone rfl hH163 (sQ (sQ sR)) (run_cut (hH163.sl (i := 4) rfl) underlying29 sizeOf39 rfl rfl (by omega)) <| A1 8 <| AO.app rfl gnone rfl hH163 (j := 0) rfl (fun _ => (sQ (sQ sR))) ((hH163.sl (i := 4) rfl).cut _ (by (have := (deep_pop hr h0 ‹k < _› hdp ‹¬ (List.getD l k.toNat ins0).op = 1› ‹¬ (List.getD l k.toNat ins0).op = 2›); omega))) rfl rfl underlying29 rfl rfl (size := 8) (bytes := 64) rfl rfl rfl (by decide) (fun u hu => els_one st u (List.mem_of_mem_take hu)) (by omega) (by simp only [maxLen]; omega) <| fun v168 w166 hH167 => ?_
        simp only [z2] at hH167
        refine A1 11 <| AO.app rfl gnone rfl hH167 (j := 0) rfl (fun _ => (sQ (sQ sR))) (Hp.slFlat elL_len hH167 (i := 1) (l := [_]) rfl (by simp [maxLen])) rfl rfl underlying29 rfl rfl (size := 8) (bytes := 64) rfl rfl rfl (by decide) (els_one _) (by show (0 + ((st.length : Int) - (l.getD k.toNat ins0).n).toNat + 1) * _ ≤ _; omega) (by simp only [maxLen]; ((show 0 + ((st.length : Int) - (l.getD k.toNat ins0).n).toNat + 1 ≤ _; omega))) <| fun v171 w169 hH170 => ?_
        simp only [z2] at hH170
        refine AQ 12 rfl (hH170.sub (sQ (sQ sR))) (run_assign (by conv => lhs; whnf)) ?_
        refine AD <| CW.region <| vm e9_52 <| V (run_add rfl rfl (by omega)) <| aI rfl <| RL.nil <| have hH172 := Hp.swap hH170 (i := 3) (by simp only [List.length_cons]; omega); ?_
        simp only [z2] at hH172
        refine ⟨(k + 1, st.take ((st.length : Int) - (l.getD k.toNat ins0).n).toNat ++ [e1], v171), ?_, (((fr15.u4.u4.u4.u4.u4.u1.u1.u1).t fr52 rfl)).u4.u4.u4.u4.u4, (Hp.conv (hH172.sub (sQ (sQ (sQ sR)))) (by rw [flat_take elL_len, List.length_append, List.length_take, Nat.min_eq_left (by omega), List.flatMap_append, Nat.zero_add]; rfl)), rfl, (congrArg I (by rfl)), ?_, ?_, ?_, ?_⟩
        ·((try dsimp only); omega)
        ·omega
        ·omega
        ·(rw [he3]; exact ev_3i h0 ‹k < _› hst ‹¬ (List.getD l k.toNat ins0).op = 1› ‹¬ (List.getD l k.toNat ins0).op = 2› rfl (by have := (deep_pop hr h0 ‹k < _› hdp ‹¬ (List.getD l k.toNat ins0).op = 1› ‹¬ (List.getD l k.toNat ins0).op = 2›); omega))
        ·(have hq := (deep_pop hr h0 ‹k < _› hdp ‹¬ (List.getD l k.toNat ins0).op = 1› ‹¬ (List.getD l k.toNat ins0).op = 2›); rw [hq.2.2, List.length_append, List.length_take, List.length_singleton]; congr 1 <;> omega)
       ·refine AO.read rfl gnone rfl hH158 (sQ sR) (run_cut (hH158.sl (i := 3) rfl) underlying29 sizeOf39 rfl rfl (by omega)) <| A1 0 <| AO.new rfl gnone rfl hH158 (sQ sR) (f := fun b => .slice (some ⟨b, 0, none⟩) 0 0) (run_mkE underlying29 sizeOf39) <| fun b177 w175 hH176 => ?_
        (try simp only [clX] at hH176)
        have hH178 := hH176.blkRow 0 8 rfl (by decide)
        refine A1 8 <| AO.app rfl gnone rfl hH178 (j := 0) rfl (fun _ => (sQ (sQ sR))) ((hH178.sl (i := 4) rfl).cut _ (by (have := (deep_pop hr h0 ‹k < _› hdp ‹¬ (List.getD l k.toNat ins0).op = 1› ‹¬ (List.getD l k.toNat ins0).op = 2›); omega))) rfl rfl underlying29 rfl rfl (size := 8) (bytes := 64) rfl rfl rfl (by decide) (fun u hu => els_one st u (List.mem_of_mem_take hu)) (by omega) (by simp only [maxLen]; omega) <| fun v181 w179 hH180 => ?_
        simp only [z2] at hH180
        refine A1 11 <| AO.app rfl gnone rfl hH180 (j := 0) rfl (fun _ => (sQ (sQ sR))) (Hp.slFlat elL_len hH180 (i := 1) (l := [_]) rfl (by simp [maxLen])) rfl rfl underlying29 rfl rfl (size := 8) (bytes := 64) rfl rfl rfl (by decide) (els_one _) (by show (0 + ((st.length : Int) - (l.getD k.toNat ins0).n).toNat + 1) * _ ≤ _; omega) (by simp only [maxLen]; ((show 0 + ((st.length : Int) - (l.getD k.toNat ins0).n).toNat + 1 ≤ _; omega))) <| fun v184 w182 hH183 => ?_
        simp only [z2] at hH183
        refine AQ 12 rfl (hH183.sub (sQ (sQ sR))) (run_assign (by conv => lhs; whnf)) ?_
        refine AD <| CW.region <| vm e9_52 <| V (run_add rfl rfl (by omega)) <| aI rfl <| RL.nil <| have hH185 := Hp.swap hH183 (i := 3) (by simp only [List.length_cons]; omega); ?_
        simp only [z2] at hH185
        refine ⟨(k + 1, st.take ((st.length : Int) - (l.getD k.toNat ins0).n).toNat ++ [e1], v184), ?_, (((fr15.u4.u4.u4.u4.u4.u1.u1.u1).t fr52 rfl)).u4.u4.u4.u4.u4, (Hp.conv (hH185.sub (sQ (sQ (sQ sR)))) (by rw [flat_take elL_len, List.length_append, List.length_take, Nat.min_eq_left (by omega), List.flatMap_append, Nat.zero_add]; rfl)), rfl, (congrArg I (by rfl)), ?_, ?_, ?_, ?_⟩
        ·((try dsimp only); omega)
        ·omega
        ·omega
        ·(rw [he3]; exact ev_3i h0 ‹k < _› hst ‹¬ (List.getD l k.toNat ins0).op = 1› ‹¬ (List.getD l k.toNat ins0).op = 2› rfl (by have := (deep_pop hr h0 ‹k < _› hdp ‹¬ (List.getD l k.toNat ins0).op = 1› ‹¬ (List.getD l k.toNat ins0).op = 2›); omega))
        ·(have hq := (deep_pop hr h0 ‹k < _› hdp ‹¬ (List.getD l k.toNat ins0).op = 1› ‹¬ (List.getD l k.toNat ins0).op = 2›); rw [hq.2.2, List.length_append, List.length_take, List.length_singleton]; congr 1 <;> omega)
  ·refine CW.exit (id := 0) rfl <| SR <| vm e8_15 <| V (run_indexAddrS (hH15.sl (i := 0) rfl) underlying29 sizeOf39 rfl rfl (by have := deep_fin hr hk ‹¬ k < _› hdp; omega)) <| V (run_ldElS (hH15.sl (i := 0) rfl) underlying39 rfl rfl rfl (by have := deep_fin hr hk ‹¬ k < _› hdp; omega)) <| RL.set hH15 (i := 1) rfl (run_stEl rfl e6_15 rfl (hH15.blk (i := 1) rfl)) <| fun w186 hH187 => ?_
   simp only [z2] at hH187
   refine va (v := B true) rfl <| RL.nil <| CW.ret <| outCT Tryz.results28 e6_15 rfl hH187 (i := 1) rfl underlying39 rfl (by rw [elC_size]; rfl) ⟨?_, hH187.below⟩
   (rw [ev_end hr hk ‹¬ k < _› hst]; rfl)
theorem c_name_Sort_1 (b c d : Nat) (v : Value) (m : List Tx) (u : Value) (l : List Tx) (j i : Int) (hi : 0 ≤ i ∧ i < m.length) (hj : 0 ≤ j ∧ j < l.length) (w : World) (hs : Sl w v 1 m.length (txL m)) (ht : Sl w u 1 l.length (txL l)) (hb : w.heap[b]? = some (.cells #[v] 57 (0, 0))) (hc : w.heap[c]? = some (.cells #[u] 57 (0, 0))) (hd : w.heap[d]? = some (.cells #[I j] 3 (0, 0))) : Calls Tryz.prog 92 #[I i, .pointer (some ⟨b, 0, none⟩), .pointer (some ⟨c, 0, none⟩), .pointer (some ⟨d, 0, none⟩)] w (Pure (B (!lessT (m.getD i.toNat tx0) (l.getD j.toNat tx0))) w) := by
 have hm1 := hs.small
 have hm2 := ht.small
 unfold maxLen at hm1 hm2
 refine enter Tryz.func92 rfl Tryz.ntmps92 rfl <| have hH := Hp.start w; SR <| va (v := B false) rfl <| RL.nil <| CW.seq <| CW.regionD (by kernel_rfl) hH <| fun w1 hH2 => have zh2 := hH2.sub sR; AT 0 rfl zh2 (fun w hS => run_ld underlying57 rfl rfl (hS.extCell hb rfl)) <| AQ 1 rfl zh2 (mV (I _) rfl) <| AT 2 rfl zh2 (fun w hS => run_indexAddrS (hs.hp hS) underlying57 sizeOf9 rfl rfl (by omega)) <| AT 3 rfl zh2 (fun w hS => run_ld underlying9 rfl rfl ((hs.hp hS).cell _ _ (txL_at (by omega)))) <| AT 4 rfl zh2 (fun w hS => run_ld underlying57 rfl rfl (hS.extCell hc rfl)) <| AT 5 rfl zh2 (fun w hS => run_ld underlying3 rfl rfl (hS.extCell hd (v := I _) rfl)) <| AT 6 rfl zh2 (fun w hS => run_indexAddrS (ht.hp hS) underlying57 sizeOf9 rfl rfl (by omega)) <| AT 7 rfl zh2 (fun w hS => run_ld underlying9 rfl rfl ((ht.hp hS).cell _ _ (txL_at (by omega)))) <| AQ 8 rfl zh2 (run_geqS rfl rfl) <| AQ 9 rfl zh2 (aV (B _) rfl) <| AD <| CW.ret <| outP1 Tryz.results92 (congrArg B ?_) hH2.below
 rfl
theorem c_name_Sort (v : Value) (l : List Tx) (hl : l.length ≤ 3000) (w : World) (hs : Sl w v 1 l.length (txL l)) : Calls Tryz.prog 70 #[v] w (PureRow 9 1 (sortN l).length (txL (sortN l)) w) := by
 have hm := hs.small
 unfold maxLen at hm
 refine enter Tryz.func70 rfl Tryz.ntmps70 rfl <| have hH := Hp.start w; SR <| ?_
 refine RL.new rfl hH (f := fun b => (.pointer (some ⟨b, 0, none⟩))) (run_box (by conv => lhs; whnf)) ?_
 intro b3 w1 hH2
 rw [(one_sl hs).2] at hH2
 refine va (v := .slice none 0 0) rfl <| RL.nil <| SR <| RL.new rfl hH2 (f := fun b => (.pointer (some ⟨b, 0, none⟩))) (run_alloc Tryz.zeroValue57) <| fun b6 w4 hH5 => have hH7 := hH5.nilRow 9 1; RL.nil <| CW.seq <| SR <| V (run_ld underlying57 rfl rfl (hH7.cell (i := 2) rfl rfl)) <| V (run_lenSl (hs.hp hH7) rfl underlying57 rfl) <| vm (v := I 0) rfl <| RL.nil <| CW.block <| CW.loop (G := Int × Value × (List Tx)) (fun ⟨k, v0, m⟩ s' w' => (Fr (4 :: 5 :: (rg 8 44 [])) _ s') ∧ (Hp w w' (.row v0 9 1 (m.length) (txL m) :: .blk b6 (.cells (#[v0]) 57 (0, 0)) :: _)) ∧ (s' 8 = I k) ∧ (0 ≤ k) ∧ (k ≤ l.length) ∧ (m = sortN (l.take k.toNat)) ∧ ((m.length : Int) ≤ k)) (fun ⟨k, v0, m⟩ => (l.length - k).toNat) ((0, (.slice none 0 0 : Value), [])) ⟨Fr.refl _ _, hH7, rfl, (by omega), (by omega), rfl, (by simp)⟩ <| ?_
 rintro ⟨k, v0, m⟩ sg8 w8 ⟨fr8, hH8, e8_8, h0, hk, hm, hml⟩
 have e1_8 := fr8.pp 1 rfl rfl
 have e3_8 := fr8.pp 3 rfl rfl
 have e7_8 := fr8.ii 7 rfl rfl
 refine SR <| V (run_lss e8_8 e7_8) <| RL.nil <| CW.seq <| CW.condP rfl (fun h10 => ?_) (fun h10 => ?_)
 ·refine CW.skip <| CW.seq <| CW.block <| SR <| vm e8_8 <| RL.new rfl hH8 (f := fun b => (.pointer (some ⟨b, 0, none⟩))) (run_alloc Tryz.zeroValue3) <| fun b13 w11 hH12 => RL.set hH12 (i := 0) rfl (run_st rfl rfl (v := I _) rfl rfl rfl (hH12.blk (i := 0) rfl) (by decide)) <| fun w14 hH15 => ?_
  simp only [z2] at hH15
  refine RL.nil <| SR <| V (run_ld underlying57 rfl e3_8 (hH15.cell (i := 2) rfl rfl)) <| V (run_lenSl (hH15.sl (i := 1) rfl) rfl underlying57 rfl) <| ?_
  refine V (run_mkF3 e3_8 e1_8 (by conv => lhs; whnf)) ?_
  have hai : ¬ (findV (fun q => !lessT (m.getD q.toNat tx0) (l.getD k.toNat tx0)) m.length) < 0 → 0 ≤ (findV (fun q => !lessT (m.getD q.toNat tx0) (l.getD k.toNat tx0)) m.length) ∧ (findV (fun q => !lessT (m.getD q.toNat tx0) (l.getD k.toNat tx0)) m.length) < m.length := insAt_in
  refine RL.callP rfl hH15 (c_name_place m.length 92 [.pointer (some ⟨b6, 0, none⟩), .pointer (some ⟨b3, 0, none⟩), .pointer (some ⟨b13, 0, none⟩)] (fun q => !lessT (m.getD q.toNat tx0) (l.getD k.toNat tx0)) (by omega) _ call92 (fun i w h h0 h1 => c_name_Sort_1 b6 b3 b13 v0 m v l k i ⟨h0, h1⟩ ⟨by omega, by omega⟩ w ((hH15.sl (i := 1) rfl).below h) ((hs.hp hH15).below h) (keep h (hH15.blk (i := 2) rfl)) (keep h (hH15.blk (i := 3) rfl)) (keep h (hH15.blk (i := 0) rfl)))) (run_call3 call81 (show _ = I 0 from rfl) rfl rfl) <| fun w16 hH17 => aI rfl <| RL.nil <| CW.seq <| SR <| mI rfl <| V (run_lss rfl rfl) <| RL.nil <| CW.condP rfl (fun h19 => ?_) (fun h19 => ?_)
  ·refine CW.seq <| CW.regionS (by kernel_rfl) hH17 (sP (sQ (sQ sR))) <| fun w20 hH21 => have zh21 := hH21.sub (sP (sQ (sQ sR))); AT 1 rfl zh21 (fun w hS => run_ld underlying57 rfl e1_8 (hS.cell (i := 1) rfl rfl)) <| AT 2 rfl zh21 (fun w hS => run_ld underlying3 rfl rfl (hS.cell (i := 0) rfl (v := I _) rfl)) <| AT 3 rfl zh21 (fun w hS => run_indexAddrS (hs.hp hS) underlying57 sizeOf9 rfl rfl (by omega)) <| AT 4 rfl zh21 (fun w hS => run_ld underlying9 rfl rfl ((hs.hp hS).cell _ _ (txL_at (by omega)))) <| AN.two 0 5 (by kernel_rfl) ?_ ?_
   ·refine AO.read rfl gnone rfl hH21 (sP (sQ (sQ sR))) (run_ld underlying57 rfl e3_8 (hH21.cell (i := 2) rfl rfl)) <| A1 5 <| AO.new rfl gnone rfl hH21 (sP (sQ (sQ sR))) (f := fun b => .slice (some ⟨b, 0, none⟩) 1 1) (run_mkL underlying57 rfl rfl (sz := 1) (vs := [.string _]) rfl rfl (by decide) (by decide) rfl rfl) <| fun b26 w24 hH25 => ?_
    (try simp only [clX] at hH25)
    refine A1 6 <| AO.app rfl gnone rfl hH25 (j := 2) rfl (fun _ => (sQ (sP (sQ (sQ sR))))) (hH25.slBlk (i := 0) (n := 1) (sz := 1) rfl rfl (by decide)) rfl rfl underlying57 rfl rfl (size := 1) (bytes := 16) rfl rfl rfl (by decide) (by simp [Value.oneCell']) (by omega) (by simp only [maxLen]; omega) <| fun v29 w27 hH28 => ?_
    simp only [z2] at hH28
    refine A1 7 <| AO.set rfl gnone hH28 (j := 3) rfl (sQ (sP (sQ (sQ sR)))) (run_st rfl e3_8 (v := v29) rfl (row_cells (hH28.get (i := 2) rfl)).1 (row_cells (hH28.get (i := 2) rfl)).2 (hH28.blk (i := 3) rfl) (by simp)) <| fun w30 hH31 => ?_
    simp only [z2] at hH31
    refine AD <| CW.exit (id := 1) rfl <| CW.region <| V (run_add e8_8 rfl (by omega)) <| mI rfl <| RL.nil <| ?_
    refine ⟨(k + 1, v29, (m ++ [l.getD k.toNat tx0])), ?_, fr8.u4.u4.u4.u4.u1.u1.u1, (Hp.conv (hH31.sub (sQ (sQ sR))) (by simp [txL]; done)), (congrArg I (by rfl)), ?_, ?_, ?_, ?_⟩
    ·((try dsimp only); omega)
    ·omega
    ·omega
    ·rw [sort_next h0 ‹k < _›, ← hm]; exact (ins_1 ‹(findV (fun q => !lessT (m.getD q.toNat tx0) (l.getD k.toNat tx0)) m.length) < 0›).symm
    ·(simp only [List.length_append, List.length_singleton]; omega)
   ·refine AO.new rfl gnone rfl hH21 (sP (sQ (sQ sR))) (f := fun b => .slice (some ⟨b, 0, none⟩) 1 1) (run_mkL underlying57 rfl rfl (sz := 1) (vs := [.string _]) rfl rfl (by decide) (by decide) rfl rfl) <| fun b34 w32 hH33 => ?_
    (try simp only [clX] at hH33)
    refine A1 0 <| AO.read rfl gnone rfl hH33 (sQ (sP (sQ (sQ sR)))) (run_ld underlying57 rfl e3_8 (hH33.cell (i := 3) rfl rfl)) <| A1 6 <| AO.app rfl gnone rfl hH33 (j := 2) rfl (fun _ => (sQ (sP (sQ (sQ sR))))) (hH33.slBlk (i := 0) (n := 1) (sz := 1) rfl rfl (by decide)) rfl rfl underlying57 rfl rfl (size := 1) (bytes := 16) rfl rfl rfl (by decide) (by simp [Value.oneCell']) (by omega) (by simp only [maxLen]; omega) <| fun v39 w37 hH38 => ?_
    simp only [z2] at hH38
    refine A1 7 <| AO.set rfl gnone hH38 (j := 3) rfl (sQ (sP (sQ (sQ sR)))) (run_st rfl e3_8 (v := v39) rfl (row_cells (hH38.get (i := 2) rfl)).1 (row_cells (hH38.get (i := 2) rfl)).2 (hH38.blk (i := 3) rfl) (by simp)) <| fun w40 hH41 => ?_
    simp only [z2] at hH41
    refine AD <| CW.exit (id := 1) rfl <| CW.region <| V (run_add e8_8 rfl (by omega)) <| mI rfl <| RL.nil <| ?_
    refine ⟨(k + 1, v39, (m ++ [l.getD k.toNat tx0])), ?_, fr8.u4.u4.u4.u4.u1.u1.u1, (Hp.conv (hH41.sub (sQ (sQ sR))) (by simp [txL]; done)), (congrArg I (by rfl)), ?_, ?_, ?_, ?_⟩
    ·((try dsimp only); omega)
    ·omega
    ·omega
    ·rw [sort_next h0 ‹k < _›, ← hm]; exact (ins_1 ‹(findV (fun q => !lessT (m.getD q.toNat tx0) (l.getD k.toNat tx0)) m.length) < 0›).symm
    ·(simp only [List.length_append, List.length_singleton]; omega)
  ·refine CW.skip <| CW.seq <| CW.regionD (by kernel_rfl) hH17 <| fun w42 hH43 => have zh43 := hH43.sub sR; AT 0 rfl zh43 (fun w hS => run_ld underlying57 rfl e3_8 (hS.cell (i := 2) rfl rfl)) <| AQ 1 rfl zh43 (mV (I _) rfl) <| AT 2 rfl zh43 (fun w hS => run_indexAddrS (hS.sl (i := 1) rfl) underlying57 sizeOf9 rfl rfl (by omega)) <| AT 3 rfl zh43 (fun w hS => run_ld underlying9 rfl rfl ((hS.sl (i := 1) rfl).cell _ _ (txL_at (by omega)))) <| AT 4 rfl zh43 (fun w hS => run_ld underlying57 rfl e1_8 (hS.cell (i := 3) rfl rfl)) <| AT 5 rfl zh43 (fun w hS => run_ld underlying3 rfl rfl (hS.cell (i := 0) rfl (v := I _) rfl)) <| AT 6 rfl zh43 (fun w hS => run_indexAddrS (hs.hp hS) underlying57 sizeOf9 rfl rfl (by omega)) <| AT 7 rfl zh43 (fun w hS => run_ld underlying9 rfl rfl ((hs.hp hS).cell _ _ (txL_at (by omega)))) <| AQ 8 rfl zh43 (run_neqS rfl rfl) <| AD <| CW.condP rfl (fun h45 => ?_) (fun h45 => ?_)
   ·refine SR <| V (run_ld underlying57 rfl e3_8 (hH43.cell (i := 2) rfl rfl)) <| RL.new rfl hH43 (f := fun b => (.slice (some ⟨b, 0, none⟩) 1 1)) (run_mkL underlying57 rfl rfl (sz := 1) (vs := [.string ⟨#[]⟩]) rfl rfl (by decide) (by decide) rfl rfl) <| fun b48 w46 hH47 => ?_
    (try simp only [clX] at hH47)
    refine RL.app rfl hH47 (i := 2) rfl (hH47.slBlk (i := 0) (n := 1) (sz := 1) rfl rfl (by decide)) rfl rfl underlying57 rfl rfl (size := 1) (bytes := 16) rfl rfl rfl (by decide) (by simp [Value.oneCell']) (by omega) (by simp only [maxLen]; omega) <| fun v49 w50 hH51 => ?_
    simp only [z2] at hH51
    refine RL.set hH51 (i := 3) rfl (run_st rfl e3_8 (by conv => lhs; whnf) (row_cells (hH51.get (i := 2) rfl)).1 (row_cells (hH51.get (i := 2) rfl)).2 (hH51.blk (i := 3) rfl) (by simp)) ?_
    intro w52 hH53
    simp only [z2] at hH53
    refine RL.nil <| CW.seq <| CW.regionS (by kernel_rfl) hH53 (sP (sP (sQ sR))) <| fun w54 hH55 => have zh55 := hH55.sub (sP (sP (sQ sR))); AT 0 rfl zh55 (fun w hS => run_ld underlying57 rfl e3_8 (hS.cell (i := 2) rfl rfl)) <| AQ 1 rfl zh55 (mV (I _) rfl) <| AQ 2 rfl zh55 (run_add rfl rfl (by omega)) <| AT 4 rfl zh55 (fun w hS => run_ld underlying57 rfl e3_8 (hS.cell (i := 2) rfl rfl)) <| AQ 5 rfl zh55 (mV (I _) rfl) <| AN.two 3 6 (by kernel_rfl) ?_ ?_
    ·refine AO.read rfl gnone rfl hH55 (sP (sP (sQ sR))) (run_from (hH55.sl (i := 2) rfl) underlying57 sizeOf9 rfl rfl (by omega)) <| A1 6 <| AO.read rfl gnone rfl hH55 (sP (sP (sQ sR))) (run_from (hH55.sl (i := 2) rfl) underlying57 sizeOf9 rfl rfl (by omega)) <| A1 7 <| AO.rowcopy rfl gnone rfl (row_copyF (c := m.length - ((findV (fun q => !lessT (m.getD q.toNat tx0) (l.getD k.toNat tx0)) m.length)).toNat) (o := ((findV (fun q => !lessT (m.getD q.toNat tx0) (l.getD k.toNat tx0)) m.length) + 1).toNat) hH55 (i := 2) rfl (by omega) underlying57 rfl rfl rfl (Sl.fr (hH55.sl (i := 2) rfl) ((findV (fun q => !lessT (m.getD q.toNat tx0) (l.getD k.toNat tx0)) m.length)).toNat (by omega)) (by show min _ _ = _; omega) (by omega) (fun u hu => txs_one (List.mem_of_mem_drop hu))) (fun w' h => h.sub (sP (sP (sQ sR)))) <| fun w62 hH63 => ?_
     simp only [z2] at hH63
     refine AD <| CW.regionS (by kernel_rfl) hH63 (sP (sP (sQ sR))) <| fun w64 hH65 => have zh65 := hH65.sub (sP (sP (sQ sR))); AT 0 rfl zh65 (fun w hS => run_ld underlying57 rfl e3_8 (hS.cell (i := 2) rfl rfl)) <| AQ 1 rfl zh65 (mV (I _) rfl) <| AT 2 rfl zh65 (fun w hS => run_ld underlying57 rfl e1_8 (hS.cell (i := 3) rfl rfl)) <| AT 3 rfl zh65 (fun w hS => run_ld underlying3 rfl rfl (hS.cell (i := 1) rfl (v := I _) rfl)) <| AT 4 rfl zh65 (fun w hS => run_indexAddrS (hs.hp hS) underlying57 sizeOf9 rfl rfl (by omega)) <| AT 5 rfl zh65 (fun w hS => run_ld underlying9 rfl rfl ((hs.hp hS).cell _ _ (txL_at (by omega)))) <| A1 6 <| AO.read rfl gnone rfl hH65 (sP (sP (sQ sR))) (run_indexAddrS (hH65.sl (i := 2) rfl) underlying57 sizeOf9 rfl rfl (by omega)) <| A1 7 <| AO.rowst1 rfl gnone hH65 (i := 2) rfl (fun _ => (sP (sP (sQ sR)))) (by omega) rfl (u := S _) rfl rfl rfl rfl (by omega) <| fun w70 hH71 => ?_
     simp only [z2] at hH71
     refine AD <| CW.region <| V (run_add e8_8 rfl (by omega)) <| mI rfl <| RL.nil <| ?_
     refine ⟨(k + 1, v49, (m.take (findV (fun q => !lessT (m.getD q.toNat tx0) (l.getD k.toNat tx0)) m.length).toNat ++ l.getD k.toNat tx0 :: m.drop (findV (fun q => !lessT (m.getD q.toNat tx0) (l.getD k.toNat tx0)) m.length).toNat)), ?_, fr8.u4.u4.u4.u4.u4.u4.u4.u4.u4.u1.u1.u1, (Hp.conv (hH71.sub (sQ (sQ sR))) (by rw [sort_put (hai ‹_›).1 (hai ‹_›).2]; simp; omega)), (congrArg I (by rfl)), ?_, ?_, ?_, ?_⟩
     ·((try dsimp only); omega)
     ·omega
     ·omega
     ·rw [sort_next h0 ‹k < _›, ← hm]; exact (ins_3 ‹¬ (findV (fun q => !lessT (m.getD q.toNat tx0) (l.getD k.toNat tx0)) m.length) < 0› ‹¬ _ = _›).symm
     ·(simp; omega)
    ·refine AO.read rfl gnone rfl hH55 (sP (sP (sQ sR))) (run_from (hH55.sl (i := 2) rfl) underlying57 sizeOf9 rfl rfl (by omega)) <| A1 3 <| AO.read rfl gnone rfl hH55 (sP (sP (sQ sR))) (run_from (hH55.sl (i := 2) rfl) underlying57 sizeOf9 rfl rfl (by omega)) <| A1 7 <| AO.rowcopy rfl gnone rfl (row_copyF (c := m.length - ((findV (fun q => !lessT (m.getD q.toNat tx0) (l.getD k.toNat tx0)) m.length)).toNat) (o := ((findV (fun q => !lessT (m.getD q.toNat tx0) (l.getD k.toNat tx0)) m.length) + 1).toNat) hH55 (i := 2) rfl (by omega) underlying57 rfl rfl rfl (Sl.fr (hH55.sl (i := 2) rfl) ((findV (fun q => !lessT (m.getD q.toNat tx0) (l.getD k.toNat tx0)) m.length)).toNat (by omega)) (by show min _ _ = _; omega) (by omega) (fun u hu => txs_one (List.mem_of_mem_drop hu))) (fun w' h => h.sub (sP (sP (sQ sR)))) <| fun w78 hH79 => ?_
     simp only [z2] at hH79
     refine AD <| CW.regionS (by kernel_rfl) hH79 (sP (sP (sQ sR))) <| fun w80 hH81 => have zh81 := hH81.sub (sP (sP (sQ sR))); AT 0 rfl zh81 (fun w hS => run_ld underlying57 rfl e3_8 (hS.cell (i := 2) rfl rfl)) <| AQ 1 rfl zh81 (mV (I _) rfl) <| AT 2 rfl zh81 (fun w hS => run_ld underlying57 rfl e1_8 (hS.cell (i := 3) rfl rfl)) <| AT 3 rfl zh81 (fun w hS => run_ld underlying3 rfl rfl (hS.cell (i := 1) rfl (v := I _) rfl)) <| AT 4 rfl zh81 (fun w hS => run_indexAddrS (hs.hp hS) underlying57 sizeOf9 rfl rfl (by omega)) <| AT 5 rfl zh81 (fun w hS => run_ld underlying9 rfl rfl ((hs.hp hS).cell _ _ (txL_at (by omega)))) <| A1 6 <| AO.read rfl gnone rfl hH81 (sP (sP (sQ sR))) (run_indexAddrS (hH81.sl (i := 2) rfl) underlying57 sizeOf9 rfl rfl (by omega)) <| A1 7 <| AO.rowst1 rfl gnone hH81 (i := 2) rfl (fun _ => (sP (sP (sQ sR)))) (by omega) rfl (u := S _) rfl rfl rfl rfl (by omega) <| fun w86 hH87 => ?_
     simp only [z2] at hH87
     refine AD <| CW.region <| V (run_add e8_8 rfl (by omega)) <| mI rfl <| RL.nil <| ?_
     refine ⟨(k + 1, v49, (m.take (findV (fun q => !lessT (m.getD q.toNat tx0) (l.getD k.toNat tx0)) m.length).toNat ++ l.getD k.toNat tx0 :: m.drop (findV (fun q => !lessT (m.getD q.toNat tx0) (l.getD k.toNat tx0)) m.length).toNat)), ?_, fr8.u4.u4.u4.u4.u4.u4.u4.u4.u4.u1.u1.u1, (Hp.conv (hH87.sub (sQ (sQ sR))) (by rw [sort_put (hai ‹_›).1 (hai ‹_›).2]; simp; omega)), (congrArg I (by rfl)), ?_, ?_, ?_, ?_⟩
     ·((try dsimp only); omega)
     ·omega
     ·omega
     ·rw [sort_next h0 ‹k < _›, ← hm]; exact (ins_3 ‹¬ (findV (fun q => !lessT (m.getD q.toNat tx0) (l.getD k.toNat tx0)) m.length) < 0› ‹¬ _ = _›).symm
     ·(simp; omega)
   ·refine CW.skip <| CW.region <| V (run_add e8_8 rfl (by omega)) <| mI rfl <| RL.nil <| ?_
    refine ⟨(k + 1, v0, m), ?_, fr8.u4.u4.u4.u4.u4.u1, (Hp.conv (hH43.sub (sQ sR)) (by rfl)), (congrArg I (by rfl)), ?_, ?_, ?_, ?_⟩
    ·((try dsimp only); omega)
    ·omega
    ·omega
    ·rw [sort_next h0 ‹k < _›, ← hm]; exact (ins_2 ‹¬ (findV (fun q => !lessT (m.getD q.toNat tx0) (l.getD k.toNat tx0)) m.length) < 0› (Decidable.of_not_not ‹¬ ¬ _›)).symm
    ·omega
 ·refine CW.exit (id := 0) rfl <| SR <| V (run_ld underlying57 rfl e3_8 (hH8.cell (i := 1) rfl rfl)) <| ?_
  refine V (run_assign (by conv => lhs; whnf)) ?_
  refine RL.nil <| CW.ret <| outR Tryz.results70 rfl hH8 (i := 0) rfl ((by rw [hm, List.take_of_length_le (by omega)])) ((by rw [hm, List.take_of_length_le (by omega)]))
theorem c_holds_gathered_1 (W0 : World) (L : List Ent) (b c bm : Nat) (kv : List (Tx × El)) (es : Array MapEntry) (ck : Nat) (o : Bool) (f : Tx) (e : El) (is : Bool) (hm : MpIs es ck kv) (w : World) (hH : Hp W0 w (.blk bm (.map es ck) :: .blk c (.cells #[B o] 4 (0, 0)) :: .blk b (.cells #[.map (some bm)] 106 (0, 0)) :: L)) : Calls Tryz.prog 91 #[S f, .agg (elC e), B is, .pointer (some ⟨b, 0, none⟩), .pointer (some ⟨c, 0, none⟩)] w (Ret fun u w' => u = .tuple #[] ∧ ∃ es' ck', MpIs es' ck' (putK kv f e) ∧ Hp W0 w' (.blk bm (.map es' ck') :: .blk c (.cells #[B (o && is && !(lookK kv f).2)] 4 (0, 0)) :: .blk b (.cells #[.map (some bm)] 106 (0, 0)) :: L)) := by
 refine enter Tryz.func91 rfl Tryz.ntmps91 rfl <| SR <| RL.new rfl hH (f := fun b => (.pointer (some ⟨b, 0, none⟩))) (run_box (v := .agg _) rfl) <| fun b4 w2 hH3 => RL.nil <| SR <| V (run_ld underlying106 rfl rfl (hH3.cell (i := 3) rfl rfl)) <| vm (v := .string _) rfl <| V (run_lookup2 underlying106 underlying9 zero_el rfl rfl (hH3.blk (i := 1) rfl) hm) <| ?_
 refine V (run_move (by conv => lhs; whnf)) ?_
 refine V (run_extract rfl (v := .agg _) rfl) <| V (run_extract rfl (v := B _) rfl) <| RL.new rfl hH3 (f := fun b => (.pointer (some ⟨b, 0, none⟩))) (run_alloc zero_el) <| fun b8 w6 hH7 => RL.set hH7 (i := 0) rfl (run_stEl rfl rfl rfl (hH7.blk (i := 0) rfl)) <| fun w9 hH10 => ?_
 simp only [z2] at hH10
 refine aB rfl <| RL.nil <| SR <| V (run_ld underlying4 rfl rfl (hH10.cell (i := 3) rfl (v := B _) rfl)) <| mB rfl <| RL.split (dj := 17) rfl (fun h12 => ?_) (fun h12 => ?_)
 ·refine gT rfl (bR (c := true) h12) <| mB rfl <| V (run_pickT (bR (c := true) h12) (v := B _) rfl) <| mB rfl <| RL.split (dj := 20) rfl (fun h13 => ?_) (fun h13 => ?_)
  ·refine gT rfl (bR (c := true) h13) <| mB rfl <| gT rfl (bR (c := true) h13) <| V (run_not rfl) <| V (run_pickT (bR (c := true) h13) (v := B _) rfl) <| RL.set hH10 (i := 3) rfl (run_st rfl rfl (v := B _) rfl rfl rfl (hH10.blk (i := 3) rfl) (by simp)) <| fun w14 hH15 => ?_
   simp only [z2] at hH15
   refine RL.nil <| CW.region <| V (run_ld underlying106 rfl rfl (hH15.cell (i := 4) rfl rfl)) <| vm (v := .string _) rfl <| V (run_ldEl underlying39 rfl rfl rfl (hH15.blk (i := 1) rfl)) <| RL.mapUp hH15 (i := 2) rfl hm underlying106 underlying9 rfl rfl rfl <| fun w16 es18 ck19 hmp20 hH17 => ?_
   simp only [z2] at hH17
   refine RL.nil <| out0 Tryz.results91 ⟨rfl, es18, ck19, hmp20, Hp.conv (hH17.sub (sQ (sQ sR))) ?_⟩
   (rw [‹o = true›, ‹is = true›]; rfl)
  ·refine gF rfl (bR (c := false) h13) <| gF rfl (bR (c := false) h13) <| V (run_pickF (bR (c := false) h13) (v := B false) rfl) <| RL.set hH10 (i := 3) rfl (run_st rfl rfl (v := B _) rfl rfl rfl (hH10.blk (i := 3) rfl) (by simp)) <| fun w21 hH22 => ?_
   simp only [z2] at hH22
   refine RL.nil <| CW.region <| V (run_ld underlying106 rfl rfl (hH22.cell (i := 4) rfl rfl)) <| vm (v := .string _) rfl <| V (run_ldEl underlying39 rfl rfl rfl (hH22.blk (i := 1) rfl)) <| RL.mapUp hH22 (i := 2) rfl hm underlying106 underlying9 rfl rfl rfl <| fun w23 es25 ck26 hmp27 hH24 => ?_
   simp only [z2] at hH24
   refine RL.nil <| out0 Tryz.results91 ⟨rfl, es25, ck26, hmp27, Hp.conv (hH24.sub (sQ (sQ sR))) ?_⟩
   (rw [‹o = true›, ‹is = false›]; rfl)
 ·refine gF rfl (bR (c := false) h12) <| V (run_pickF (bR (c := false) h12) (v := B false) rfl) <| mB rfl <| gF rfl rfl <| gF rfl rfl <| V (run_pickF rfl (v := B false) rfl) <| RL.set hH10 (i := 3) rfl (run_st rfl rfl (v := B _) rfl rfl rfl (hH10.blk (i := 3) rfl) (by simp)) <| fun w28 hH29 => ?_
  simp only [z2] at hH29
  refine RL.nil <| CW.region <| V (run_ld underlying106 rfl rfl (hH29.cell (i := 4) rfl rfl)) <| vm (v := .string _) rfl <| V (run_ldEl underlying39 rfl rfl rfl (hH29.blk (i := 1) rfl)) <| RL.mapUp hH29 (i := 2) rfl hm underlying106 underlying9 rfl rfl rfl <| fun w30 es32 ck33 hmp34 hH31 => ?_
  simp only [z2] at hH31
  refine RL.nil <| out0 Tryz.results91 ⟨rfl, es32, ck33, hmp34, Hp.conv (hH31.sub (sQ (sQ sR))) ?_⟩
  (rw [‹o = false›]; rfl)
theorem c_holds_gathered (r : RowR) (a : Asg) (w : World) (hr : RowV (Kw w) r) (ha : AsgV (Kw w) a) : Calls Tryz.prog 69 #[.agg (rtmL r).toArray, .agg (asgL a).toArray] w (Ret fun u w' => ∃ (bm : Nat) (es : Array MapEntry) (ck : Nat) (kv : List (Tx × El)) (o : Bool), u = .tuple #[.map (some bm), B o] ∧ (o = (allOk a.as r && onceV (allV a.as r)) ∧ (o = true → kv = (allV a.as r).map pairV)) ∧ MpIs es ck kv ∧ Hp w w' [.blk bm (.map es ck)]) := by
 have hm1 := ha.labels.small
 have hm2 := ha.rows.small
 have hm3 := hr.fields.small
 unfold maxLen at hm1 hm2 hm3
 refine enter Tryz.func69 rfl Tryz.ntmps69 rfl <| have hH := Hp.start w; SR <| RL.new rfl hH (f := fun b => (.pointer (some ⟨b, 0, none⟩))) (run_box (v := .agg _) rfl) <| fun b3 w1 hH2 => RL.new rfl hH2 (f := fun b => (.pointer (some ⟨b, 0, none⟩))) (run_box (v := .agg _) rfl) <| fun b6 w4 hH5 => va (v := .map none) rfl <| va (v := B false) rfl <| RL.nil <| SR <| RL.new rfl hH5 (f := fun b => .map (some b)) run_makeMap <| fun b7 w8 hH9 => RL.new rfl hH9 (f := fun b => (.pointer (some ⟨b, 0, none⟩))) (run_alloc Tryz.zeroValue106) <| fun b12 w10 hH11 => ?_
 refine RL.set hH11 (i := 0) rfl (run_st rfl rfl (by conv => lhs; whnf) rfl rfl (hH11.blk (i := 0) rfl) (by decide)) ?_
 intro w13 hH14
 simp only [z2] at hH14
 refine RL.nil <| SR <| V (fA underlying44 1 rfl sizeOf3 rfl) <| V (run_ld underlying3 rfl rfl (hH14.cell (i := 3) rfl (v := I _) rfl)) <| V (fA underlying32 1 rfl sizeOf30 rfl) <| V (run_ldV (ha.rows.sl.hp hH14) underlying30 rfl rfl (hH14.cell (i := 2) rfl rfl)) <| V (run_lenSl (ha.rows.sl.hp hH14) rfl underlying30 rfl) <| V (run_lss rfl rfl) <| RL.new rfl hH14 (f := fun b => (.pointer (some ⟨b, 0, none⟩))) (run_alloc Tryz.zeroValue4) <| fun b18 w16 hH17 => RL.set hH17 (i := 0) rfl (run_st rfl rfl (v := B _) rfl rfl rfl (hH17.blk (i := 0) rfl) (by decide)) <| fun w19 hH20 => ?_
 simp only [z2] at hH20
 refine RL.nil <| SR <| ?_
 refine V (run_mkF2 (by conv => lhs; whnf) (by conv => lhs; whnf)) ?_
 refine va (v := .func _ _ _) rfl <| RL.nil <| CW.seq <| SR <| V (run_ld underlying4 rfl rfl (hH20.cell (i := 0) rfl (v := B _) rfl)) <| mB rfl <| RL.splitP (dj := 24) rfl (fun h23 => ?_) (fun h23 => ?_)
 ·refine gT rfl (bT h23) <| V (fA underlying44 1 rfl sizeOf3 rfl) <| gT rfl (bT h23) <| V (run_ld underlying3 rfl rfl (hH20.cell (i := 4) rfl (v := I _) rfl)) <| gT rfl (bT h23) <| V (run_geq rfl rfl) <| V (run_pickT (bT h23) (v := B _) rfl) <| RL.nil <| CW.condP rfl (fun h25 => ?_) (fun h25 => ?_)
  ·refine SR <| V (fA underlying32 1 rfl sizeOf30 rfl) <| V (run_ldV (ha.rows.sl.hp hH20) underlying30 rfl rfl (hH20.cell (i := 3) rfl rfl)) <| V (fA underlying44 1 rfl sizeOf3 rfl) <| V (run_ld underlying3 rfl rfl (hH20.cell (i := 4) rfl (v := I _) rfl)) <| V (run_indexAddrS (ha.rows.sl.hp hH20) underlying30 sizeOf54 rfl rfl (by omega)) <| V (run_ld underlying54 rfl rfl ((ha.rows.sl.hp hH20).cell _ _ (rowsC_at (by omega)))) <| V (run_lenSl ((ha.at (by omega) (by omega)).sl.hp hH20) rfl underlying54 rfl) <| vm (v := I 0) rfl <| RL.nil <| CW.block <| have hm4 := (ha.at (show 0 ≤ r.tail by omega) (by omega)).small; ?_
   unfold maxLen at hm4
   refine CW.loop (G := Int × (Array MapEntry) × Nat × (List (Tx × El)) × Bool) (fun ⟨k, es, ck, kv, o⟩ s' w' => (Fr (10 :: (rg 36 11 [])) _ s') ∧ (Hp w w' (.blk b18 (.cells (#[B o]) 4 (0, 0)) :: _ :: .blk b7 (.map es ck) :: _)) ∧ (s' 36 = I k) ∧ (0 ≤ k) ∧ (k ≤ (a.rows.getD r.tail.toNat vr0).l.length) ∧ (MpIs es ck kv) ∧ (GSt ((a.rows.getD r.tail.toNat vr0).l.take k.toNat) true o kv)) (fun ⟨k, es, ck, kv, o⟩ => ((a.rows.getD r.tail.toNat vr0).l.length - k).toNat) ((0, #[], 0, [], (decide (r.tail < (a.rows.length : Int))))) ⟨Fr.refl _ _, hH20, rfl, (by omega), (by omega), mp_nil, (by rw [decide_eq_true (show r.tail < (a.rows.length : Int) by omega)]; exact gst_0 true)⟩ ?_
   rintro ⟨k, es, ck, kv, o⟩ sg26 w26 ⟨fr26, hH26, e36_26, h0, hk, hmp, hg⟩
   have e2_26 := fr26.pp 2 rfl rfl
   have e3_26 := fr26.pp 3 rfl rfl
   have e4_26 := (fr26 4 rfl).trans (by conv => lhs; whnf)
   have e5_26 := fr26.bb 5 rfl rfl
   have e6_26 := fr26.pp 6 rfl rfl
   have e7_26 := fr26.pp 7 rfl rfl
   have e8_26 := fr26.vv 8 (a := .func _ _ _) rfl rfl
   have e34_26 := (fr26 34 rfl).trans (by conv => lhs; whnf)
   have e35_26 := fr26.ii 35 rfl rfl
   refine SR <| V (run_lss e36_26 e35_26) <| RL.nil <| CW.seq <| CW.condP rfl (fun h28 => ?_) (fun h28 => ?_)
   ·refine CW.skip <| CW.seq <| CW.block <| SR <| V (run_indexAddrS ((ha.at (by omega) (by omega)).sl.hp hH26) underlying54 sizeOf56 e34_26 e36_26 (by omega)) <| V (run_ldE (dv := val0) valL_len ((ha.at (by omega) (by omega)).sl.hp hH26) underlying56 rfl rfl rfl (by omega)) <| RL.new rfl hH26 (f := fun b => (.pointer (some ⟨b, 0, none⟩))) (run_alloc zero_val) <| fun b31 w29 hH30 => RL.set hH30 (i := 0) rfl (run_stW (c' := (valL _).toArray) rfl rfl rfl (valL_one _) (hH30.blk (i := 0) rfl) rfl) <| fun w32 hH33 => ?_
    simp only [z2] at hH33
    refine RL.nil <| CW.region <| vm e8_26 <| V (fA underlying56 0 rfl sizeOf9 rfl) <| V (run_ld underlying9 rfl rfl (hH33.cell (i := 0) rfl (v := .string _) rfl)) <| V (fA underlying56 1 rfl sizeOf39 rfl) <| V (run_ldVB underlying39 rfl rfl rfl (hH33.blk (i := 0) rfl)) <| RL.callT rfl (c_holds_gathered_1 _ _ b12 b18 b7 kv es ck o _ _ _ hmp _ (hH33.perm (((pC ((pC ((pC pR).trans pS)).trans pS)).trans pS).trans (pC (((pC pR).trans pS).trans (pC (((pC pR).trans pS).trans (pC pR)))))))) (run_callC3 call91 (cs := [.pointer (some ⟨b12, 0, none⟩), .pointer (some ⟨b18, 0, none⟩)]) rfl rfl rfl (show _ = B true from rfl)) <| ?_
    rintro _ w36 ⟨rfl, es38, ck39, hmp40, hH37⟩
    have hH41 := hH37.perm (((pC ((pC ((pC pR).trans pS)).trans pS)).trans pS).trans (pC (((pC pR).trans pS).trans (pC (((pC pR).trans pS).trans (pC pR))))))
    refine RL.nil <| CW.region <| V (run_add e36_26 rfl (by omega)) <| mI rfl <| RL.nil <| ?_
    refine ⟨(k + 1, es38, ck39, (putK kv ((a.rows.getD r.tail.toNat vr0).l.getD k.toNat val0).name ((a.rows.getD r.tail.toNat vr0).l.getD k.toNat val0).el), (o && true && !(lookK kv ((a.rows.getD r.tail.toNat vr0).l.getD k.toNat val0).name).2)), ?_, fr26.u4.u4.u4, (Hp.conv (hH41.sub (sQ sR)) (by rfl)), (congrArg I (by rfl)), ?_, ?_, ?_, ?_⟩
    ·((try dsimp only); omega)
    ·omega
    ·omega
    ·exact hmp40
    ·rw [take_snoc (d := val0) h0 ‹k < _›]; exact gst_next hg
   ·refine CW.exit (id := 0) rfl <| CW.seq <| SR <| V (fA underlying44 0 rfl sizeOf42 e2_26) <| V (run_ldV (hr.fields.sl.hp hH26) underlying42 rfl rfl (hH26.cell (i := 4) rfl rfl)) <| V (run_lenSl (hr.fields.sl.hp hH26) rfl underlying42 rfl) <| vm (v := I 0) rfl <| RL.nil <| CW.block <| CW.loop (G := Int × (Array MapEntry) × Nat × (List (Tx × El)) × Bool) (fun ⟨j, es, ck, kv, o⟩ s' w' => (Fr (rg 12 3 (rg 50 18 [])) _ s') ∧ (Hp w w' (.blk b18 (.cells (#[B o]) 4 (0, 0)) :: _ :: .blk b7 (.map es ck) :: _)) ∧ (s' 50 = I j) ∧ (0 ≤ j) ∧ (j ≤ r.fields.length) ∧ (MpIs es ck kv) ∧ (GSt (preV a.as r ++ (r.fields.take j.toNat).map (valF a.as)) (decide (r.tail < (a.as.rows.length : Int)) && (r.fields.take j.toNat).all fun f => (atomF a.as f.at_).2) o kv)) (fun ⟨j, es, ck, kv, o⟩ => (r.fields.length - j).toNat) ((0, es, ck, kv, o)) ⟨Fr.refl _ _, hH26, rfl, (by omega), (by omega), hmp, (by exact gst_i1 hg (pre_1a (by omega) (by omega) ‹¬ k < _›) (by omega))⟩ <| ?_
    rintro ⟨j, es, ck, kv, o⟩ sg42 w42 ⟨fr42, hH42, e50_42, j0, jk, hmp, hg⟩
    have e3_42 := (fr42 3 rfl).trans e3_26
    have e6_42 := (fr42 6 rfl).trans e6_26
    have e7_42 := (fr42 7 rfl).trans e7_26
    have e8_42 := (fr42 8 rfl).trans e8_26
    have e48_42 := (fr42 48 rfl).trans (by conv => lhs; whnf)
    have e49_42 := fr42.ii 49 rfl rfl
    refine SR <| V (run_lss e50_42 e49_42) <| RL.nil <| CW.seq <| CW.condP rfl (fun h44 => ?_) (fun h44 => ?_)
    ·refine CW.skip <| CW.seq <| CW.block <| SR <| V (run_indexAddrS (hr.fields.sl.hp hH42) underlying42 sizeOf71 e48_42 e50_42 (by omega)) <| V (run_ldE (dv := field0) fieldL_len (hr.fields.sl.hp hH42) underlying71 rfl rfl rfl (by omega)) <| RL.new rfl hH42 (f := fun b => (.pointer (some ⟨b, 0, none⟩))) (run_alloc zero_field) <| fun b47 w45 hH46 => RL.set hH46 (i := 0) rfl (run_stW (c' := (fieldL _).toArray) rfl rfl rfl (fieldL_one _) (hH46.blk (i := 0) rfl) rfl) <| fun w48 hH49 => ?_
     simp only [z2] at hH49
     refine RL.nil <| SR <| V (fA underlying71 1 rfl sizeOf41 rfl) <| V (run_ldSub (sub := atomL _) underlying41 rfl rfl rfl (hH49.blk (i := 0) rfl) (field_atB _)) <| V (run_ldA (cs := asgL _) underlying32 rfl rfl e3_42 (rangeAt_cells (hH49.blk (i := 4) rfl))) <| RL.callP rfl hH49 (c_holds_atom _ _  _ (ha.mono hH49.kw)) (run_call2 call23 rfl rfl) <| fun w50 hH51 => ?_
     refine V (run_move (by conv => lhs; whnf)) ?_
     refine V (run_extract rfl (v := .agg _) rfl) <| V (run_extract rfl (v := B _) rfl) <| RL.new rfl hH51 (f := fun b => (.pointer (some ⟨b, 0, none⟩))) (run_alloc zero_el) <| fun b55 w53 hH54 => RL.set hH54 (i := 0) rfl (run_stEl rfl rfl rfl (hH54.blk (i := 0) rfl)) <| fun w56 hH57 => ?_
     simp only [z2] at hH57
     refine aB rfl <| RL.nil <| CW.region <| vm e8_42 <| V (fA underlying71 0 rfl sizeOf9 rfl) <| V (run_ld underlying9 rfl rfl (hH57.cell (i := 1) rfl (v := .string _) rfl)) <| V (run_ldEl underlying39 rfl rfl rfl (hH57.blk (i := 0) rfl)) <| mB rfl <| RL.callT rfl (c_holds_gathered_1 _ _ b12 b18 b7 kv es ck o _ _ _ hmp _ (hH57.perm (((pC ((pC ((pC ((pC pR).trans pS)).trans pS)).trans pS)).trans pS).trans (pC (((pC ((pC pR).trans pS)).trans pS).trans (pC (((pC ((pC pR).trans pS)).trans pS).trans (pC pR)))))))) (run_callC3 call91 (cs := [.pointer (some ⟨b12, 0, none⟩), .pointer (some ⟨b18, 0, none⟩)]) rfl rfl rfl rfl) <| ?_
     rintro _ w60 ⟨rfl, es62, ck63, hmp64, hH61⟩
     have hH65 := hH61.perm (((pC ((pC ((pC pR).trans pS)).trans pS)).trans pS).trans (pC (((pC ((pC ((pC pR).trans pS)).trans pS)).trans pS).trans (pC (((pC pR).trans pS).trans (pC (((pC pR).trans pS).trans (pC pR))))))))
     refine RL.nil <| CW.region <| V (run_add e50_42 rfl (by omega)) <| mI rfl <| RL.nil <| ?_
     refine ⟨(j + 1, es62, ck63, (putK kv (r.fields.getD j.toNat field0).name (atomF a.as (r.fields.getD j.toNat field0).at_).1), (o && (atomF a.as (r.fields.getD j.toNat field0).at_).2 && !(lookK kv (r.fields.getD j.toNat field0).name).2)), ?_, fr42.u4.u4.u4.u4.u4.u1, (Hp.conv (hH65.sub (sQ (sQ sR))) (by rfl)), (congrArg I (by rfl)), ?_, ?_, ?_, ?_⟩
     ·((try dsimp only); omega)
     ·omega
     ·omega
     ·exact hmp64
     ·rw [take_snoc (d := field0) j0 ‹j < _›, List.map_append, ← List.append_assoc, all_snoc, ← Bool.and_assoc]; exact gst_next hg
    ·refine CW.exit (id := 2) rfl <| CW.seq <| CW.regionD (by kernel_rfl) hH42 <| fun w66 hH67 => have zh67 := hH67.sub sR; AT 0 rfl zh67 (fun w hS => run_ld underlying106 rfl e6_42 (hS.cell (i := 1) rfl rfl)) <| AT 1 rfl zh67 (fun w hS => run_ld underlying4 rfl e7_42 (hS.cell (i := 0) rfl (v := B _) rfl)) <| ?_
     refine AQ 2 rfl zh67 (run_assign (by conv => lhs; whnf)) ?_
     refine AQ 3 rfl zh67 (aV (B _) rfl) <| AD <| CW.ret <| out2 Tryz.results69 rfl rfl ⟨b7, es, ck, kv, o, rfl, gst_end (by show ¬ j < (r.fields.length : Int); omega) hg, hmp, (hH67.perm (((pC ((pC pR).trans pS)).trans pS).trans (pC pR))).sub (sP (sQ (sQ (sQ (sQ sR)))))⟩
  ·refine CW.skip <| CW.seq <| SR <| V (fA underlying44 0 rfl sizeOf42 rfl) <| V (run_ldV (hr.fields.sl.hp hH20) underlying42 rfl rfl (hH20.cell (i := 4) rfl rfl)) <| V (run_lenSl (hr.fields.sl.hp hH20) rfl underlying42 rfl) <| vm (v := I 0) rfl <| RL.nil <| CW.block <| CW.loop (G := Int × (Array MapEntry) × Nat × (List (Tx × El)) × Bool) (fun ⟨j, es, ck, kv, o⟩ s' w' => (Fr (rg 12 3 (rg 50 18 [])) _ s') ∧ (Hp w w' (.blk b18 (.cells (#[B o]) 4 (0, 0)) :: _ :: .blk b7 (.map es ck) :: _)) ∧ (s' 50 = I j) ∧ (0 ≤ j) ∧ (j ≤ r.fields.length) ∧ (MpIs es ck kv) ∧ (GSt (preV a.as r ++ (r.fields.take j.toNat).map (valF a.as)) (decide (r.tail < (a.as.rows.length : Int)) && (r.fields.take j.toNat).all fun f => (atomF a.as f.at_).2) o kv)) (fun ⟨j, es, ck, kv, o⟩ => (r.fields.length - j).toNat) ((0, #[], 0, [], (decide (r.tail < (a.rows.length : Int))))) ⟨Fr.refl _ _, hH20, rfl, (by omega), (by omega), mp_nil, (by exact gst_i2 (pre_3 (by omega)))⟩ <| ?_
   rintro ⟨j, es, ck, kv, o⟩ sg69 w69 ⟨fr69, hH69, e50_69, j0, jk, hmp, hg⟩
   have e3_69 := fr69.pp 3 rfl rfl
   have e6_69 := fr69.pp 6 rfl rfl
   have e7_69 := fr69.pp 7 rfl rfl
   have e8_69 := fr69.vv 8 (a := .func _ _ _) rfl rfl
   have e48_69 := (fr69 48 rfl).trans (by conv => lhs; whnf)
   have e49_69 := fr69.ii 49 rfl rfl
   refine SR <| V (run_lss e50_69 e49_69) <| RL.nil <| CW.seq <| CW.condP rfl (fun h71 => ?_) (fun h71 => ?_)
   ·refine CW.skip <| CW.seq <| CW.block <| SR <| V (run_indexAddrS (hr.fields.sl.hp hH69) underlying42 sizeOf71 e48_69 e50_69 (by omega)) <| V (run_ldE (dv := field0) fieldL_len (hr.fields.sl.hp hH69) underlying71 rfl rfl rfl (by omega)) <| RL.new rfl hH69 (f := fun b => (.pointer (some ⟨b, 0, none⟩))) (run_alloc zero_field) <| fun b74 w72 hH73 => RL.set hH73 (i := 0) rfl (run_stW (c' := (fieldL _).toArray) rfl rfl rfl (fieldL_one _) (hH73.blk (i := 0) rfl) rfl) <| fun w75 hH76 => ?_
    simp only [z2] at hH76
    refine RL.nil <| SR <| V (fA underlying71 1 rfl sizeOf41 rfl) <| V (run_ldSub (sub := atomL _) underlying41 rfl rfl rfl (hH76.blk (i := 0) rfl) (field_atB _)) <| V (run_ldA (cs := asgL _) underlying32 rfl rfl e3_69 (rangeAt_cells (hH76.blk (i := 4) rfl))) <| RL.callP rfl hH76 (c_holds_atom _ _  _ (ha.mono hH76.kw)) (run_call2 call23 rfl rfl) <| fun w77 hH78 => ?_
    refine V (run_move (by conv => lhs; whnf)) ?_
    refine V (run_extract rfl (v := .agg _) rfl) <| V (run_extract rfl (v := B _) rfl) <| RL.new rfl hH78 (f := fun b => (.pointer (some ⟨b, 0, none⟩))) (run_alloc zero_el) <| fun b82 w80 hH81 => RL.set hH81 (i := 0) rfl (run_stEl rfl rfl rfl (hH81.blk (i := 0) rfl)) <| fun w83 hH84 => ?_
    simp only [z2] at hH84
    refine aB rfl <| RL.nil <| CW.region <| vm e8_69 <| V (fA underlying71 0 rfl sizeOf9 rfl) <| V (run_ld underlying9 rfl rfl (hH84.cell (i := 1) rfl (v := .string _) rfl)) <| V (run_ldEl underlying39 rfl rfl rfl (hH84.blk (i := 0) rfl)) <| mB rfl <| RL.callT rfl (c_holds_gathered_1 _ _ b12 b18 b7 kv es ck o _ _ _ hmp _ (hH84.perm (((pC ((pC ((pC ((pC pR).trans pS)).trans pS)).trans pS)).trans pS).trans (pC (((pC ((pC pR).trans pS)).trans pS).trans (pC (((pC ((pC pR).trans pS)).trans pS).trans (pC pR)))))))) (run_callC3 call91 (cs := [.pointer (some ⟨b12, 0, none⟩), .pointer (some ⟨b18, 0, none⟩)]) rfl rfl rfl rfl) <| ?_
    rintro _ w87 ⟨rfl, es89, ck90, hmp91, hH88⟩
    have hH92 := hH88.perm (((pC ((pC ((pC pR).trans pS)).trans pS)).trans pS).trans (pC (((pC ((pC ((pC pR).trans pS)).trans pS)).trans pS).trans (pC (((pC pR).trans pS).trans (pC (((pC pR).trans pS).trans (pC pR))))))))
    refine RL.nil <| CW.region <| V (run_add e50_69 rfl (by omega)) <| mI rfl <| RL.nil <| ?_
    refine ⟨(j + 1, es89, ck90, (putK kv (r.fields.getD j.toNat field0).name (atomF a.as (r.fields.getD j.toNat field0).at_).1), (o && (atomF a.as (r.fields.getD j.toNat field0).at_).2 && !(lookK kv (r.fields.getD j.toNat field0).name).2)), ?_, fr69.u4.u4.u4.u4.u4.u1, (Hp.conv (hH92.sub (sQ (sQ sR))) (by rfl)), (congrArg I (by rfl)), ?_, ?_, ?_, ?_⟩
    ·((try dsimp only); omega)
    ·omega
    ·omega
    ·exact hmp91
    ·rw [take_snoc (d := field0) j0 ‹j < _›, List.map_append, ← List.append_assoc, all_snoc, ← Bool.and_assoc]; exact gst_next hg
   ·refine CW.exit (id := 2) rfl <| CW.seq <| CW.regionD (by kernel_rfl) hH69 <| fun w93 hH94 => have zh94 := hH94.sub sR; AT 0 rfl zh94 (fun w hS => run_ld underlying106 rfl e6_69 (hS.cell (i := 1) rfl rfl)) <| AT 1 rfl zh94 (fun w hS => run_ld underlying4 rfl e7_69 (hS.cell (i := 0) rfl (v := B _) rfl)) <| ?_
    refine AQ 2 rfl zh94 (run_assign (by conv => lhs; whnf)) ?_
    refine AQ 3 rfl zh94 (aV (B _) rfl) <| AD <| CW.ret <| out2 Tryz.results69 rfl rfl ⟨b7, es, ck, kv, o, rfl, gst_end (by show ¬ j < (r.fields.length : Int); omega) hg, hmp, (hH94.perm (((pC ((pC pR).trans pS)).trans pS).trans (pC pR))).sub (sP (sQ (sQ (sQ (sQ sR)))))⟩
 ·refine gF rfl (bF h23) <| gF rfl (bF h23) <| gF rfl (bF h23) <| V (run_pickF (bF h23) (v := B false) rfl) <| RL.nil <| CW.condF rfl <| CW.skip <| CW.seq <| SR <| V (fA underlying44 0 rfl sizeOf42 rfl) <| V (run_ldV (hr.fields.sl.hp hH20) underlying42 rfl rfl (hH20.cell (i := 4) rfl rfl)) <| V (run_lenSl (hr.fields.sl.hp hH20) rfl underlying42 rfl) <| vm (v := I 0) rfl <| RL.nil <| CW.block <| CW.loop (G := Int × (Array MapEntry) × Nat × (List (Tx × El)) × Bool) (fun ⟨j, es, ck, kv, o⟩ s' w' => (Fr (rg 12 3 (rg 50 18 [])) _ s') ∧ (Hp w w' (.blk b18 (.cells (#[B o]) 4 (0, 0)) :: _ :: .blk b7 (.map es ck) :: _)) ∧ (s' 50 = I j) ∧ (0 ≤ j) ∧ (j ≤ r.fields.length) ∧ (MpIs es ck kv) ∧ (GSt (preV a.as r ++ (r.fields.take j.toNat).map (valF a.as)) (decide (r.tail < (a.as.rows.length : Int)) && (r.fields.take j.toNat).all fun f => (atomF a.as f.at_).2) o kv)) (fun ⟨j, es, ck, kv, o⟩ => (r.fields.length - j).toNat) ((0, #[], 0, [], (decide (r.tail < (a.rows.length : Int))))) ⟨Fr.refl _ _, hH20, rfl, (by omega), (by omega), mp_nil, (by exact gst_i2 (pre_2a (by omega)))⟩ <| ?_
  rintro ⟨j, es, ck, kv, o⟩ sg96 w96 ⟨fr96, hH96, e50_96, j0, jk, hmp, hg⟩
  have e3_96 := fr96.pp 3 rfl rfl
  have e6_96 := fr96.pp 6 rfl rfl
  have e7_96 := fr96.pp 7 rfl rfl
  have e8_96 := fr96.vv 8 (a := .func _ _ _) rfl rfl
  have e48_96 := (fr96 48 rfl).trans (by conv => lhs; whnf)
  have e49_96 := fr96.ii 49 rfl rfl
  refine SR <| V (run_lss e50_96 e49_96) <| RL.nil <| CW.seq <| CW.condP rfl (fun h98 => ?_) (fun h98 => ?_)
  ·refine CW.skip <| CW.seq <| CW.block <| SR <| V (run_indexAddrS (hr.fields.sl.hp hH96) underlying42 sizeOf71 e48_96 e50_96 (by omega)) <| V (run_ldE (dv := field0) fieldL_len (hr.fields.sl.hp hH96) underlying71 rfl rfl rfl (by omega)) <| RL.new rfl hH96 (f := fun b => (.pointer (some ⟨b, 0, none⟩))) (run_alloc zero_field) <| fun b101 w99 hH100 => RL.set hH100 (i := 0) rfl (run_stW (c' := (fieldL _).toArray) rfl rfl rfl (fieldL_one _) (hH100.blk (i := 0) rfl) rfl) <| fun w102 hH103 => ?_
   simp only [z2] at hH103
   refine RL.nil <| SR <| V (fA underlying71 1 rfl sizeOf41 rfl) <| V (run_ldSub (sub := atomL _) underlying41 rfl rfl rfl (hH103.blk (i := 0) rfl) (field_atB _)) <| V (run_ldA (cs := asgL _) underlying32 rfl rfl e3_96 (rangeAt_cells (hH103.blk (i := 4) rfl))) <| RL.callP rfl hH103 (c_holds_atom _ _  _ (ha.mono hH103.kw)) (run_call2 call23 rfl rfl) <| fun w104 hH105 => ?_
   refine V (run_move (by conv => lhs; whnf)) ?_
   refine V (run_extract rfl (v := .agg _) rfl) <| V (run_extract rfl (v := B _) rfl) <| RL.new rfl hH105 (f := fun b => (.pointer (some ⟨b, 0, none⟩))) (run_alloc zero_el) <| fun b109 w107 hH108 => RL.set hH108 (i := 0) rfl (run_stEl rfl rfl rfl (hH108.blk (i := 0) rfl)) <| fun w110 hH111 => ?_
   simp only [z2] at hH111
   refine aB rfl <| RL.nil <| CW.region <| vm e8_96 <| V (fA underlying71 0 rfl sizeOf9 rfl) <| V (run_ld underlying9 rfl rfl (hH111.cell (i := 1) rfl (v := .string _) rfl)) <| V (run_ldEl underlying39 rfl rfl rfl (hH111.blk (i := 0) rfl)) <| mB rfl <| RL.callT rfl (c_holds_gathered_1 _ _ b12 b18 b7 kv es ck o _ _ _ hmp _ (hH111.perm (((pC ((pC ((pC ((pC pR).trans pS)).trans pS)).trans pS)).trans pS).trans (pC (((pC ((pC pR).trans pS)).trans pS).trans (pC (((pC ((pC pR).trans pS)).trans pS).trans (pC pR)))))))) (run_callC3 call91 (cs := [.pointer (some ⟨b12, 0, none⟩), .pointer (some ⟨b18, 0, none⟩)]) rfl rfl rfl rfl) <| ?_
   rintro _ w114 ⟨rfl, es116, ck117, hmp118, hH115⟩
   have hH119 := hH115.perm (((pC ((pC ((pC pR).trans pS)).trans pS)).trans pS).trans (pC (((pC ((pC ((pC pR).trans pS)).trans pS)).trans pS).trans (pC (((pC pR).trans pS).trans (pC (((pC pR).trans pS).trans (pC pR))))))))
   refine RL.nil <| CW.region <| V (run_add e50_96 rfl (by omega)) <| mI rfl <| RL.nil <| ?_
   refine ⟨(j + 1, es116, ck117, (putK kv (r.fields.getD j.toNat field0).name (atomF a.as (r.fields.getD j.toNat field0).at_).1), (o && (atomF a.as (r.fields.getD j.toNat field0).at_).2 && !(lookK kv (r.fields.getD j.toNat field0).name).2)), ?_, fr96.u4.u4.u4.u4.u4.u1, (Hp.conv (hH119.sub (sQ (sQ sR))) (by rfl)), (congrArg I (by rfl)), ?_, ?_, ?_, ?_⟩
   ·((try dsimp only); omega)
   ·omega
   ·omega
   ·exact hmp118
   ·rw [take_snoc (d := field0) j0 ‹j < _›, List.map_append, ← List.append_assoc, all_snoc, ← Bool.and_assoc]; exact gst_next hg
  ·refine CW.exit (id := 2) rfl <| CW.seq <| CW.regionD (by kernel_rfl) hH96 <| fun w120 hH121 => have zh121 := hH121.sub sR; AT 0 rfl zh121 (fun w hS => run_ld underlying106 rfl e6_96 (hS.cell (i := 1) rfl rfl)) <| AT 1 rfl zh121 (fun w hS => run_ld underlying4 rfl e7_96 (hS.cell (i := 0) rfl (v := B _) rfl)) <| ?_
   refine AQ 2 rfl zh121 (run_assign (by conv => lhs; whnf)) ?_
   refine AQ 3 rfl zh121 (aV (B _) rfl) <| AD <| CW.ret <| out2 Tryz.results69 rfl rfl ⟨b7, es, ck, kv, o, rfl, gst_end (by show ¬ j < (r.fields.length : Int); omega) hg, hmp, (hH121.perm (((pC ((pC pR).trans pS)).trans pS).trans (pC pR))).sub (sP (sQ (sQ (sQ (sQ sR)))))⟩
set_option maxHeartbeats 1000000 in
theorem c_holds_Row (K : Vu) (r : RowR) (a : Asg) (hrl : ∀ x ∈ a.rows, x.l.length ≤ 1000) (hfl : r.fields.length ≤ 1000) (w : World) (hK : Le K (Kw w)) (hr : RowV K r) (ha : AsgV K a) : Calls Tryz.prog 43 #[.agg (rtmL r).toArray, .agg (asgL a).toArray] w (PureF K (fun K' u => ∃ v' : Value, u = .tuple #[v', B (rowM a.as r).2] ∧ SlV K' v' 9 (rowM a.as r).1.length ((rowM a.as r).1.flatMap valL)) w) := by
 have hm1 := ha.labels.small
 have hm2 := ha.rows.small
 have hm3 := hr.fields.small
 unfold maxLen at hm1 hm2 hm3
 refine enter Tryz.func43 rfl Tryz.ntmps43 rfl <| have hH := Hp.start w; SR <| RL.new rfl hH (f := fun b => (.pointer (some ⟨b, 0, none⟩))) (run_box (v := .agg _) rfl) <| fun b3 w1 hH2 => RL.new rfl hH2 (f := fun b => (.pointer (some ⟨b, 0, none⟩))) (run_box (v := .agg _) rfl) <| fun b6 w4 hH5 => va (v := .slice none 0 0) rfl <| va (v := B false) rfl <| RL.nil <| SR <| V (run_ldA (cs := rtmL _) underlying44 rfl rfl rfl (rangeAt_cells (hH5.blk (i := 1) rfl))) <| V (run_ldA (cs := asgL _) underlying32 rfl rfl rfl (rangeAt_cells (hH5.blk (i := 0) rfl))) <| RL.callT rfl (c_holds_gathered _ _  _ ((hr.mono hK).mono hH5.kw) ((ha.mono hK).mono hH5.kw)) (run_call2 call69 rfl rfl) <| ?_
 rintro _ w9 ⟨bm11, es12, ck13, kv14, o15, rfl, hgk16, hmp17, hz18⟩
 have hH19 := Hp.callZ hH5 hz18
 simp only [List.cons_append, List.nil_append] at hH19
 refine V (run_move (by conv => lhs; whnf)) ?_
 refine V (run_extract rfl rfl) <| V (run_extract rfl (v := B _) rfl) <| ?_
 refine V (run_assign (by conv => lhs; whnf)) ?_
 refine aB rfl <| RL.nil <| CW.seq <| SR <| mB rfl <| V (run_not rfl) <| RL.nil <| CW.cond rfl (fun h22 => ?_) (fun h22 => ?_)
 ·refine SR <| va (v := .slice none 0 0) rfl <| va (v := B false) rfl <| RL.nil <| CW.ret <| have hrm := rw_no (a := a.as) (t := r) (by rw [← hgk16.1]; exact nt ‹(!o15) = true›); out2 Tryz.results43 (x := .slice none 0 0) (y := B false) rfl rfl ⟨[], (hH19.sub (sQ (sQ (sQ sR)))), .slice none 0 0, ?_, ?_⟩
  ·rw [hrm]
  ·rw [hrm]; exact SlV.nil _ _
 ·refine CW.skip <| SR <| va (v := .slice none 0 0) rfl <| have hH23 := hH19.nilRow 9 1; RL.nil <| CW.seq <| SR <| ?_
  refine V (run_move (by conv => lhs; whnf)) ?_
  refine RL.new rfl hH23 (f := fun b => .pointer (some ⟨b, 0, none⟩)) (run_range underlying106 rfl (hH23.blk (i := 1) rfl)) <| fun b24 w25 hH26 => RL.nil <| CW.block <| have hes : es12.size ≤ 2000 := (by rw [hmp17.size, hgk16.2 (nf ‹(!o15) = false›), List.length_map]; exact allV_len hrl hfl); CW.loop (G := (Array Nat) × Nat × (List Tx) × Value) (fun ⟨seen, c0, ns, v8⟩ s' w' => (Fr (8 :: 9 :: (rg 23 8 [])) _ s') ∧ (Hp w w' (.blk b24 (.mapIter (some bm11) ck13 seen c0) :: .row v8 9 1 (ns.length) (txL ns) :: _)) ∧ (s' 8 = v8) ∧ (ck13 ≤ c0) ∧ (Seen es12 kv14 seen ns)) (fun ⟨seen, c0, ns, v8⟩ => (leftOf es12 seen).size) ((#[], ck13, [], (.slice none 0 0 : Value))) ⟨Fr.refl _ _, hH26, rfl, Nat.le_refl _, seen_0⟩ <| ?_
  rintro ⟨seen, c0, ns, v8⟩ sg27 w27 ⟨fr27, hH27, e8_27, hc, hse⟩
  have e4_27 := (fr27 4 rfl).trans (by conv => lhs; whnf)
  have e5_27 := fr27.bb 5 rfl rfl
  have e6_27 := (fr27 6 rfl).trans (by conv => lhs; whnf)
  have e22_27 := (fr27 22 rfl).trans (by conv => lhs; whnf)
  have hsz := hse.2.2
  refine SR <| RL.nextM rfl hH27 (i := 0) rfl (hH27.blk (i := 2) rfl) hmp17 hc e22_27 (fun hz28 => ?_) (fun e29 q30 he31 hq32 hk33 hv34 w35 hH36 => ?_)
  ·refine V (run_extract rfl (v := B _) rfl) <| RL.nil <| CW.seq <| CW.condF rfl <| CW.exit (id := 0) rfl <| SR <| va (v := .slice none 0 0) rfl <| have hH38 := hH27.nilRow 56 9; RL.nil <| CW.seq <| SR <| vm e8_27 <| RL.callR rfl hH38 (c_name_Sort _ ns (by omega) _ (hH38.sl (i := 2) rfl)) (run_call1 call70 rfl) <| fun v41 w39 hH40 => V (run_lenSl (hH40.sl (i := 0) rfl) rfl underlying57 rfl) <| vm (v := I 0) rfl <| RL.nil <| CW.block <| have hsl := sort_len ns; CW.loop (G := Int × (List ValR) × Value) (fun ⟨k, m2, v10⟩ s' w' => (Fr (10 :: (12 :: (rg 34 13 []))) _ s') ∧ (Hp w w' (_ :: .row v10 56 9 (m2.length) (m2.flatMap valL) :: _)) ∧ (s' 10 = v10) ∧ (s' 34 = I k) ∧ (0 ≤ k) ∧ (k ≤ (sortN ns).length) ∧ (m2 = laidTo (sortN ns) kv14 k) ∧ ((m2.length : Int) = k)) (fun ⟨k, m2, v10⟩ => ((sortN ns).length - k).toNat) ((0, [], (.slice none 0 0 : Value))) ⟨Fr.refl _ _, hH40, rfl, rfl, (by omega), (by omega), rfl, rfl⟩ <| ?_
   rintro ⟨k, m2, v10⟩ sg42 w42 ⟨fr42, hH42, e10_42, e34_42, h0, hk, hm2, hml⟩
   have e6_42 := (fr42 6 rfl).trans e6_27
   have e32_42 := (fr42 32 rfl).trans (by conv => lhs; whnf)
   have e33_42 := fr42.ii 33 rfl rfl
   refine SR <| V (run_lss e34_42 e33_42) <| RL.nil <| CW.seq <| CW.condP rfl (fun h44 => ?_) (fun h44 => ?_)
   ·refine CW.skip <| CW.seq <| CW.block <| SR <| V (run_indexAddrS (hH42.sl (i := 0) rfl) underlying57 sizeOf9 e32_42 e34_42 (by omega)) <| V (run_ld underlying9 rfl rfl ((hH42.sl (i := 0) rfl).cell _ _ (txL_at (by omega)))) <| va (v := .string _) rfl <| RL.nil <| CW.region <| vm e10_42 <| vm (v := .string _) rfl <| vm e6_42 <| vm (v := .string _) rfl <| V (run_lookup1 underlying106 underlying9 zero_el rfl rfl (hH42.blk (i := 4) rfl) hmp17) <| V (run_bld (vs := [(0, S _), (1, .agg (elC _))]) rfl (built_val _ _)) <| RL.new rfl hH42 (f := fun b => (.slice (some ⟨b, 0, none⟩) 1 1)) (run_mkRecs valL_len underlying54 rfl rfl rfl (l := [_]) rfl (by decide) (by decide) rfl) <| fun b47 w45 hH46 => RL.app rfl hH46 (i := 2) rfl (Hp.slFlat valL_len hH46 (i := 0) (l := [_]) rfl (by simp [maxLen])) rfl rfl underlying54 rfl rfl (size := 9) (bytes := 80) rfl rfl rfl (by decide) (vals_one _) (by simp only [List.length_cons, List.length_nil]; omega) (by simp only [maxLen, List.length_cons, List.length_nil]; omega) <| fun v48 w49 hH50 => ?_
    simp only [z2] at hH50
    refine V (run_assign (by conv => lhs; whnf)) ?_
    refine RL.nil <| CW.region <| V (run_add e34_42 rfl (by omega)) <| mI rfl <| RL.nil <| ?_
    refine ⟨(k + 1, m2 ++ [⟨(sortN ns).getD k.toNat tx0, (lookK kv14 ((sortN ns).getD k.toNat tx0)).1⟩], v48), ?_, fr42.u4.u4.u4.u1.u1.u1, (Hp.conv (hH50.sub (sQ sR)) (by simp)), rfl, (congrArg I (by rfl)), ?_, ?_, ?_, ?_⟩
    ·((try dsimp only); omega)
    ·omega
    ·omega
    ·(rw [laid_next h0 ‹k < _›, ← hm2])
    ·simp only [List.length_append, List.length_singleton]; omega
   ·refine CW.exit (id := 2) rfl <| SR <| vm e10_42 <| ?_
    refine V (run_assign (by conv => lhs; whnf)) ?_
    refine va (v := B true) rfl <| RL.nil <| CW.ret <| ?_
    obtain ⟨Z51, hz52, hv53, -⟩ := (hH42.perm (((pC pR).trans pS).trans (pC pR))).frz (K)
    have hH54 : Hp _ w42 (_ :: _ :: _ :: _ :: _ :: _ :: Z51) := hz52.zin0 (L := [_, _, _, _, _, _])
    have hrm := rm_yes hgk16.1 (nf ‹(!o15) = false›) hgk16.2 (seen_all hmp17 hse hz28)
    refine out2 Tryz.results43 (x := v10) rfl rfl ⟨Z51, (hH54.sub (sQ (sQ (sQ (sQ (sQ (sQ sR))))))), v10, ?_, ?_⟩
    ·(rw [hrm]; rfl)
    ·rw [hrm, ← laid_all ‹¬ k < _›, ← hm2]; exact hv53
  ·simp only [z2] at hH36
   refine V (run_extract rfl (v := B _) rfl) <| RL.nil <| CW.seq <| CW.condT rfl <| CW.skip <| CW.block <| SR <| V (run_entry (hH36.blk (i := 0) rfl) (hH36.blk (i := 2) rfl) hmp17 he31 hk33 hv34 e22_27) <| V (run_extract rfl (v := .string _) rfl) <| va (v := .string _) rfl <| RL.nil <| CW.region <| vm e8_27 <| vm (v := .string _) rfl <| RL.new rfl hH36 (f := fun b => (.slice (some ⟨b, 0, none⟩) 1 1)) (run_mkL underlying57 rfl rfl (sz := 1) (vs := [.string _]) rfl rfl (by decide) (by decide) rfl rfl) <| fun b58 w56 hH57 => ?_
   (try simp only [clX] at hH57)
   refine RL.app rfl hH57 (i := 2) rfl (hH57.slBlk (i := 0) (n := 1) (sz := 1) rfl rfl (by decide)) rfl rfl underlying57 rfl rfl (size := 1) (bytes := 16) rfl rfl rfl (by decide) (by simp [Value.oneCell']) (by have := left_pos ‹_›; show (ns.length + 1) * _ ≤ _; omega) (by have := left_pos ‹_›; show ns.length + 1 ≤ _; simp only [maxLen]; omega) <| fun v59 w60 hH61 => ?_
   simp only [z2] at hH61
   refine V (run_assign (by conv => lhs; whnf)) ?_
   refine RL.nil ?_
   refine ⟨((seen.push e29.born), ck13, ns ++ [q30.1], v59), ?_, fr27.u4.u4.u1.u1, (Hp.conv (hH61.sub (sQ sR)) (by simp)), rfl, ?_, ?_⟩
   ·exact (seen_next hmp17.born hse he31 hq32 hk33).2
   ·exact Nat.le_refl _
   ·exact (seen_next hmp17.born hse he31 hq32 hk33).1
set_option maxHeartbeats 1000000 in
theorem c_clearanceref19_Row (K : Vu) (r : RowR) (a : Asg) (hrl : ∀ x ∈ a.rows, x.l.length ≤ 1000) (hfl : r.fields.length ≤ 1000) (hrn : ∀ x ∈ a.rows, ∀ v ∈ x.l, v.name.size ≤ 1000) (hfn : ∀ f ∈ r.fields, f.name.size ≤ 1000) (w : World) (hK : Le K (Kw w)) (hr : RowV K r) (ha : AsgV K a) : Calls Tryz.prog 26 #[.agg (rtmL r).toArray, .agg (asgL a).toArray] w (PureF K (fun K' u => ∃ v' : Value, u = .tuple #[v', B (rowM a.as r).2] ∧ SlV K' v' 9 (rowM a.as r).1.length ((rowM a.as r).1.flatMap valL)) w) := by
 have hm1 := ha.labels.small
 have hm2 := ha.rows.small
 have hm3 := hr.fields.small
 unfold maxLen at hm1 hm2 hm3
 have htl := tail_len (r := r) hrl
 refine enter Tryz.func26 rfl Tryz.ntmps26 rfl <| have hH := Hp.start w; SR <| RL.new rfl hH (f := fun b => (.pointer (some ⟨b, 0, none⟩))) (run_box (v := .agg _) rfl) <| fun b3 w1 hH2 => RL.new rfl hH2 (f := fun b => (.pointer (some ⟨b, 0, none⟩))) (run_box (v := .agg _) rfl) <| fun b6 w4 hH5 => va (v := .slice none 0 0) rfl <| va (v := B false) rfl <| RL.nil <| SR <| va (v := .slice none 0 0) rfl <| have hH7 := hH5.nilRow 56 9; RL.nil <| CW.seq <| SR <| V (fA underlying44 1 rfl sizeOf3 rfl) <| V (run_ld underlying3 rfl rfl (hH7.cell (i := 2) rfl (v := I _) rfl)) <| V (fA underlying32 1 rfl sizeOf30 rfl) <| V (run_ldV ((ha.mono hK).rows.sl.hp hH7) underlying30 rfl rfl (hH7.cell (i := 1) rfl rfl)) <| V (run_lenSl ((ha.mono hK).rows.sl.hp hH7) rfl underlying30 rfl) <| V (run_geq rfl rfl) <| RL.nil <| CW.condP rfl (fun h9 => ?_) (fun h9 => ?_)
 ·refine SR <| va (v := .slice none 0 0) rfl <| va (v := B false) rfl <| RL.nil <| CW.ret <| have hrm : rowM a.as r = ([], false) := (by exact rr_no1 (by omega)); out2 Tryz.results26 (x := .slice none 0 0) (y := B false) rfl rfl ⟨[], (hH7.sub (sQ (sQ (sQ sR)))), .slice none 0 0, ?_, ?_⟩
  ·rw [hrm]
  ·rw [hrm]; exact SlV.nil _ _
 ·refine CW.skip <| CW.seq <| SR <| V (fA underlying44 1 rfl sizeOf3 rfl) <| V (run_ld underlying3 rfl rfl (hH7.cell (i := 2) rfl (v := I _) rfl)) <| V (run_geq rfl rfl) <| RL.nil <| CW.condP rfl (fun h11 => ?_) (fun h11 => ?_)
  ·refine CW.region ?_
   refine V (run_move (by conv => lhs; whnf)) ?_
   refine V (fA underlying32 1 rfl sizeOf30 rfl) <| V (run_ldV ((ha.mono hK).rows.sl.hp hH7) underlying30 rfl rfl (hH7.cell (i := 1) rfl rfl)) <| V (fA underlying44 1 rfl sizeOf3 rfl) <| V (run_ld underlying3 rfl rfl (hH7.cell (i := 2) rfl (v := I _) rfl)) <| V (run_indexAddrS ((ha.mono hK).rows.sl.hp hH7) underlying30 sizeOf54 rfl rfl (by omega)) <| V (run_ld underlying54 rfl rfl (((ha.mono hK).rows.sl.hp hH7).cell _ _ (rowsC_at (by omega)))) <| RL.app rfl hH7 (i := 0) rfl (((ha.mono hK).at (by omega) (by omega)).sl.hp hH7) rfl rfl underlying54 rfl rfl (size := 9) (bytes := 80) rfl rfl rfl (by decide) (vals_one _) (by show (0 + _) * _ ≤ _; omega) (by show 0 + _ ≤ _; simp only [maxLen]; omega) <| fun v12 w13 hH14 => ?_
   simp only [z2] at hH14
   refine V (run_assign (by conv => lhs; whnf)) ?_
   refine RL.nil <| CW.seq <| SR <| va (v := I 0) rfl <| RL.nil <| CW.block <| ?_
   (try simp only [Nat.zero_add, List.nil_append] at hH14)
   refine CW.loop (G := Int × (List ValR) × Value) (fun ⟨k, m, v6⟩ s' w' => (Fr (rg 4 6 (rg 31 31 [])) _ s') ∧ (Hp w w' (.row v6 56 9 (m.length) (m.flatMap valL) :: _)) ∧ (s' 6 = v6) ∧ (s' 7 = I k) ∧ (0 ≤ k) ∧ (k ≤ r.fields.length) ∧ (m = tailV a.as r ++ (r.fields.take k.toNat).map (valF a.as)) ∧ (((r.fields.take k.toNat).all fun f => (atomF a.as f.at_).2) = true) ∧ ((m.length : Int) ≤ 1000 + k)) (fun ⟨k, m, v6⟩ => (r.fields.length - k).toNat) ((0, (a.rows.getD r.tail.toNat vr0).l, (v12 : Value))) ⟨Fr.refl _ _, hH14, rfl, rfl, (by omega), (by omega), (by rw [tail_1 (by omega)]; simp; done), rfl, (by omega)⟩ ?_
   rintro ⟨k, m, v6⟩ sg15 w15 ⟨fr15, hH15, e6_15, e7_15, h0, hk, hm, hok, hml⟩
   have e2_15 := fr15.pp 2 rfl rfl
   have e3_15 := fr15.pp 3 rfl rfl
   refine CW.seq <| SR <| vm e7_15 <| V (fA underlying44 0 rfl sizeOf42 e2_15) <| V (run_ldV ((hr.mono hK).fields.sl.hp hH15) underlying42 rfl rfl (hH15.cell (i := 2) rfl rfl)) <| V (run_lenSl ((hr.mono hK).fields.sl.hp hH15) rfl underlying42 rfl) <| V (run_lss rfl rfl) <| RL.nil <| CW.condP rfl (fun h17 => ?_) (fun h17 => ?_)
   ·refine CW.skip <| CW.seq <| CW.block <| CW.seq <| CW.regionD (by kernel_rfl) hH15 <| fun w18 hH19 => have zh19 := hH19.sub sR; AQ 0 rfl zh19 (fA underlying44 0 rfl sizeOf42 e2_15) <| AT 1 rfl zh19 (fun w hS => run_ldV ((hr.mono hK).fields.sl.hp hS) underlying42 rfl rfl (hS.cell (i := 2) rfl rfl)) <| AQ 2 rfl zh19 (run_move e7_15) <| AT 3 rfl zh19 (fun w hS => run_indexAddrS ((hr.mono hK).fields.sl.hp hS) underlying42 sizeOf71 rfl rfl (by omega)) <| AQ 4 rfl zh19 (fA underlying71 1 rfl sizeOf41 rfl) <| AT 5 rfl zh19 (fun w hS => run_ldEA (dv := field0) (off := 1) (cs := atomL _) fieldL_len ((hr.mono hK).fields.sl.hp hS) underlying41 rfl rfl rfl (by omega) (field_atE _)) <| AT 6 rfl zh19 (fun w hS => run_ldA (cs := asgL _) underlying32 rfl rfl e3_15 (rangeAt_cells (hS.blk (i := 1) rfl))) <| AN.two 7 11 (by kernel_rfl) ?_ ?_
    ·refine AO.callP rfl gnone rfl hH19 sR (c_clearanceref19_atom _ _  _ ((ha.mono hK).mono hH19.kw)) (run_call2 call29 rfl rfl) <| fun w20 hH21 => have zh21 := hH21.sub sR; ?_
     refine AQ 8 rfl zh21 (run_move (by conv => lhs; whnf)) ?_
     refine AQ 9 rfl zh21 (run_extract rfl (v := .agg _) rfl) <| AQ 10 rfl zh21 (run_extract rfl (v := B _) rfl) <| A1 11 <| AO.new rfl gnone rfl hH21 sR (f := fun b => .pointer (some ⟨b, 0, none⟩)) (run_alloc zero_el) <| fun b25 w23 hH24 => A1 12 <| AO.set rfl gnone hH24 (j := 0) rfl (sQ sR) (run_stEl rfl rfl rfl (hH24.blk (i := 0) rfl)) <| fun w28 hH29 => ?_
     simp only [z2] at hH29
     refine AQ 13 rfl (hH29.sub (sQ sR)) (aV (B _) rfl) <| AD <| CW.seq <| SR <| mB rfl <| V (run_not rfl) <| RL.nil <| CW.cond rfl (fun h31 => ?_) (fun h31 => ?_)
     ·refine SR <| va (v := .slice none 0 0) rfl <| va (v := B false) rfl <| RL.nil <| CW.ret <| have hrm : rowM a.as r = ([], false) := (by exact rr_no2 h0 ‹k < _› (nt ‹(!(atomF _ _).2) = true›)); out2 Tryz.results26 (x := .slice none 0 0) (y := B false) rfl rfl ⟨[], (hH29.sub (sQ (sQ (sQ (sQ sR))))), .slice none 0 0, ?_, ?_⟩
      ·rw [hrm]
      ·rw [hrm]; exact SlV.nil _ _
     ·refine CW.skip <| CW.regionS (by kernel_rfl) hH29 (sP (sQ sR)) <| fun w32 hH33 => have zh33 := hH33.sub (sP (sQ sR)); AQ 0 rfl zh33 (run_move e6_15) <| AQ 1 rfl zh33 (fA underlying44 0 rfl sizeOf42 e2_15) <| AT 2 rfl zh33 (fun w hS => run_ldV ((hr.mono hK).fields.sl.hp hS) underlying42 rfl rfl (hS.cell (i := 2) rfl rfl)) <| AQ 3 rfl zh33 (run_move e7_15) <| AT 4 rfl zh33 (fun w hS => run_indexAddrS ((hr.mono hK).fields.sl.hp hS) underlying42 sizeOf71 rfl rfl (by omega)) <| AQ 5 rfl zh33 (fA underlying71 0 rfl sizeOf9 rfl) <| AT 6 rfl zh33 (fun w hS => run_ldE1 (dv := field0) (off := 0) fieldL_len ((hr.mono hK).fields.sl.hp hS) underlying9 rfl rfl (by omega) rfl) <| AT 7 rfl zh33 (fun w hS => run_ldEl underlying39 rfl rfl rfl (hS.blk (i := 0) rfl)) <| AQ 8 rfl zh33 (run_bld (vs := [(0, S _), (1, .agg (elC _))]) rfl (built_val _ _)) <| A1 9 <| AO.new rfl gnone rfl hH33 (sP (sQ sR)) (f := fun b => .slice (some ⟨b, 0, none⟩) 1 1) (run_mkRecs valL_len underlying54 rfl rfl rfl (l := [_]) rfl (by decide) (by decide) rfl) <| fun b36 w34 hH35 => A1 10 <| AO.app rfl gnone rfl hH35 (j := 2) rfl (fun _ => (sQ (sP (sQ sR)))) (Hp.slFlat valL_len hH35 (i := 0) (l := [_]) rfl (by simp [maxLen])) rfl rfl underlying54 rfl rfl (size := 9) (bytes := 80) rfl rfl rfl (by decide) (vals_one _) (by simp only [List.length_cons, List.length_nil]; omega) (by simp only [maxLen, List.length_cons, List.length_nil]; omega) <| fun v39 w37 hH38 => ?_
      simp only [z2] at hH38
      refine AQ 11 rfl (hH38.sub (sQ (sP (sQ sR)))) (run_assign (by conv => lhs; whnf)) ?_
      refine AD <| CW.region <| vm e7_15 <| V (run_add rfl rfl (by omega)) <| aI rfl <| RL.nil <| ?_
      refine ⟨(k + 1, m ++ [valF a.as (r.fields.getD k.toNat field0)], v39), ?_, fr15.u4.u4.u4.u4.u4.u4.u4.u4.u1.u1.u1, (Hp.conv (hH38.sub (sQ (sQ sR))) (by simp [valF]; done)), rfl, (congrArg I (by rfl)), ?_, ?_, ?_, ?_, ?_⟩
      ·((try dsimp only); omega)
      ·omega
      ·omega
      ·(rw [take_snoc (d := field0) h0 ‹k < _›, List.map_append, ← List.append_assoc, ← hm]; rfl)
      ·(rw [take_snoc (d := field0) h0 ‹k < _›, all_snoc, hok, Bool.true_and]; exact nf ‹(!(atomF _ _).2) = false›)
      ·simp only [List.length_append, List.length_singleton]; omega
    ·refine AO.new rfl gnone rfl hH19 sR (f := fun b => .pointer (some ⟨b, 0, none⟩)) (run_alloc zero_el) <| fun b42 w40 hH41 => A1 7 <| AO.callP rfl gnone rfl hH41 (sQ sR) (c_clearanceref19_atom _ _  _ ((ha.mono hK).mono hH41.kw)) (run_call2 call29 rfl rfl) <| fun w43 hH44 => have zh44 := hH44.sub (sQ sR); ?_
     refine AQ 8 rfl zh44 (run_move (by conv => lhs; whnf)) ?_
     refine AQ 9 rfl zh44 (run_extract rfl (v := .agg _) rfl) <| AQ 10 rfl zh44 (run_extract rfl (v := B _) rfl) <| A1 12 <| AO.set rfl gnone hH44 (j := 0) rfl (sQ sR) (run_stEl rfl rfl rfl (hH44.blk (i := 0) rfl)) <| fun w48 hH49 => ?_
     simp only [z2] at hH49
     refine AQ 13 rfl (hH49.sub (sQ sR)) (aV (B _) rfl) <| AD <| CW.seq <| SR <| mB rfl <| V (run_not rfl) <| RL.nil <| CW.cond rfl (fun h51 => ?_) (fun h51 => ?_)
     ·refine SR <| va (v := .slice none 0 0) rfl <| va (v := B false) rfl <| RL.nil <| CW.ret <| have hrm : rowM a.as r = ([], false) := (by exact rr_no2 h0 ‹k < _› (nt ‹(!(atomF _ _).2) = true›)); out2 Tryz.results26 (x := .slice none 0 0) (y := B false) rfl rfl ⟨[], (hH49.sub (sQ (sQ (sQ (sQ sR))))), .slice none 0 0, ?_, ?_⟩
      ·rw [hrm]
      ·rw [hrm]; exact SlV.nil _ _
     ·refine CW.skip <| CW.regionS (by kernel_rfl) hH49 (sP (sQ sR)) <| fun w52 hH53 => have zh53 := hH53.sub (sP (sQ sR)); AQ 0 rfl zh53 (run_move e6_15) <| AQ 1 rfl zh53 (fA underlying44 0 rfl sizeOf42 e2_15) <| AT 2 rfl zh53 (fun w hS => run_ldV ((hr.mono hK).fields.sl.hp hS) underlying42 rfl rfl (hS.cell (i := 2) rfl rfl)) <| AQ 3 rfl zh53 (run_move e7_15) <| AT 4 rfl zh53 (fun w hS => run_indexAddrS ((hr.mono hK).fields.sl.hp hS) underlying42 sizeOf71 rfl rfl (by omega)) <| AQ 5 rfl zh53 (fA underlying71 0 rfl sizeOf9 rfl) <| AT 6 rfl zh53 (fun w hS => run_ldE1 (dv := field0) (off := 0) fieldL_len ((hr.mono hK).fields.sl.hp hS) underlying9 rfl rfl (by omega) rfl) <| AT 7 rfl zh53 (fun w hS => run_ldEl underlying39 rfl rfl rfl (hS.blk (i := 0) rfl)) <| AQ 8 rfl zh53 (run_bld (vs := [(0, S _), (1, .agg (elC _))]) rfl (built_val _ _)) <| A1 9 <| AO.new rfl gnone rfl hH53 (sP (sQ sR)) (f := fun b => .slice (some ⟨b, 0, none⟩) 1 1) (run_mkRecs valL_len underlying54 rfl rfl rfl (l := [_]) rfl (by decide) (by decide) rfl) <| fun b56 w54 hH55 => A1 10 <| AO.app rfl gnone rfl hH55 (j := 2) rfl (fun _ => (sQ (sP (sQ sR)))) (Hp.slFlat valL_len hH55 (i := 0) (l := [_]) rfl (by simp [maxLen])) rfl rfl underlying54 rfl rfl (size := 9) (bytes := 80) rfl rfl rfl (by decide) (vals_one _) (by simp only [List.length_cons, List.length_nil]; omega) (by simp only [maxLen, List.length_cons, List.length_nil]; omega) <| fun v59 w57 hH58 => ?_
      simp only [z2] at hH58
      refine AQ 11 rfl (hH58.sub (sQ (sP (sQ sR)))) (run_assign (by conv => lhs; whnf)) ?_
      refine AD <| CW.region <| vm e7_15 <| V (run_add rfl rfl (by omega)) <| aI rfl <| RL.nil <| ?_
      refine ⟨(k + 1, m ++ [valF a.as (r.fields.getD k.toNat field0)], v59), ?_, fr15.u4.u4.u4.u4.u4.u4.u4.u4.u1.u1.u1, (Hp.conv (hH58.sub (sQ (sQ sR))) (by simp [valF]; done)), rfl, (congrArg I (by rfl)), ?_, ?_, ?_, ?_, ?_⟩
      ·((try dsimp only); omega)
      ·omega
      ·omega
      ·(rw [take_snoc (d := field0) h0 ‹k < _›, List.map_append, ← List.append_assoc, ← hm]; rfl)
      ·(rw [take_snoc (d := field0) h0 ‹k < _›, all_snoc, hok, Bool.true_and]; exact nf ‹(!(atomF _ _).2) = false›)
      ·simp only [List.length_append, List.length_singleton]; omega
   ·refine CW.exit (id := 0) rfl <| SR <| va (v := .slice none 0 0) rfl <| have hH60 := hH15.nilRow 56 9; RL.nil <| CW.seq <| SR <| va (v := I 0) rfl <| RL.nil <| CW.block <| have hma : m = allV a.as r := (by rw [hm, List.take_of_length_le (by omega)]; rfl); have hmn : ∀ v ∈ m, v.name.size ≤ 1000 := (by rw [hma]; exact allV_names hrn hfn); CW.loop (G := Int × (List ValR) × Value) (fun ⟨q, m2, v10⟩ s' w' => (Fr (4 :: 5 :: (rg 10 4 (rg 62 29 []))) _ s') ∧ (Hp w w' (.row v10 56 9 (m2.length) (m2.flatMap valL) :: _)) ∧ (s' 10 = v10) ∧ (s' 11 = I q) ∧ (0 ≤ q) ∧ (q ≤ m.length) ∧ (m2 = layF (m.take q.toNat)) ∧ ((vnames (m.take q.toNat)).Nodup) ∧ ((m2.length : Int) ≤ q)) (fun ⟨q, m2, v10⟩ => (m.length - q).toNat) ((0, [], (.slice none 0 0 : Value))) ⟨Fr.refl _ _, hH60, rfl, rfl, (by omega), (by omega), rfl, (by simp [vnames]), (by simp)⟩ <| ?_
    rintro ⟨q, m2, v10⟩ sg61 w61 ⟨fr61, hH61, e10_61, e11_61, q0, qk, hm2, hnd, hml2⟩
    have e6_61 := (fr61 6 rfl).trans e6_15
    refine CW.seq <| SR <| vm e11_61 <| vm e6_61 <| V (run_lenSl (hH61.sl (i := 1) rfl) rfl underlying54 rfl) <| V (run_lss rfl rfl) <| RL.nil <| CW.condP rfl (fun h63 => ?_) (fun h63 => ?_)
    ·refine CW.skip <| CW.seq <| CW.block <| SR <| vm e10_61 <| vm e6_61 <| vm e11_61 <| V (run_indexAddrS (hH61.sl (i := 1) rfl) underlying54 sizeOf56 rfl rfl (by omega)) <| V (fA underlying56 0 rfl sizeOf9 rfl) <| V (run_ldE1 (dv := val0) (off := 0) valL_len (hH61.sl (i := 1) rfl) underlying9 rfl rfl (by omega) rfl) <| RL.callP rfl hH61 (c_clearanceref18_Get _ _ _  _ (hH61.sl (i := 0) rfl)) (run_call2 call25 rfl rfl) <| fun w64 hH65 => ?_
     refine V (run_move (by conv => lhs; whnf)) ?_
     refine V (run_extract rfl (v := .agg _) rfl) <| V (run_extract rfl (v := B _) rfl) <| RL.new rfl hH65 (f := fun b => (.pointer (some ⟨b, 0, none⟩))) (run_alloc zero_el) <| fun b69 w67 hH68 => RL.set hH68 (i := 0) rfl (run_stEl rfl rfl rfl (hH68.blk (i := 0) rfl)) <| fun w70 hH71 => ?_
     simp only [z2] at hH71
     refine aB rfl <| RL.nil <| CW.seq <| SR <| mB rfl <| RL.nil <| CW.cond rfl (fun h72 => ?_) (fun h72 => ?_)
     ·refine SR <| va (v := .slice none 0 0) rfl <| va (v := B false) rfl <| RL.nil <| CW.ret <| have hrm : rowM a.as r = ([], false) := (by exact rr_no3 hma q0 ‹q < _› (by rw [← hm2]; assumption)); out2 Tryz.results26 (x := .slice none 0 0) (y := B false) rfl rfl ⟨[], (hH71.sub (sQ (sQ (sQ (sQ (sQ sR)))))), .slice none 0 0, ?_, ?_⟩
      ·rw [hrm]
      ·rw [hrm]; exact SlV.nil _ _
     ·refine CW.skip <| CW.regionD (by kernel_rfl) hH71 <| fun w73 hH74 => have zh74 := hH74.sub sR; AQ 0 rfl zh74 (run_move e10_61) <| AQ 1 rfl zh74 (run_move e6_61) <| AQ 2 rfl zh74 (run_move e11_61) <| AT 3 rfl zh74 (fun w hS => run_indexAddrS (hS.sl (i := 2) rfl) underlying54 sizeOf56 rfl rfl (by omega)) <| AQ 4 rfl zh74 (fA underlying56 0 rfl sizeOf9 rfl) <| AT 5 rfl zh74 (fun w hS => run_ldE1 (dv := val0) (off := 0) valL_len (hS.sl (i := 2) rfl) underlying9 rfl rfl (by omega) rfl) <| AQ 6 rfl zh74 (run_move e6_61) <| AQ 7 rfl zh74 (run_move e11_61) <| AT 8 rfl zh74 (fun w hS => run_indexAddrS (hS.sl (i := 2) rfl) underlying54 sizeOf56 rfl rfl (by omega)) <| AQ 9 rfl zh74 (fA underlying56 1 rfl sizeOf39 rfl) <| AT 10 rfl zh74 (fun w hS => run_ldVE (hS.sl (i := 2) rfl) underlying39 rfl rfl rfl (by omega)) <| A1 11 <| AO.callR rfl gnone rfl hH74 sR (c_clearanceref18_With _ m2 (m.getD q.toNat val0).name (m.getD q.toNat val0).el (by omega) (hmn _ (List.mem_of_getElem? (getD_at (d := val0) q0 ‹q < _›))) _ (hH74.sl (i := 1) rfl)) (run_call3 call47 rfl rfl rfl) <| fun v77 w75 hH76 => ?_
      refine AQ 12 rfl (hH76.sub (sQ sR)) (run_assign (by conv => lhs; whnf)) ?_
      refine AD <| CW.region <| vm e11_61 <| V (run_add rfl rfl (by omega)) <| aI rfl <| RL.nil <| have hH78 := Hp.swap hH76 (i := 1) (by simp only [List.length_cons]; omega); ?_
      simp only [z2] at hH78
      refine ⟨(q + 1, withF m2 (m.getD q.toNat val0).name (m.getD q.toNat val0).el, v77), ?_, fr61.u4.u4.u4.u4.u4.u4.u4.u4.u1, (Hp.conv (hH78.sub (sQ sR)) (by rfl)), rfl, (congrArg I (by rfl)), ?_, ?_, ?_, ?_, ?_⟩
      ·((try dsimp only); omega)
      ·omega
      ·omega
      ·(rw [hm2]; exact (rr_step q0 ‹q < _› hnd (by rw [← hm2]; assumption)).2)
      ·(exact (rr_step q0 ‹q < _› hnd (by rw [← hm2]; assumption)).1)
      ·(have := with_len1 m2 (m.getD q.toNat val0).name (m.getD q.toNat val0).el; omega)
    ·refine CW.exit (id := 2) rfl <| SR <| vm e10_61 <| ?_
     refine V (run_assign (by conv => lhs; whnf)) ?_
     refine va (v := B true) rfl <| RL.nil <| CW.ret <| ?_
     obtain ⟨Z79, hz80, hv81, -⟩ := hH61.frz (K)
     have hH82 : Hp _ w61 (_ :: _ :: _ :: Z79) := hz80.zin0 (L := [_, _, _])
     have hrm := rr_yes (k := q) (a := a) (r := r) (by omega) (by rw [← List.take_of_length_le (l := r.fields) (show r.fields.length ≤ k.toNat by omega)]; exact hok) hma ‹¬ q < _› hnd
     refine out2 Tryz.results26 (x := v10) rfl rfl ⟨Z79, (hH82.sub (sQ (sQ (sQ sR)))), v10, ?_, ?_⟩
     ·(rw [hrm]; rfl)
     ·rw [hrm, ← hm2]; exact hv81
  ·refine CW.skip <| CW.seq <| SR <| va (v := I 0) rfl <| RL.nil <| CW.block <| ?_
   (try simp only [Nat.zero_add, List.nil_append] at hH7)
   refine CW.loop (G := Int × (List ValR) × Value) (fun ⟨k, m, v6⟩ s' w' => (Fr (rg 4 6 (rg 31 31 [])) _ s') ∧ (Hp w w' (.row v6 56 9 (m.length) (m.flatMap valL) :: _)) ∧ (s' 6 = v6) ∧ (s' 7 = I k) ∧ (0 ≤ k) ∧ (k ≤ r.fields.length) ∧ (m = tailV a.as r ++ (r.fields.take k.toNat).map (valF a.as)) ∧ (((r.fields.take k.toNat).all fun f => (atomF a.as f.at_).2) = true) ∧ ((m.length : Int) ≤ 1000 + k)) (fun ⟨k, m, v6⟩ => (r.fields.length - k).toNat) ((0, ([] : List ValR), (.slice none 0 0 : Value))) ⟨Fr.refl _ _, hH7, rfl, rfl, (by omega), (by omega), (by rw [tail_2 (by omega)]; simp; done), rfl, (by simp; done)⟩ ?_
   rintro ⟨k, m, v6⟩ sg83 w83 ⟨fr83, hH83, e6_83, e7_83, h0, hk, hm, hok, hml⟩
   have e2_83 := fr83.pp 2 rfl rfl
   have e3_83 := fr83.pp 3 rfl rfl
   refine CW.seq <| SR <| vm e7_83 <| V (fA underlying44 0 rfl sizeOf42 e2_83) <| V (run_ldV ((hr.mono hK).fields.sl.hp hH83) underlying42 rfl rfl (hH83.cell (i := 2) rfl rfl)) <| V (run_lenSl ((hr.mono hK).fields.sl.hp hH83) rfl underlying42 rfl) <| V (run_lss rfl rfl) <| RL.nil <| CW.condP rfl (fun h85 => ?_) (fun h85 => ?_)
   ·refine CW.skip <| CW.seq <| CW.block <| CW.seq <| CW.regionD (by kernel_rfl) hH83 <| fun w86 hH87 => have zh87 := hH87.sub sR; AQ 0 rfl zh87 (fA underlying44 0 rfl sizeOf42 e2_83) <| AT 1 rfl zh87 (fun w hS => run_ldV ((hr.mono hK).fields.sl.hp hS) underlying42 rfl rfl (hS.cell (i := 2) rfl rfl)) <| AQ 2 rfl zh87 (run_move e7_83) <| AT 3 rfl zh87 (fun w hS => run_indexAddrS ((hr.mono hK).fields.sl.hp hS) underlying42 sizeOf71 rfl rfl (by omega)) <| AQ 4 rfl zh87 (fA underlying71 1 rfl sizeOf41 rfl) <| AT 5 rfl zh87 (fun w hS => run_ldEA (dv := field0) (off := 1) (cs := atomL _) fieldL_len ((hr.mono hK).fields.sl.hp hS) underlying41 rfl rfl rfl (by omega) (field_atE _)) <| AT 6 rfl zh87 (fun w hS => run_ldA (cs := asgL _) underlying32 rfl rfl e3_83 (rangeAt_cells (hS.blk (i := 1) rfl))) <| AN.two 7 11 (by kernel_rfl) ?_ ?_
    ·refine AO.callP rfl gnone rfl hH87 sR (c_clearanceref19_atom _ _  _ ((ha.mono hK).mono hH87.kw)) (run_call2 call29 rfl rfl) <| fun w88 hH89 => have zh89 := hH89.sub sR; ?_
     refine AQ 8 rfl zh89 (run_move (by conv => lhs; whnf)) ?_
     refine AQ 9 rfl zh89 (run_extract rfl (v := .agg _) rfl) <| AQ 10 rfl zh89 (run_extract rfl (v := B _) rfl) <| A1 11 <| AO.new rfl gnone rfl hH89 sR (f := fun b => .pointer (some ⟨b, 0, none⟩)) (run_alloc zero_el) <| fun b93 w91 hH92 => A1 12 <| AO.set rfl gnone hH92 (j := 0) rfl (sQ sR) (run_stEl rfl rfl rfl (hH92.blk (i := 0) rfl)) <| fun w96 hH97 => ?_
     simp only [z2] at hH97
     refine AQ 13 rfl (hH97.sub (sQ sR)) (aV (B _) rfl) <| AD <| CW.seq <| SR <| mB rfl <| V (run_not rfl) <| RL.nil <| CW.cond rfl (fun h99 => ?_) (fun h99 => ?_)
     ·refine SR <| va (v := .slice none 0 0) rfl <| va (v := B false) rfl <| RL.nil <| CW.ret <| have hrm : rowM a.as r = ([], false) := (by exact rr_no2 h0 ‹k < _› (nt ‹(!(atomF _ _).2) = true›)); out2 Tryz.results26 (x := .slice none 0 0) (y := B false) rfl rfl ⟨[], (hH97.sub (sQ (sQ (sQ (sQ sR))))), .slice none 0 0, ?_, ?_⟩
      ·rw [hrm]
      ·rw [hrm]; exact SlV.nil _ _
     ·refine CW.skip <| CW.regionS (by kernel_rfl) hH97 (sP (sQ sR)) <| fun w100 hH101 => have zh101 := hH101.sub (sP (sQ sR)); AQ 0 rfl zh101 (run_move e6_83) <| AQ 1 rfl zh101 (fA underlying44 0 rfl sizeOf42 e2_83) <| AT 2 rfl zh101 (fun w hS => run_ldV ((hr.mono hK).fields.sl.hp hS) underlying42 rfl rfl (hS.cell (i := 2) rfl rfl)) <| AQ 3 rfl zh101 (run_move e7_83) <| AT 4 rfl zh101 (fun w hS => run_indexAddrS ((hr.mono hK).fields.sl.hp hS) underlying42 sizeOf71 rfl rfl (by omega)) <| AQ 5 rfl zh101 (fA underlying71 0 rfl sizeOf9 rfl) <| AT 6 rfl zh101 (fun w hS => run_ldE1 (dv := field0) (off := 0) fieldL_len ((hr.mono hK).fields.sl.hp hS) underlying9 rfl rfl (by omega) rfl) <| AT 7 rfl zh101 (fun w hS => run_ldEl underlying39 rfl rfl rfl (hS.blk (i := 0) rfl)) <| AQ 8 rfl zh101 (run_bld (vs := [(0, S _), (1, .agg (elC _))]) rfl (built_val _ _)) <| A1 9 <| AO.new rfl gnone rfl hH101 (sP (sQ sR)) (f := fun b => .slice (some ⟨b, 0, none⟩) 1 1) (run_mkRecs valL_len underlying54 rfl rfl rfl (l := [_]) rfl (by decide) (by decide) rfl) <| fun b104 w102 hH103 => A1 10 <| AO.app rfl gnone rfl hH103 (j := 2) rfl (fun _ => (sQ (sP (sQ sR)))) (Hp.slFlat valL_len hH103 (i := 0) (l := [_]) rfl (by simp [maxLen])) rfl rfl underlying54 rfl rfl (size := 9) (bytes := 80) rfl rfl rfl (by decide) (vals_one _) (by simp only [List.length_cons, List.length_nil]; omega) (by simp only [maxLen, List.length_cons, List.length_nil]; omega) <| fun v107 w105 hH106 => ?_
      simp only [z2] at hH106
      refine AQ 11 rfl (hH106.sub (sQ (sP (sQ sR)))) (run_assign (by conv => lhs; whnf)) ?_
      refine AD <| CW.region <| vm e7_83 <| V (run_add rfl rfl (by omega)) <| aI rfl <| RL.nil <| ?_
      refine ⟨(k + 1, m ++ [valF a.as (r.fields.getD k.toNat field0)], v107), ?_, fr83.u4.u4.u4.u4.u4.u4.u4.u4.u1.u1.u1, (Hp.conv (hH106.sub (sQ (sQ sR))) (by simp [valF]; done)), rfl, (congrArg I (by rfl)), ?_, ?_, ?_, ?_, ?_⟩
      ·((try dsimp only); omega)
      ·omega
      ·omega
      ·(rw [take_snoc (d := field0) h0 ‹k < _›, List.map_append, ← List.append_assoc, ← hm]; rfl)
      ·(rw [take_snoc (d := field0) h0 ‹k < _›, all_snoc, hok, Bool.true_and]; exact nf ‹(!(atomF _ _).2) = false›)
      ·simp only [List.length_append, List.length_singleton]; omega
    ·refine AO.new rfl gnone rfl hH87 sR (f := fun b => .pointer (some ⟨b, 0, none⟩)) (run_alloc zero_el) <| fun b110 w108 hH109 => A1 7 <| AO.callP rfl gnone rfl hH109 (sQ sR) (c_clearanceref19_atom _ _  _ ((ha.mono hK).mono hH109.kw)) (run_call2 call29 rfl rfl) <| fun w111 hH112 => have zh112 := hH112.sub (sQ sR); ?_
     refine AQ 8 rfl zh112 (run_move (by conv => lhs; whnf)) ?_
     refine AQ 9 rfl zh112 (run_extract rfl (v := .agg _) rfl) <| AQ 10 rfl zh112 (run_extract rfl (v := B _) rfl) <| A1 12 <| AO.set rfl gnone hH112 (j := 0) rfl (sQ sR) (run_stEl rfl rfl rfl (hH112.blk (i := 0) rfl)) <| fun w116 hH117 => ?_
     simp only [z2] at hH117
     refine AQ 13 rfl (hH117.sub (sQ sR)) (aV (B _) rfl) <| AD <| CW.seq <| SR <| mB rfl <| V (run_not rfl) <| RL.nil <| CW.cond rfl (fun h119 => ?_) (fun h119 => ?_)
     ·refine SR <| va (v := .slice none 0 0) rfl <| va (v := B false) rfl <| RL.nil <| CW.ret <| have hrm : rowM a.as r = ([], false) := (by exact rr_no2 h0 ‹k < _› (nt ‹(!(atomF _ _).2) = true›)); out2 Tryz.results26 (x := .slice none 0 0) (y := B false) rfl rfl ⟨[], (hH117.sub (sQ (sQ (sQ (sQ sR))))), .slice none 0 0, ?_, ?_⟩
      ·rw [hrm]
      ·rw [hrm]; exact SlV.nil _ _
     ·refine CW.skip <| CW.regionS (by kernel_rfl) hH117 (sP (sQ sR)) <| fun w120 hH121 => have zh121 := hH121.sub (sP (sQ sR)); AQ 0 rfl zh121 (run_move e6_83) <| AQ 1 rfl zh121 (fA underlying44 0 rfl sizeOf42 e2_83) <| AT 2 rfl zh121 (fun w hS => run_ldV ((hr.mono hK).fields.sl.hp hS) underlying42 rfl rfl (hS.cell (i := 2) rfl rfl)) <| AQ 3 rfl zh121 (run_move e7_83) <| AT 4 rfl zh121 (fun w hS => run_indexAddrS ((hr.mono hK).fields.sl.hp hS) underlying42 sizeOf71 rfl rfl (by omega)) <| AQ 5 rfl zh121 (fA underlying71 0 rfl sizeOf9 rfl) <| AT 6 rfl zh121 (fun w hS => run_ldE1 (dv := field0) (off := 0) fieldL_len ((hr.mono hK).fields.sl.hp hS) underlying9 rfl rfl (by omega) rfl) <| AT 7 rfl zh121 (fun w hS => run_ldEl underlying39 rfl rfl rfl (hS.blk (i := 0) rfl)) <| AQ 8 rfl zh121 (run_bld (vs := [(0, S _), (1, .agg (elC _))]) rfl (built_val _ _)) <| A1 9 <| AO.new rfl gnone rfl hH121 (sP (sQ sR)) (f := fun b => .slice (some ⟨b, 0, none⟩) 1 1) (run_mkRecs valL_len underlying54 rfl rfl rfl (l := [_]) rfl (by decide) (by decide) rfl) <| fun b124 w122 hH123 => A1 10 <| AO.app rfl gnone rfl hH123 (j := 2) rfl (fun _ => (sQ (sP (sQ sR)))) (Hp.slFlat valL_len hH123 (i := 0) (l := [_]) rfl (by simp [maxLen])) rfl rfl underlying54 rfl rfl (size := 9) (bytes := 80) rfl rfl rfl (by decide) (vals_one _) (by simp only [List.length_cons, List.length_nil]; omega) (by simp only [maxLen, List.length_cons, List.length_nil]; omega) <| fun v127 w125 hH126 => ?_
      simp only [z2] at hH126
      refine AQ 11 rfl (hH126.sub (sQ (sP (sQ sR)))) (run_assign (by conv => lhs; whnf)) ?_
      refine AD <| CW.region <| vm e7_83 <| V (run_add rfl rfl (by omega)) <| aI rfl <| RL.nil <| ?_
      refine ⟨(k + 1, m ++ [valF a.as (r.fields.getD k.toNat field0)], v127), ?_, fr83.u4.u4.u4.u4.u4.u4.u4.u4.u1.u1.u1, (Hp.conv (hH126.sub (sQ (sQ sR))) (by simp [valF]; done)), rfl, (congrArg I (by rfl)), ?_, ?_, ?_, ?_, ?_⟩
      ·((try dsimp only); omega)
      ·omega
      ·omega
      ·(rw [take_snoc (d := field0) h0 ‹k < _›, List.map_append, ← List.append_assoc, ← hm]; rfl)
      ·(rw [take_snoc (d := field0) h0 ‹k < _›, all_snoc, hok, Bool.true_and]; exact nf ‹(!(atomF _ _).2) = false›)
      ·simp only [List.length_append, List.length_singleton]; omega
   ·refine CW.exit (id := 0) rfl <| SR <| va (v := .slice none 0 0) rfl <| have hH128 := hH83.nilRow 56 9; RL.nil <| CW.seq <| SR <| va (v := I 0) rfl <| RL.nil <| CW.block <| have hma : m = allV a.as r := (by rw [hm, List.take_of_length_le (by omega)]; rfl); have hmn : ∀ v ∈ m, v.name.size ≤ 1000 := (by rw [hma]; exact allV_names hrn hfn); CW.loop (G := Int × (List ValR) × Value) (fun ⟨q, m2, v10⟩ s' w' => (Fr (4 :: 5 :: (rg 10 4 (rg 62 29 []))) _ s') ∧ (Hp w w' (.row v10 56 9 (m2.length) (m2.flatMap valL) :: _)) ∧ (s' 10 = v10) ∧ (s' 11 = I q) ∧ (0 ≤ q) ∧ (q ≤ m.length) ∧ (m2 = layF (m.take q.toNat)) ∧ ((vnames (m.take q.toNat)).Nodup) ∧ ((m2.length : Int) ≤ q)) (fun ⟨q, m2, v10⟩ => (m.length - q).toNat) ((0, [], (.slice none 0 0 : Value))) ⟨Fr.refl _ _, hH128, rfl, rfl, (by omega), (by omega), rfl, (by simp [vnames]), (by simp)⟩ <| ?_
    rintro ⟨q, m2, v10⟩ sg129 w129 ⟨fr129, hH129, e10_129, e11_129, q0, qk, hm2, hnd, hml2⟩
    have e6_129 := (fr129 6 rfl).trans e6_83
    refine CW.seq <| SR <| vm e11_129 <| vm e6_129 <| V (run_lenSl (hH129.sl (i := 1) rfl) rfl underlying54 rfl) <| V (run_lss rfl rfl) <| RL.nil <| CW.condP rfl (fun h131 => ?_) (fun h131 => ?_)
    ·refine CW.skip <| CW.seq <| CW.block <| SR <| vm e10_129 <| vm e6_129 <| vm e11_129 <| V (run_indexAddrS (hH129.sl (i := 1) rfl) underlying54 sizeOf56 rfl rfl (by omega)) <| V (fA underlying56 0 rfl sizeOf9 rfl) <| V (run_ldE1 (dv := val0) (off := 0) valL_len (hH129.sl (i := 1) rfl) underlying9 rfl rfl (by omega) rfl) <| RL.callP rfl hH129 (c_clearanceref18_Get _ _ _  _ (hH129.sl (i := 0) rfl)) (run_call2 call25 rfl rfl) <| fun w132 hH133 => ?_
     refine V (run_move (by conv => lhs; whnf)) ?_
     refine V (run_extract rfl (v := .agg _) rfl) <| V (run_extract rfl (v := B _) rfl) <| RL.new rfl hH133 (f := fun b => (.pointer (some ⟨b, 0, none⟩))) (run_alloc zero_el) <| fun b137 w135 hH136 => RL.set hH136 (i := 0) rfl (run_stEl rfl rfl rfl (hH136.blk (i := 0) rfl)) <| fun w138 hH139 => ?_
     simp only [z2] at hH139
     refine aB rfl <| RL.nil <| CW.seq <| SR <| mB rfl <| RL.nil <| CW.cond rfl (fun h140 => ?_) (fun h140 => ?_)
     ·refine SR <| va (v := .slice none 0 0) rfl <| va (v := B false) rfl <| RL.nil <| CW.ret <| have hrm : rowM a.as r = ([], false) := (by exact rr_no3 hma q0 ‹q < _› (by rw [← hm2]; assumption)); out2 Tryz.results26 (x := .slice none 0 0) (y := B false) rfl rfl ⟨[], (hH139.sub (sQ (sQ (sQ (sQ (sQ sR)))))), .slice none 0 0, ?_, ?_⟩
      ·rw [hrm]
      ·rw [hrm]; exact SlV.nil _ _
     ·refine CW.skip <| CW.regionD (by kernel_rfl) hH139 <| fun w141 hH142 => have zh142 := hH142.sub sR; AQ 0 rfl zh142 (run_move e10_129) <| AQ 1 rfl zh142 (run_move e6_129) <| AQ 2 rfl zh142 (run_move e11_129) <| AT 3 rfl zh142 (fun w hS => run_indexAddrS (hS.sl (i := 2) rfl) underlying54 sizeOf56 rfl rfl (by omega)) <| AQ 4 rfl zh142 (fA underlying56 0 rfl sizeOf9 rfl) <| AT 5 rfl zh142 (fun w hS => run_ldE1 (dv := val0) (off := 0) valL_len (hS.sl (i := 2) rfl) underlying9 rfl rfl (by omega) rfl) <| AQ 6 rfl zh142 (run_move e6_129) <| AQ 7 rfl zh142 (run_move e11_129) <| AT 8 rfl zh142 (fun w hS => run_indexAddrS (hS.sl (i := 2) rfl) underlying54 sizeOf56 rfl rfl (by omega)) <| AQ 9 rfl zh142 (fA underlying56 1 rfl sizeOf39 rfl) <| AT 10 rfl zh142 (fun w hS => run_ldVE (hS.sl (i := 2) rfl) underlying39 rfl rfl rfl (by omega)) <| A1 11 <| AO.callR rfl gnone rfl hH142 sR (c_clearanceref18_With _ m2 (m.getD q.toNat val0).name (m.getD q.toNat val0).el (by omega) (hmn _ (List.mem_of_getElem? (getD_at (d := val0) q0 ‹q < _›))) _ (hH142.sl (i := 1) rfl)) (run_call3 call47 rfl rfl rfl) <| fun v145 w143 hH144 => ?_
      refine AQ 12 rfl (hH144.sub (sQ sR)) (run_assign (by conv => lhs; whnf)) ?_
      refine AD <| CW.region <| vm e11_129 <| V (run_add rfl rfl (by omega)) <| aI rfl <| RL.nil <| have hH146 := Hp.swap hH144 (i := 1) (by simp only [List.length_cons]; omega); ?_
      simp only [z2] at hH146
      refine ⟨(q + 1, withF m2 (m.getD q.toNat val0).name (m.getD q.toNat val0).el, v145), ?_, fr129.u4.u4.u4.u4.u4.u4.u4.u4.u1, (Hp.conv (hH146.sub (sQ sR)) (by rfl)), rfl, (congrArg I (by rfl)), ?_, ?_, ?_, ?_, ?_⟩
      ·((try dsimp only); omega)
      ·omega
      ·omega
      ·(rw [hm2]; exact (rr_step q0 ‹q < _› hnd (by rw [← hm2]; assumption)).2)
      ·(exact (rr_step q0 ‹q < _› hnd (by rw [← hm2]; assumption)).1)
      ·(have := with_len1 m2 (m.getD q.toNat val0).name (m.getD q.toNat val0).el; omega)
    ·refine CW.exit (id := 2) rfl <| SR <| vm e10_129 <| ?_
     refine V (run_assign (by conv => lhs; whnf)) ?_
     refine va (v := B true) rfl <| RL.nil <| CW.ret <| ?_
     obtain ⟨Z147, hz148, hv149, -⟩ := hH129.frz (K)
     have hH150 : Hp _ w129 (_ :: _ :: _ :: Z147) := hz148.zin0 (L := [_, _, _])
     have hrm := rr_yes (k := q) (a := a) (r := r) (by omega) (by rw [← List.take_of_length_le (l := r.fields) (show r.fields.length ≤ k.toNat by omega)]; exact hok) hma ‹¬ q < _› hnd
     refine out2 Tryz.results26 (x := v10) rfl rfl ⟨Z147, (hH150.sub (sQ (sQ (sQ sR)))), v10, ?_, ?_⟩
     ·(rw [hrm]; rfl)
     ·rw [hrm, ← hm2]; exact hv149
theorem c_holds_equal (x : AssR) (a : Asg) (hx2 : AssSm x) (ha2 : AsgSm a) (w : World) (hx : AssV (Kw w) x) (ha : AsgV (Kw w) a) : Calls Tryz.prog 21 #[.agg (assL x).toArray, .agg (asgL a).toArray] w (Pure (B ((rowM a.as x.a).2 && (rowM a.as x.b).2 && sameL (rowM a.as x.a).1 (rowM a.as x.b).1)) w) := by
 have hm1 := ha.labels.small
 have hm2 := ha.rows.small
 have hm3 := hx.code.small
 unfold maxLen at hm1 hm2 hm3
 refine enter Tryz.func21 rfl Tryz.ntmps21 rfl <| have hH := Hp.start w; SR <| RL.new rfl hH (f := fun b => (.pointer (some ⟨b, 0, none⟩))) (run_box (v := .agg _) rfl) <| fun b3 w1 hH2 => RL.new rfl hH2 (f := fun b => (.pointer (some ⟨b, 0, none⟩))) (run_box (v := .agg _) rfl) <| fun b6 w4 hH5 => va (v := B false) rfl <| RL.nil <| SR <| V (fA underlying46 12 rfl sizeOf44 rfl) <| V (run_ldSub (sub := rtmL _) underlying44 rfl rfl rfl (hH5.blk (i := 1) rfl) (ass_aB _)) <| V (run_ldA (cs := asgL _) underlying32 rfl rfl rfl (rangeAt_cells (hH5.blk (i := 0) rfl))) <| RL.callF rfl hH5 (c_holds_Row (Kw w) x.a a ha2.rl hx2.fa _ hH5.kw hx.a ha) (run_call2 call43 rfl rfl) <| fun v9 w10 Z12 hH11 hp13 => have hH14 : Hp _ w10 (_ :: _ :: Z12) := hH11.zin0 (L := [_, _]); ?_
 obtain ⟨v15, rfl, hv16⟩ := hp13
 refine V (run_move (by conv => lhs; whnf)) ?_
 refine V (run_extract rfl rfl) <| V (run_extract rfl (v := B _) rfl) <| ?_
 refine V (run_assign (by conv => lhs; whnf)) ?_
 refine aB rfl <| RL.nil <| SR <| V (fA underlying46 14 rfl sizeOf44 rfl) <| V (run_ldSub (sub := rtmL _) underlying44 rfl rfl rfl (hH14.blk (i := 1) rfl) (ass_bB _)) <| V (run_ldA (cs := asgL _) underlying32 rfl rfl rfl (rangeAt_cells (hH14.blk (i := 0) rfl))) <| RL.callF rfl hH14 (c_holds_Row (Kw w) x.b a ha2.rl hx2.fb _ hH14.kw hx.b ha) (run_call2 call43 rfl rfl) <| fun v20 w21 Z23 hH22 hp24 => have hH25 : Hp _ w21 (_ :: _ :: (Z23 ++ Z12)) := hH22.zin (L := [_, _]) (L' := Z12); ?_
 obtain ⟨v26, rfl, hv27⟩ := hp24
 refine V (run_move (by conv => lhs; whnf)) ?_
 refine V (run_extract rfl rfl) <| V (run_extract rfl (v := B _) rfl) <| ?_
 refine V (run_assign (by conv => lhs; whnf)) ?_
 refine aB rfl <| RL.nil <| CW.seq <| SR <| mB rfl <| V (run_not rfl) <| mB rfl <| RL.split (dj := 26) rfl (fun h30 => ?_) (fun h30 => ?_)
 ·refine gF rfl (bR (c := true) h30) <| gF rfl (bR (c := true) h30) <| V (run_pickT (bR (c := true) h30) (v := B true) rfl) <| mB rfl <| gF rfl rfl <| gF rfl rfl <| gF rfl rfl <| gF rfl rfl <| gF rfl rfl <| V (run_pickT rfl (v := B true) rfl) <| RL.nil <| CW.condT rfl <| SR <| va (v := B false) rfl <| RL.nil <| CW.ret <| outP1 Tryz.results21 (congrArg B ?_) hH25.below
  (rw [nt ‹(!(rowM a.as x.a).2) = true›]; rfl)
 ·refine gT rfl (bR (c := false) h30) <| mB rfl <| gT rfl (bR (c := false) h30) <| V (run_not rfl) <| V (run_pickF (bR (c := false) h30) (v := B _) rfl) <| mB rfl <| RL.split (dj := 30) rfl (fun h32 => ?_) (fun h32 => ?_)
  ·refine gF rfl (bR (c := true) h32) <| gF rfl (bR (c := true) h32) <| gF rfl (bR (c := true) h32) <| gF rfl (bR (c := true) h32) <| gF rfl (bR (c := true) h32) <| V (run_pickT (bR (c := true) h32) (v := B true) rfl) <| RL.nil <| CW.condT rfl <| SR <| va (v := B false) rfl <| RL.nil <| CW.ret <| outP1 Tryz.results21 (congrArg B ?_) hH25.below
   (rw [nt ‹(!(rowM a.as x.b).2) = true›]; simp; done)
  ·refine gT rfl (bR (c := false) h32) ?_
   refine V (run_move (by conv => lhs; whnf)) ?_
   refine gT rfl (bR (c := false) h32) <| V (run_lenSl (hv16.mono (hH25.kz (Le.refl _) (fun x hx => (mT (mT (List.mem_append_right _ hx)))))).sl rfl underlying54 rfl) <| gT rfl (bR (c := false) h32) <| ?_
   refine V (run_move (by conv => lhs; whnf)) ?_
   refine gT rfl (bR (c := false) h32) <| V (run_lenSl (hv27.mono (hH25.kz (Le.refl _) (fun x hx => (mT (mT (List.mem_append_left _ hx)))))).sl rfl underlying54 rfl) <| gT rfl (bR (c := false) h32) <| V (run_neq rfl rfl) <| V (run_pickF (bR (c := false) h32) (v := B _) rfl) <| RL.nil <| CW.condP rfl (fun h34 => ?_) (fun h34 => ?_)
   ·refine SR <| va (v := B false) rfl <| RL.nil <| CW.ret <| outP1 Tryz.results21 (congrArg B ?_) hH25.below
    (rw [sameL_no1 ‹_›]; simp; done)
   ·refine CW.skip <| CW.seq <| SR <| ?_
    refine V (run_move (by conv => lhs; whnf)) ?_
    refine V (run_lenSl (hv16.mono (hH25.kz (Le.refl _) (fun x hx => (mT (mT (List.mem_append_right _ hx)))))).sl rfl underlying54 rfl) <| vm (v := I 0) rfl <| RL.nil <| CW.block <| have hlm : ((rowM a.as x.a).1.length : Int) = (rowM a.as x.b).1.length := (by omega); have hls : ((rowM a.as x.a).1.length : Int) ≤ 2000 := (by have := rowM_len ha2.rl hx2.fa; omega); CW.loop (G := Int) (fun k s' w' => (Fr (4 :: (9 :: (rg 39 13 []))) _ s') ∧ (Hp w w' _) ∧ (s' 39 = I k) ∧ (0 ≤ k) ∧ (k ≤ (rowM a.as x.a).1.length) ∧ (∀ i : Int, 0 ≤ i → i < k → sameV ((rowM a.as x.a).1.getD i.toNat val0) ((rowM a.as x.b).1.getD i.toNat val0) = true)) (fun k => ((rowM a.as x.a).1.length - k).toNat) (0) ⟨Fr.refl _ _, hH25, rfl, (by omega), (by omega), fun j a b => absurd b (by omega)⟩ <| ?_
    rintro k sg35 w35 ⟨fr35, hH35, e39_35, h0, hk, hq⟩
    have e5_35 := (fr35 5 rfl).trans (by conv => lhs; whnf)
    have e7_35 := (fr35 7 rfl).trans (by conv => lhs; whnf)
    have e38_35 := fr35.ii 38 rfl rfl
    refine SR <| V (run_lss e39_35 e38_35) <| RL.nil <| CW.seq <| CW.condP rfl (fun h37 => ?_) (fun h37 => ?_)
    ·refine CW.skip <| CW.seq <| CW.block <| SR <| vm e39_35 <| aI rfl <| RL.nil <| CW.seq <| CW.regionD (by kernel_rfl) hH35 <| fun w38 hH39 => have zh39 := hH39.sub sR; AQ 0 rfl zh39 (run_move e5_35) <| AQ 1 rfl zh39 (mV (I _) rfl) <| AT 2 rfl zh39 (fun w hS => run_indexAddrS (hv16.mono (hS.kz (Le.refl _) (fun x hx => (mT (mT (List.mem_append_right _ hx)))))).sl underlying54 sizeOf56 rfl rfl (by omega)) <| AT 3 rfl zh39 (fun w hS => run_ldE (dv := val0) valL_len (hv16.mono (hS.kz (Le.refl _) (fun x hx => (mT (mT (List.mem_append_right _ hx)))))).sl underlying56 rfl rfl rfl (by omega)) <| AQ 4 rfl zh39 (run_move e7_35) <| AQ 5 rfl zh39 (mV (I _) rfl) <| AT 6 rfl zh39 (fun w hS => run_indexAddrS (hv27.mono (hS.kz (Le.refl _) (fun x hx => (mT (mT (List.mem_append_left _ hx)))))).sl underlying54 sizeOf56 rfl rfl (by omega)) <| AT 7 rfl zh39 (fun w hS => run_ldE (dv := val0) valL_len (hv27.mono (hS.kz (Le.refl _) (fun x hx => (mT (mT (List.mem_append_left _ hx)))))).sl underlying56 rfl rfl rfl (by omega)) <| AQ 8 rfl zh39 (run_neqT (eq_val _ _) rfl rfl) <| AD <| CW.cond rfl (fun h41 => ?_) (fun h41 => ?_)
     ·refine SR <| va (v := B false) rfl <| RL.nil <| CW.ret <| outP1 Tryz.results21 (congrArg B ?_) hH39.below
      (rw [sameL_no2 h0 ‹k < _› (nt ‹(!sameV _ _) = true›)]; simp; done)
     ·refine CW.skip <| CW.region <| V (run_add e39_35 rfl (by omega)) <| mI rfl <| RL.nil <| ?_
      refine ⟨k + 1, ?_, fr35.u4.u4.u4.u1.u1, hH39, (congrArg I (by rfl)), ?_, ?_, ?_⟩
      ·((try dsimp only); omega)
      ·omega
      ·omega
      ·exact fun i u v => if e : i = k then e ▸ nf ‹(!sameV _ _) = false› else hq i u (by omega)
    ·refine CW.exit (id := 0) rfl <| SR <| va (v := B true) rfl <| RL.nil <| CW.ret <| outP1 Tryz.results21 (congrArg B ?_) hH35.below
     (rw [nf ‹(!(rowM a.as x.a).2) = false›, nf ‹(!(rowM a.as x.b).2) = false›, sameL_yes hlm ‹¬ k < _› hq]; rfl)
end Go.Proofs.YtkdbiooamgnfmaaGreatDoor.W
