/-
  The walks of the functions that the laws of this seat reach, part 3: each returns what its plain counterpart tells, and turns nothing that was there.
-/
import Derived.Test.YtieckcbckgalhaaGreatDoorProg
import Derived.Test.YtieckcbckgalhaaGreatDoorEnv
import Derived.Test.YtieckcbckgalhaaGreatDoorPlain
import Derived.Test.YtieckcbckgalhaaGreatDoorBase
import Derived.Test.YtieckcbckgalhaaGreatDoorOrd
import Derived.Test.YtieckcbckgalhaaGreatDoorRel
import Derived.Test.YtieckcbckgalhaaGreatDoorClo
import Derived.Test.YtieckcbckgalhaaGreatDoorCov
import Derived.Test.YtieckcbckgalhaaGreatDoorArr
import Derived.Test.YtieckcbckgalhaaGreatDoorHas
import Derived.Test.YtieckcbckgalhaaGreatDoorGrd
import Derived.Test.YtieckcbckgalhaaGreatDoorStr
import Derived.Test.YtieckcbckgalhaaGreatDoorVu
import Derived.Test.YtieckcbckgalhaaGreatDoorShp
import Derived.Test.YtieckcbckgalhaaGreatDoorShl
import Derived.Test.YtieckcbckgalhaaGreatDoorShq
import Derived.Test.YtieckcbckgalhaaGreatDoorShr
import Derived.Test.YtieckcbckgalhaaGreatDoorCut
import Derived.Test.YtieckcbckgalhaaGreatDoorRec
import Derived.Test.YtieckcbckgalhaaGreatDoorOut
import Derived.Test.YtieckcbckgalhaaGreatDoorScp
import Derived.Test.YtieckcbckgalhaaGreatDoorScq
import Derived.Test.YtieckcbckgalhaaGreatDoorByt
import Derived.Test.YtieckcbckgalhaaGreatDoorNod
import Derived.Test.YtieckcbckgalhaaGreatDoorSpl
import Derived.Test.YtieckcbckgalhaaGreatDoorSpb
import Derived.Test.YtieckcbckgalhaaGreatDoorSpt
import Derived.Test.YtieckcbckgalhaaGreatDoorSpn
import Derived.Test.YtieckcbckgalhaaGreatDoorSpx
import Derived.Test.YtieckcbckgalhaaGreatDoorSpy
import Derived.Test.YtieckcbckgalhaaGreatDoorMk
import Derived.Test.YtieckcbckgalhaaGreatDoorAsn
import Derived.Test.YtieckcbckgalhaaGreatDoorAsp
import Derived.Test.YtieckcbckgalhaaGreatDoorAsr
import Derived.Test.YtieckcbckgalhaaGreatDoorAst
import Derived.Test.YtieckcbckgalhaaGreatDoorMin
import Derived.Test.YtieckcbckgalhaaGreatDoorAssignOrderPacesB
namespace Go.Proofs.YtieckcbckgalhaaGreatDoor.W
open Go Go.RowKit Go.Proofs.YtieckcbckgalhaaGreatDoor.E Go.Proofs.YtieckcbckgalhaaGreatDoor.M
set_option linter.unusedVariables false
set_option linter.unusedSimpArgs false
set_option maxRecDepth 100000
open Tryz

theorem c_clearanceref18_Meet (K : Vu) (a b : Asg) (hrl : ∀ r ∈ a.rows, r.l.length ≤ 1000) (hla : a.labels.length ≤ 1000) (hlr : a.rows.length ≤ 1000) (w : World) (hK : Le K (Kw w)) (ha : AsgV K a) (hb : AsgV K b) : Calls Tryz.prog 20 #[.agg (asgL a).toArray, .agg (asgL b).toArray] w (PureF K (fun K' u => ∃ m : Asg, u = .agg (asgL m).toArray ∧ m.as = meetA a.as b.as ∧ AsgV K' m) w) := by
 have hm1 := ha.labels.small
 have hm2 := ha.rows.small
 have hm3 := hb.labels.small
 have hm4 := hb.rows.small
 unfold maxLen at hm1 hm2 hm3 hm4
 refine enter Tryz.func20 rfl Tryz.ntmps20 rfl ?_
 have hH := Hp.start w
 refine SR ?_
 refine RL.new rfl hH (f := fun b => (.pointer (some ⟨b, 0, none⟩))) (run_box (v := .agg _) rfl) ?_
 intro b3 w1 hH2
 refine RL.new rfl hH2 (f := fun b => (.pointer (some ⟨b, 0, none⟩))) (run_box (v := .agg _) rfl) ?_
 intro b6 w4 hH5
 refine RL.new rfl hH5 (f := fun b => (.pointer (some ⟨b, 0, none⟩))) (run_alloc zero_asg) ?_
 intro b9 w7 hH8
 refine RL.nil ?_
 refine SR ?_
 refine RL.new rfl hH8 (f := fun b => .pointer (some ⟨b, 0, none⟩)) (run_alloc zero_asg) ?_
 intro b12 w10 hH11
 have hH13 := hH11.nilRow 51 8
 have hH14 := hH13.nilRow 48 1
 refine RL.nil ?_
 refine CW.seq ?_
 refine SR ?_
 refine V (aV (I 0) rfl) ?_
 refine RL.nil ?_
 refine CW.block ?_
 refine CW.loop (G := (Int) × (Value) × (List El)) (fun (⟨k, v0, ls⟩ : (Int) × (Value) × (List El)) s' w' => (Fr [6, 13, 14, 15, 16, 17, 18, 19, 20, 21, 22, 23, 24, 25, 26, 27, 28, 29, 30, 31, 32, 33, 34, 35, 36, 37, 38, 39, 40, 41, 42] _ s') ∧ (Hp w w' (_ :: .row v0 51 8 (ls.length) (ls.flatMap elL) :: .blk b12 (.cells (#[v0, .slice none 0 0]) 29 (0, 0)) :: _)) ∧ (s' 6 = I k) ∧ (0 ≤ k) ∧ (k ≤ a.labels.length) ∧ (ls = ((a.labels.zip b.labels).take k.toNat).map fun p => meetE p.1 p.2) ∧ ((ls.length : Int) = k)) (fun (⟨k, v0, ls⟩ : (Int) × (Value) × (List El)) => (a.labels.length - k).toNat) ((0, (.slice none 0 0 : Value), [])) ⟨Fr.refl _ _, hH14, rfl, (by omega), (by omega), rfl, rfl⟩ ?_
 rintro ⟨k, v0, ls⟩ sg15 w15 ⟨fr15, hH15, e6_15, h0, hk, hm, hl⟩
 have e2_15 : sg15 2 = Pn _ _ := (fr15 2 rfl).trans rfl
 have e3_15 : sg15 3 = Pn _ _ := (fr15 3 rfl).trans rfl
 have e4_15 : sg15 4 = Pn _ _ := (fr15 4 rfl).trans rfl
 have e5_15 : sg15 5 = Pn _ _ := (fr15 5 rfl).trans rfl
 refine CW.seq ?_
 refine SR ?_
 refine V (run_move e6_15) ?_
 refine V (fA underlying29 0 rfl sizeOf26 e2_15) ?_
 refine V (run_ldV ((ha.mono hK).labels.sl.hp hH15) underlying26 rfl rfl (hH15.cell (i := 5) rfl rfl)) ?_
 refine V (run_lenSl ((ha.mono hK).labels.sl.hp hH15) rfl underlying26 rfl) ?_
 refine V (run_lss rfl rfl) ?_
 refine V (mV (B _) rfl) ?_
 refine RL.splitP (dj := 18) rfl (fun h17 => ?_) (fun h17 => ?_)
 ·refine RL.gT rfl (bT h17) ?_
  refine V (run_move e6_15) ?_
  refine RL.gT rfl (bT h17) ?_
  refine V (fA underlying29 0 rfl sizeOf26 e3_15) ?_
  refine RL.gT rfl (bT h17) ?_
  refine V (run_ldV ((hb.mono hK).labels.sl.hp hH15) underlying26 rfl rfl (hH15.cell (i := 4) rfl rfl)) ?_
  refine RL.gT rfl (bT h17) ?_
  refine V (run_lenSl ((hb.mono hK).labels.sl.hp hH15) rfl underlying26 rfl) ?_
  refine RL.gT rfl (bT h17) ?_
  refine V (run_lss rfl rfl) ?_
  refine V (run_pickT (bT h17) (v := B _) rfl) ?_
  refine RL.nil ?_
  refine CW.condP rfl (fun h19 => ?_) (fun h19 => ?_)
  ·refine CW.skip ?_
   refine CW.seq ?_
   refine CW.block ?_
   refine CW.regionS (by kernel_rfl) hH15 (sP (sQ (sQ sR))) ?_
   intro w20 hH21
   refine AT 0 rfl (hH21.sub (sP (sQ (sQ sR)))) (fun w hS => fA underlying29 0 rfl sizeOf26 e5_15) ?_
   refine AT 2 rfl (hH21.sub (sP (sQ (sQ sR)))) (fun w hS => fA underlying29 0 rfl sizeOf26 e2_15) ?_
   refine AT 3 rfl (hH21.sub (sP (sQ (sQ sR)))) (fun w hS => run_ldV ((ha.mono hK).labels.sl.hp hS) underlying26 rfl rfl (hS.cell (i := 3) rfl rfl)) ?_
   refine AT 4 rfl (hH21.sub (sP (sQ (sQ sR)))) (fun w hS => run_move e6_15) ?_
   refine AT 5 rfl (hH21.sub (sP (sQ (sQ sR)))) (fun w hS => run_indexAddrS ((ha.mono hK).labels.sl.hp hS) underlying26 sizeOf51 rfl rfl (by omega)) ?_
   refine AT 6 rfl (hH21.sub (sP (sQ (sQ sR)))) (fun w hS => run_ldElS ((ha.mono hK).labels.sl.hp hS) underlying51 rfl rfl rfl (by omega)) ?_
   refine AT 7 rfl (hH21.sub (sP (sQ (sQ sR)))) (fun w hS => fA underlying29 0 rfl sizeOf26 e3_15) ?_
   refine AT 8 rfl (hH21.sub (sP (sQ (sQ sR)))) (fun w hS => run_ldV ((hb.mono hK).labels.sl.hp hS) underlying26 rfl rfl (hS.cell (i := 2) rfl rfl)) ?_
   refine AT 9 rfl (hH21.sub (sP (sQ (sQ sR)))) (fun w hS => run_move e6_15) ?_
   refine AT 10 rfl (hH21.sub (sP (sQ (sQ sR)))) (fun w hS => run_indexAddrS ((hb.mono hK).labels.sl.hp hS) underlying26 sizeOf51 rfl rfl (by omega)) ?_
   refine AT 11 rfl (hH21.sub (sP (sQ (sQ sR)))) (fun w hS => run_ldElS ((hb.mono hK).labels.sl.hp hS) underlying51 rfl rfl rfl (by omega)) ?_
   refine AN.two 1 12 (by kernel_rfl) ?_ ?_
   ·refine AO.read rfl gnone rfl hH21 (sP (sQ (sQ sR))) (run_ld underlying26 rfl rfl (hH21.cell (i := 2) rfl rfl)) ?_
    refine A1 12 ?_
    refine AO.callP rfl gnone rfl hH21 (sP (sQ (sQ sR))) (c_clearanceref07_Meet _ _  _) (run_call2 call47 rfl rfl) ?_
    intro w24 hH25
    refine A1 13 ?_
    refine AO.new rfl gnone rfl hH25 (sP (sQ (sQ sR))) (f := fun b => .slice (some ⟨b, 0, none⟩) 1 1) (run_mkEl1 underlying26 rfl rfl rfl rfl) ?_
    intro b28 w26 hH27
    (try simp only [List.flatMap_cons, List.flatMap_nil, clI, clB, clS, clP, clL, clA, List.append_nil, List.cons_append, List.nil_append] at hH27)
    refine A1 14 ?_
    refine AO.app rfl gnone rfl hH27 (j := 2) rfl (fun _ => (sQ (sP (sQ (sQ sR))))) (Hp.slFlat elL_len hH27 (i := 0) (l := [_]) rfl (by simp [maxLen])) rfl rfl underlying26 rfl rfl (size := 8) (bytes := 64) rfl rfl rfl (by decide) (els_one _) (by first | (show (ls.length + 1) * _ ≤ _; omega) | (show (gr.length + 1) * _ ≤ _; omega) | (show (m2.length + 1) * _ ≤ _; omega)) (by first | (show ls.length + 1 ≤ _; simp only [maxLen]; omega) | (show gr.length + 1 ≤ _; simp only [maxLen]; omega) | (show m2.length + 1 ≤ _; simp only [maxLen]; omega)) ?_
    intro v31 w29 hH30
    simp only [z0, z1] at hH30
    refine AT 15 rfl (hH30.sub (sQ (sP (sQ (sQ sR))))) (fun w hS => fA underlying29 0 rfl sizeOf26 e5_15) ?_
    refine A1 16 ?_
    refine AO.set rfl gnone hH30 (j := 3) rfl (sQ (sP (sQ (sQ sR)))) (run_st rfl rfl (v := v31) rfl (row_cells (hH30.get (i := 2) rfl)).1 (row_cells (hH30.get (i := 2) rfl)).2 (hH30.blk (i := 3) rfl) (by first | (show 0 < 2; decide) | decide | (simp only [List.size_toArray, asgL_len]; decide) | simp)) ?_
    intro w34 hH35
    simp only [z0, z1] at hH35
    refine AD ?_
    refine CW.region ?_
    refine V (run_move e6_15) ?_
    refine V (run_add rfl rfl (by omega)) ?_
    refine V (aV (I _) rfl) ?_
    refine RL.nil ?_
    refine ⟨(k + 1, v31, (ls ++ [meetE (a.labels.getD k.toNat el0) (b.labels.getD k.toNat el0)])), ?_, fr15.u4.u4.u4.u4.u4.u4.u4.u1.u1.u1, (Hp.conv (hH35.sub (sQ sR)) (by first | rfl | (simp; done))), (congrArg I (by first | rfl | omega)), ?_, ?_, ?_, ?_⟩
    ·((try dsimp only); omega)
    ·omega
    ·omega
    ·rw [hm]; exact labels_next (a := a.as) (b := b.as) h0 (show k < a.labels.length by omega) (show k < b.labels.length by omega)
    ·simp only [List.length_append, List.length_singleton]; omega
   ·refine AO.callP rfl gnone rfl hH21 (sP (sQ (sQ sR))) (c_clearanceref07_Meet _ _  _) (run_call2 call47 rfl rfl) ?_
    intro w36 hH37
    refine AN.two 1 13 (by kernel_rfl) ?_ ?_
    ·refine AO.read rfl gnone rfl hH37 (sP (sQ (sQ sR))) (run_ld underlying26 rfl rfl (hH37.cell (i := 2) rfl rfl)) ?_
     refine A1 13 ?_
     refine AO.new rfl gnone rfl hH37 (sP (sQ (sQ sR))) (f := fun b => .slice (some ⟨b, 0, none⟩) 1 1) (run_mkEl1 underlying26 rfl rfl rfl rfl) ?_
     intro b42 w40 hH41
     (try simp only [List.flatMap_cons, List.flatMap_nil, clI, clB, clS, clP, clL, clA, List.append_nil, List.cons_append, List.nil_append] at hH41)
     refine A1 14 ?_
     refine AO.app rfl gnone rfl hH41 (j := 2) rfl (fun _ => (sQ (sP (sQ (sQ sR))))) (Hp.slFlat elL_len hH41 (i := 0) (l := [_]) rfl (by simp [maxLen])) rfl rfl underlying26 rfl rfl (size := 8) (bytes := 64) rfl rfl rfl (by decide) (els_one _) (by first | (show (ls.length + 1) * _ ≤ _; omega) | (show (gr.length + 1) * _ ≤ _; omega) | (show (m2.length + 1) * _ ≤ _; omega)) (by first | (show ls.length + 1 ≤ _; simp only [maxLen]; omega) | (show gr.length + 1 ≤ _; simp only [maxLen]; omega) | (show m2.length + 1 ≤ _; simp only [maxLen]; omega)) ?_
     intro v45 w43 hH44
     simp only [z0, z1] at hH44
     refine AT 15 rfl (hH44.sub (sQ (sP (sQ (sQ sR))))) (fun w hS => fA underlying29 0 rfl sizeOf26 e5_15) ?_
     refine A1 16 ?_
     refine AO.set rfl gnone hH44 (j := 3) rfl (sQ (sP (sQ (sQ sR)))) (run_st rfl rfl (v := v45) rfl (row_cells (hH44.get (i := 2) rfl)).1 (row_cells (hH44.get (i := 2) rfl)).2 (hH44.blk (i := 3) rfl) (by first | (show 0 < 2; decide) | decide | (simp only [List.size_toArray, asgL_len]; decide) | simp)) ?_
     intro w48 hH49
     simp only [z0, z1] at hH49
     refine AD ?_
     refine CW.region ?_
     refine V (run_move e6_15) ?_
     refine V (run_add rfl rfl (by omega)) ?_
     refine V (aV (I _) rfl) ?_
     refine RL.nil ?_
     refine ⟨(k + 1, v45, (ls ++ [meetE (a.labels.getD k.toNat el0) (b.labels.getD k.toNat el0)])), ?_, fr15.u4.u4.u4.u4.u4.u4.u4.u1.u1.u1, (Hp.conv (hH49.sub (sQ sR)) (by first | rfl | (simp; done))), (congrArg I (by first | rfl | omega)), ?_, ?_, ?_, ?_⟩
     ·((try dsimp only); omega)
     ·omega
     ·omega
     ·rw [hm]; exact labels_next (a := a.as) (b := b.as) h0 (show k < a.labels.length by omega) (show k < b.labels.length by omega)
     ·simp only [List.length_append, List.length_singleton]; omega
    ·refine AO.new rfl gnone rfl hH37 (sP (sQ (sQ sR))) (f := fun b => .slice (some ⟨b, 0, none⟩) 1 1) (run_mkEl1 underlying26 rfl rfl rfl rfl) ?_
     intro b52 w50 hH51
     (try simp only [List.flatMap_cons, List.flatMap_nil, clI, clB, clS, clP, clL, clA, List.append_nil, List.cons_append, List.nil_append] at hH51)
     refine A1 1 ?_
     refine AO.read rfl gnone rfl hH51 (sQ (sP (sQ (sQ sR)))) (run_ld underlying26 rfl rfl (hH51.cell (i := 3) rfl rfl)) ?_
     refine A1 14 ?_
     refine AO.app rfl gnone rfl hH51 (j := 2) rfl (fun _ => (sQ (sP (sQ (sQ sR))))) (Hp.slFlat elL_len hH51 (i := 0) (l := [_]) rfl (by simp [maxLen])) rfl rfl underlying26 rfl rfl (size := 8) (bytes := 64) rfl rfl rfl (by decide) (els_one _) (by first | (show (ls.length + 1) * _ ≤ _; omega) | (show (gr.length + 1) * _ ≤ _; omega) | (show (m2.length + 1) * _ ≤ _; omega)) (by first | (show ls.length + 1 ≤ _; simp only [maxLen]; omega) | (show gr.length + 1 ≤ _; simp only [maxLen]; omega) | (show m2.length + 1 ≤ _; simp only [maxLen]; omega)) ?_
     intro v57 w55 hH56
     simp only [z0, z1] at hH56
     refine AT 15 rfl (hH56.sub (sQ (sP (sQ (sQ sR))))) (fun w hS => fA underlying29 0 rfl sizeOf26 e5_15) ?_
     refine A1 16 ?_
     refine AO.set rfl gnone hH56 (j := 3) rfl (sQ (sP (sQ (sQ sR)))) (run_st rfl rfl (v := v57) rfl (row_cells (hH56.get (i := 2) rfl)).1 (row_cells (hH56.get (i := 2) rfl)).2 (hH56.blk (i := 3) rfl) (by first | (show 0 < 2; decide) | decide | (simp only [List.size_toArray, asgL_len]; decide) | simp)) ?_
     intro w60 hH61
     simp only [z0, z1] at hH61
     refine AD ?_
     refine CW.region ?_
     refine V (run_move e6_15) ?_
     refine V (run_add rfl rfl (by omega)) ?_
     refine V (aV (I _) rfl) ?_
     refine RL.nil ?_
     refine ⟨(k + 1, v57, (ls ++ [meetE (a.labels.getD k.toNat el0) (b.labels.getD k.toNat el0)])), ?_, fr15.u4.u4.u4.u4.u4.u4.u4.u1.u1.u1, (Hp.conv (hH61.sub (sQ sR)) (by first | rfl | (simp; done))), (congrArg I (by first | rfl | omega)), ?_, ?_, ?_, ?_⟩
     ·((try dsimp only); omega)
     ·omega
     ·omega
     ·rw [hm]; exact labels_next (a := a.as) (b := b.as) h0 (show k < a.labels.length by omega) (show k < b.labels.length by omega)
     ·simp only [List.length_append, List.length_singleton]; omega
  ·refine CW.exit (id := 0) rfl ?_
   refine CW.seq ?_
   refine SR ?_
   refine V (aV (I 0) rfl) ?_
   refine RL.nil ?_
   refine CW.block ?_
   refine CW.loop (G := (Int) × (Value) × (List VrR) × (List Ent)) (fun (⟨j, v1, gr, Z⟩ : (Int) × (Value) × (List VrR) × (List Ent)) s' w' => (Fr [7, 8, 9, 10, 11, 12, 43, 44, 45, 46, 47, 48, 49, 50, 51, 52, 53, 54, 55, 56, 57, 58, 59, 60, 61, 62, 63, 64, 65, 66, 67, 68, 69, 70, 71, 72, 73, 74, 75, 76, 77, 78, 79, 80, 81, 82, 83, 84, 85, 86, 87, 88, 89, 90, 91, 92, 93, 94, 95, 96, 97, 98, 99, 100, 101, 102] _ s') ∧ (Hp w w' (.row v1 48 1 (gr.length) (rowsC gr) :: _ :: .blk b12 (.cells (#[v0, v1]) 29 (0, 0)) :: _ :: _ :: _ :: Z)) ∧ (s' 7 = I j) ∧ (0 ≤ j) ∧ (j ≤ a.rows.length) ∧ (gr.map VrR.l = ((a.as.rows.zip b.as.rows).take j.toNat).map fun p => bothF p.1 p.2) ∧ (RowsV (Kz K Z) gr) ∧ ((gr.length : Int) = j)) (fun (⟨j, v1, gr, Z⟩ : (Int) × (Value) × (List VrR) × (List Ent)) => (a.rows.length - j).toNat) ((0, (.slice none 0 0 : Value), [], [])) ⟨Fr.refl _ _, hH15, rfl, (by omega), (by omega), rfl, RowsV.nil _, rfl⟩ ?_
   rintro ⟨j, v1, gr, Z⟩ sg62 w62 ⟨fr62, hH62, e7_62, j0, jk, hmr, hr, hgl⟩
   have e2_62 := (fr62 2 rfl).trans e2_15
   have e3_62 := (fr62 3 rfl).trans e3_15
   have e4_62 := (fr62 4 rfl).trans e4_15
   have e5_62 := (fr62 5 rfl).trans e5_15
   refine CW.seq ?_
   refine SR ?_
   refine V (run_move e7_62) ?_
   refine V (fA underlying29 1 rfl sizeOf27 e2_62) ?_
   refine V (run_ldV ((ha.mono hK).rows.sl.hp hH62) underlying27 rfl rfl (hH62.cell (i := 5) rfl rfl)) ?_
   refine V (run_lenSl ((ha.mono hK).rows.sl.hp hH62) rfl underlying27 rfl) ?_
   refine V (run_lss rfl rfl) ?_
   refine V (mV (B _) rfl) ?_
   refine RL.splitP (dj := 48) rfl (fun h64 => ?_) (fun h64 => ?_)
   ·refine RL.gT rfl (bT h64) ?_
    refine V (run_move e7_62) ?_
    refine RL.gT rfl (bT h64) ?_
    refine V (fA underlying29 1 rfl sizeOf27 e3_62) ?_
    refine RL.gT rfl (bT h64) ?_
    refine V (run_ldV ((hb.mono hK).rows.sl.hp hH62) underlying27 rfl rfl (hH62.cell (i := 4) rfl rfl)) ?_
    refine RL.gT rfl (bT h64) ?_
    refine V (run_lenSl ((hb.mono hK).rows.sl.hp hH62) rfl underlying27 rfl) ?_
    refine RL.gT rfl (bT h64) ?_
    refine V (run_lss rfl rfl) ?_
    refine V (run_pickT (bT h64) (v := B _) rfl) ?_
    refine RL.nil ?_
    refine CW.condP rfl (fun h66 => ?_) (fun h66 => ?_)
    ·refine CW.skip ?_
     refine CW.seq ?_
     refine CW.block ?_
     refine SR ?_
     refine V (aV (.slice none 0 0) rfl) ?_
     have hH67 := hH62.nilRow 53 9
     refine RL.nil ?_
     refine CW.seq ?_
     refine SR ?_
     refine V (aV (I 0) rfl) ?_
     refine RL.nil ?_
     refine CW.block ?_
     have hm5 := hrl _ (List.mem_of_getElem? (getD_at (d := vr0) j0 (show j < a.rows.length by omega)))
     refine CW.loop (G := (Int) × (List ValR) × (Value)) (fun (⟨q, m2, v8⟩ : (Int) × (List ValR) × (Value)) s' w' => (Fr [8, 9, 10, 11, 12, 57, 58, 59, 60, 61, 62, 63, 64, 65, 66, 67, 68, 69, 70, 71, 72, 73, 74, 75, 76, 77, 78, 79, 80, 81, 82, 83, 84, 85, 86, 87, 88, 89, 90, 91, 92, 93, 94, 95, 96] _ s') ∧ (Hp w w' (.row v8 53 9 (m2.length) (m2.flatMap valL) :: _)) ∧ (s' 8 = v8) ∧ (s' 9 = I q) ∧ (0 ≤ q) ∧ (q ≤ (a.rows.getD j.toNat vr0).l.length) ∧ (m2 = bothF ((a.rows.getD j.toNat vr0).l.take q.toNat) (b.rows.getD j.toNat vr0).l) ∧ ((m2.length : Int) ≤ q)) (fun (⟨q, m2, v8⟩ : (Int) × (List ValR) × (Value)) => ((a.rows.getD j.toNat vr0).l.length - q).toNat) ((0, [], (.slice none 0 0 : Value))) ⟨Fr.refl _ _, hH67, rfl, rfl, (by omega), (by omega), rfl, (by simp)⟩ ?_
     rintro ⟨q, m2, v8⟩ sg68 w68 ⟨fr68, hH68, e8_68, e9_68, q0, qk, hm2, hml⟩
     have e2_68 := (fr68 2 rfl).trans e2_62
     have e3_68 := (fr68 3 rfl).trans e3_62
     have e4_68 := (fr68 4 rfl).trans e4_62
     have e5_68 := (fr68 5 rfl).trans e5_62
     have e7_68 := (fr68 7 rfl).trans e7_62
     have e43_68 : sg68 43 = I _ := (fr68 43 rfl).trans rfl
     have e44_68 : sg68 44 = Pn _ _ := (fr68 44 rfl).trans rfl
     have e45_68 := (fr68 45 rfl).trans (by conv => lhs; whnf)
     have e46_68 : sg68 46 = I _ := (fr68 46 rfl).trans rfl
     have e47_68 : sg68 47 = B _ := (fr68 47 rfl).trans rfl
     have e48_68 : sg68 48 = B _ := (fr68 48 rfl).trans rfl
     have e49_68 : sg68 49 = I _ := (fr68 49 rfl).trans rfl
     have e50_68 : sg68 50 = Pn _ _ := (fr68 50 rfl).trans rfl
     have e51_68 := (fr68 51 rfl).trans (by conv => lhs; whnf)
     have e52_68 : sg68 52 = I _ := (fr68 52 rfl).trans rfl
     have e53_68 : sg68 53 = B _ := (fr68 53 rfl).trans rfl
     have e54_68 : sg68 54 = B _ := (fr68 54 rfl).trans rfl
     refine CW.seq ?_
     refine SR ?_
     refine V (run_move e9_68) ?_
     refine V (fA underlying29 1 rfl sizeOf27 e2_68) ?_
     refine V (run_ldV ((ha.mono hK).rows.sl.hp hH68) underlying27 rfl rfl (hH68.cell (i := 6) rfl rfl)) ?_
     refine V (run_move e7_68) ?_
     refine V (run_indexAddrS ((ha.mono hK).rows.sl.hp hH68) underlying27 sizeOf48 rfl rfl (by omega)) ?_
     refine V (run_ld underlying48 rfl rfl (((ha.mono hK).rows.sl.hp hH68).cell _ _ (rowsC_at (by omega)))) ?_
     refine V (run_lenSl (((ha.mono hK).at (by omega) (by omega)).sl.hp hH68) rfl underlying48 rfl) ?_
     refine V (run_lss rfl rfl) ?_
     refine RL.nil ?_
     refine CW.condP rfl (fun h70 => ?_) (fun h70 => ?_)
     ·refine CW.skip ?_
      refine CW.seq ?_
      refine CW.block ?_
      refine SR ?_
      refine V (fA underlying29 1 rfl sizeOf27 e2_68) ?_
      refine V (run_ldV ((ha.mono hK).rows.sl.hp hH68) underlying27 rfl rfl (hH68.cell (i := 6) rfl rfl)) ?_
      refine V (run_move e7_68) ?_
      refine V (run_indexAddrS ((ha.mono hK).rows.sl.hp hH68) underlying27 sizeOf48 rfl rfl (by omega)) ?_
      refine V (run_ld underlying48 rfl rfl (((ha.mono hK).rows.sl.hp hH68).cell _ _ (rowsC_at (by omega)))) ?_
      refine V (run_move e9_68) ?_
      refine V (run_indexAddrS (((ha.mono hK).at (by omega) (by omega)).sl.hp hH68) underlying48 sizeOf53 rfl rfl (by omega)) ?_
      refine V (run_ldE (dv := val0) valL_len (((ha.mono hK).at (by omega) (by omega)).sl.hp hH68) underlying53 rfl rfl rfl (by omega)) ?_
      refine RL.new rfl hH68 (f := fun b => (.pointer (some ⟨b, 0, none⟩))) (run_alloc zero_val) ?_
      intro b73 w71 hH72
      refine RL.set hH72 (i := 0) rfl (run_stW (c' := (valL _).toArray) rfl rfl rfl (valL_one _) (hH72.blk (i := 0) rfl) rfl) ?_
      intro w74 hH75
      simp only [z0, z1] at hH75
      refine RL.nil ?_
      refine CW.seq ?_
      refine CW.regionD (by kernel_rfl) hH75 ?_
      intro w76 hH77
      refine AT 0 rfl (hH77.sub sR) (fun w hS => fA underlying29 1 rfl sizeOf27 e3_68) ?_
      refine AT 1 rfl (hH77.sub sR) (fun w hS => run_ldV ((hb.mono hK).rows.sl.hp hS) underlying27 rfl rfl (hS.cell (i := 6) rfl rfl)) ?_
      refine AT 2 rfl (hH77.sub sR) (fun w hS => run_move e7_68) ?_
      refine AT 3 rfl (hH77.sub sR) (fun w hS => run_indexAddrS ((hb.mono hK).rows.sl.hp hS) underlying27 sizeOf48 rfl rfl (by omega)) ?_
      refine AT 4 rfl (hH77.sub sR) (fun w hS => run_ld underlying48 rfl rfl (((hb.mono hK).rows.sl.hp hS).cell _ _ (rowsC_at (by omega)))) ?_
      refine AT 5 rfl (hH77.sub sR) (fun w hS => fA underlying53 0 rfl sizeOf9 rfl) ?_
      refine AT 6 rfl (hH77.sub sR) (fun w hS => run_ld underlying9 rfl rfl (hS.cell (i := 0) rfl (v := .string _) rfl)) ?_
      refine AN.two 7 11 (by kernel_rfl) ?_ ?_
      ·refine AO.callP rfl gnone rfl hH77 sR (c_clearanceref18_Get _ _ _  _ (((hb.mono hK).at (by omega) (by omega)).sl.hp hH77)) (run_call2 call43 rfl rfl) ?_
       intro w78 hH79
       refine AT 8 rfl (hH79.sub sR) (fun w hS => run_move (by conv => lhs; whnf)) ?_
       refine AT 9 rfl (hH79.sub sR) (fun w hS => run_extract rfl (v := .agg _) rfl) ?_
       refine AT 10 rfl (hH79.sub sR) (fun w hS => run_extract rfl (v := B _) rfl) ?_
       refine A1 11 ?_
       refine AO.new rfl gnone rfl hH79 sR (f := fun b => .pointer (some ⟨b, 0, none⟩)) (run_alloc zero_el) ?_
       intro b83 w81 hH82
       refine A1 12 ?_
       refine AO.set rfl gnone hH82 (j := 0) rfl (sQ sR) (run_stEl rfl rfl rfl (hH82.blk (i := 0) rfl)) ?_
       intro w86 hH87
       simp only [z0, z1] at hH87
       refine AT 13 rfl (hH87.sub (sQ sR)) (fun w hS => aV (B _) rfl) ?_
       refine AD ?_
       refine SR ?_
       refine V (mV (B _) rfl) ?_
       refine RL.nil ?_
       refine CW.cond rfl (fun h88 => ?_) (fun h88 => ?_)
       ·refine CW.regionS (by kernel_rfl) hH87 (sP (sP (sQ sR))) ?_
        intro w89 hH90
        refine AT 0 rfl (hH90.sub (sP (sP (sQ sR)))) (fun w hS => run_move e8_68) ?_
        refine AT 1 rfl (hH90.sub (sP (sP (sQ sR)))) (fun w hS => fA underlying53 0 rfl sizeOf9 rfl) ?_
        refine AT 2 rfl (hH90.sub (sP (sP (sQ sR)))) (fun w hS => run_ld underlying9 rfl rfl (hS.cell (i := 1) rfl (v := .string _) rfl)) ?_
        refine AT 3 rfl (hH90.sub (sP (sP (sQ sR)))) (fun w hS => fA underlying53 1 rfl sizeOf51 rfl) ?_
        refine AT 4 rfl (hH90.sub (sP (sP (sQ sR)))) (fun w hS => run_ldVB underlying51 rfl rfl rfl (hS.blk (i := 1) rfl)) ?_
        refine AT 5 rfl (hH90.sub (sP (sP (sQ sR)))) (fun w hS => run_ldEl underlying51 rfl rfl rfl (hS.blk (i := 0) rfl)) ?_
        refine A1 6 ?_
        refine AO.callP rfl gnone rfl hH90 (sP (sP (sQ sR))) (c_clearanceref07_Meet _ _  _) (run_call2 call47 rfl rfl) ?_
        intro w91 hH92
        refine AT 7 rfl (hH92.sub (sP (sP (sQ sR)))) (fun w hS => run_bld (vs := [(0, S _), (1, .agg (elC _))]) rfl (built_val _ _)) ?_
        refine A1 8 ?_
        refine AO.new rfl gnone rfl hH92 (sP (sP (sQ sR))) (f := fun b => .slice (some ⟨b, 0, none⟩) 1 1) (run_mkRecs valL_len underlying48 rfl rfl rfl (l := [_]) rfl (by decide) (by decide) rfl) ?_
        intro b95 w93 hH94
        refine A1 9 ?_
        refine AO.app rfl gnone rfl hH94 (j := 3) rfl (fun _ => (sQ (sP (sP (sQ sR))))) (Hp.slFlat valL_len hH94 (i := 0) (l := [_]) rfl (by simp [maxLen])) rfl rfl underlying48 rfl rfl (size := 9) (bytes := 80) rfl rfl rfl (by decide) (vals_one _) (by simp only [List.length_cons, List.length_nil]; omega) (by simp only [maxLen, List.length_cons, List.length_nil]; omega) ?_
        intro v98 w96 hH97
        simp only [z0, z1] at hH97
        refine AT 10 rfl (hH97.sub (sQ (sP (sP (sQ sR))))) (fun w hS => run_assign (by conv => lhs; whnf)) ?_
        refine AD ?_
        refine CW.region ?_
        refine V (run_move e9_68) ?_
        refine V (run_add rfl rfl (by omega)) ?_
        refine V (aV (I _) rfl) ?_
        refine RL.nil ?_
        refine ⟨(q + 1, m2 ++ [⟨((a.rows.getD j.toNat vr0).l.getD q.toNat val0).name, meetE ((a.rows.getD j.toNat vr0).l.getD q.toNat val0).el (getF (b.rows.getD j.toNat vr0).l ((a.rows.getD j.toNat vr0).l.getD q.toNat val0).name).1⟩], v98), ?_, fr68.u4.u4.u4.u4.u4.u4.u4.u4.u4.u4.u4.u1, (Hp.conv (hH97.sub (sQ (sQ (sQ sR)))) (by first | rfl | simp)), rfl, (congrArg I (by first | rfl | omega)), ?_, ?_, ?_, ?_⟩
        ·((try dsimp only); omega)
        ·omega
        ·omega
        ·first | (rw [hm2]; exact both_one q0 ‹q < _› ‹(getF _ _).2 = true›) | (rw [hm2]; exact both_not q0 ‹q < _› ‹(getF _ _).2 = false›)
        ·first | (simp only [List.length_append, List.length_singleton]; omega) | omega
       ·refine CW.skip ?_
        refine CW.region ?_
        refine V (run_move e9_68) ?_
        refine V (run_add rfl rfl (by omega)) ?_
        refine V (aV (I _) rfl) ?_
        refine RL.nil ?_
        refine ⟨(q + 1, m2, v8), ?_, fr68.u4.u4.u4.u4.u4.u4.u4.u4.u1.u1, (Hp.conv (hH87.sub (sQ (sQ sR))) (by first | rfl | simp)), e8_68, (congrArg I (by first | rfl | omega)), ?_, ?_, ?_, ?_⟩
        ·((try dsimp only); omega)
        ·omega
        ·omega
        ·first | (rw [hm2]; exact both_one q0 ‹q < _› ‹(getF _ _).2 = true›) | (rw [hm2]; exact both_not q0 ‹q < _› ‹(getF _ _).2 = false›)
        ·first | (simp only [List.length_append, List.length_singleton]; omega) | omega
      ·refine AO.new rfl gnone rfl hH77 sR (f := fun b => .pointer (some ⟨b, 0, none⟩)) (run_alloc zero_el) ?_
       intro b101 w99 hH100
       refine A1 7 ?_
       refine AO.callP rfl gnone rfl hH100 (sQ sR) (c_clearanceref18_Get _ _ _  _ (((hb.mono hK).at (by omega) (by omega)).sl.hp hH100)) (run_call2 call43 rfl rfl) ?_
       intro w102 hH103
       refine AT 8 rfl (hH103.sub (sQ sR)) (fun w hS => run_move (by conv => lhs; whnf)) ?_
       refine AT 9 rfl (hH103.sub (sQ sR)) (fun w hS => run_extract rfl (v := .agg _) rfl) ?_
       refine AT 10 rfl (hH103.sub (sQ sR)) (fun w hS => run_extract rfl (v := B _) rfl) ?_
       refine A1 12 ?_
       refine AO.set rfl gnone hH103 (j := 0) rfl (sQ sR) (run_stEl rfl rfl rfl (hH103.blk (i := 0) rfl)) ?_
       intro w107 hH108
       simp only [z0, z1] at hH108
       refine AT 13 rfl (hH108.sub (sQ sR)) (fun w hS => aV (B _) rfl) ?_
       refine AD ?_
       refine SR ?_
       refine V (mV (B _) rfl) ?_
       refine RL.nil ?_
       refine CW.cond rfl (fun h109 => ?_) (fun h109 => ?_)
       ·refine CW.regionS (by kernel_rfl) hH108 (sP (sP (sQ sR))) ?_
        intro w110 hH111
        refine AT 0 rfl (hH111.sub (sP (sP (sQ sR)))) (fun w hS => run_move e8_68) ?_
        refine AT 1 rfl (hH111.sub (sP (sP (sQ sR)))) (fun w hS => fA underlying53 0 rfl sizeOf9 rfl) ?_
        refine AT 2 rfl (hH111.sub (sP (sP (sQ sR)))) (fun w hS => run_ld underlying9 rfl rfl (hS.cell (i := 1) rfl (v := .string _) rfl)) ?_
        refine AT 3 rfl (hH111.sub (sP (sP (sQ sR)))) (fun w hS => fA underlying53 1 rfl sizeOf51 rfl) ?_
        refine AT 4 rfl (hH111.sub (sP (sP (sQ sR)))) (fun w hS => run_ldVB underlying51 rfl rfl rfl (hS.blk (i := 1) rfl)) ?_
        refine AT 5 rfl (hH111.sub (sP (sP (sQ sR)))) (fun w hS => run_ldEl underlying51 rfl rfl rfl (hS.blk (i := 0) rfl)) ?_
        refine A1 6 ?_
        refine AO.callP rfl gnone rfl hH111 (sP (sP (sQ sR))) (c_clearanceref07_Meet _ _  _) (run_call2 call47 rfl rfl) ?_
        intro w112 hH113
        refine AT 7 rfl (hH113.sub (sP (sP (sQ sR)))) (fun w hS => run_bld (vs := [(0, S _), (1, .agg (elC _))]) rfl (built_val _ _)) ?_
        refine A1 8 ?_
        refine AO.new rfl gnone rfl hH113 (sP (sP (sQ sR))) (f := fun b => .slice (some ⟨b, 0, none⟩) 1 1) (run_mkRecs valL_len underlying48 rfl rfl rfl (l := [_]) rfl (by decide) (by decide) rfl) ?_
        intro b116 w114 hH115
        refine A1 9 ?_
        refine AO.app rfl gnone rfl hH115 (j := 3) rfl (fun _ => (sQ (sP (sP (sQ sR))))) (Hp.slFlat valL_len hH115 (i := 0) (l := [_]) rfl (by simp [maxLen])) rfl rfl underlying48 rfl rfl (size := 9) (bytes := 80) rfl rfl rfl (by decide) (vals_one _) (by simp only [List.length_cons, List.length_nil]; omega) (by simp only [maxLen, List.length_cons, List.length_nil]; omega) ?_
        intro v119 w117 hH118
        simp only [z0, z1] at hH118
        refine AT 10 rfl (hH118.sub (sQ (sP (sP (sQ sR))))) (fun w hS => run_assign (by conv => lhs; whnf)) ?_
        refine AD ?_
        refine CW.region ?_
        refine V (run_move e9_68) ?_
        refine V (run_add rfl rfl (by omega)) ?_
        refine V (aV (I _) rfl) ?_
        refine RL.nil ?_
        refine ⟨(q + 1, m2 ++ [⟨((a.rows.getD j.toNat vr0).l.getD q.toNat val0).name, meetE ((a.rows.getD j.toNat vr0).l.getD q.toNat val0).el (getF (b.rows.getD j.toNat vr0).l ((a.rows.getD j.toNat vr0).l.getD q.toNat val0).name).1⟩], v119), ?_, fr68.u4.u4.u4.u4.u4.u4.u4.u4.u4.u4.u4.u1, (Hp.conv (hH118.sub (sQ (sQ (sQ sR)))) (by first | rfl | simp)), rfl, (congrArg I (by first | rfl | omega)), ?_, ?_, ?_, ?_⟩
        ·((try dsimp only); omega)
        ·omega
        ·omega
        ·first | (rw [hm2]; exact both_one q0 ‹q < _› ‹(getF _ _).2 = true›) | (rw [hm2]; exact both_not q0 ‹q < _› ‹(getF _ _).2 = false›)
        ·first | (simp only [List.length_append, List.length_singleton]; omega) | omega
       ·refine CW.skip ?_
        refine CW.region ?_
        refine V (run_move e9_68) ?_
        refine V (run_add rfl rfl (by omega)) ?_
        refine V (aV (I _) rfl) ?_
        refine RL.nil ?_
        refine ⟨(q + 1, m2, v8), ?_, fr68.u4.u4.u4.u4.u4.u4.u4.u4.u1.u1, (Hp.conv (hH108.sub (sQ (sQ sR))) (by first | rfl | simp)), e8_68, (congrArg I (by first | rfl | omega)), ?_, ?_, ?_, ?_⟩
        ·((try dsimp only); omega)
        ·omega
        ·omega
        ·first | (rw [hm2]; exact both_one q0 ‹q < _› ‹(getF _ _).2 = true›) | (rw [hm2]; exact both_not q0 ‹q < _› ‹(getF _ _).2 = false›)
        ·first | (simp only [List.length_append, List.length_singleton]; omega) | omega
     ·refine CW.exit (id := 4) rfl ?_
      refine CW.region ?_
      refine V (fA underlying29 1 rfl sizeOf27 e5_68) ?_
      refine V (run_ld underlying27 rfl rfl (hH68.cell (i := 3) rfl rfl)) ?_
      refine V (run_move e8_68) ?_
      obtain ⟨Z120, hz121, hv122, -⟩ := hH68.frz (K)
      have hH123 : Hp _ w68 (_ :: _ :: _ :: _ :: _ :: _ :: (Z120 ++ Z)) := hz121.zin (L := [_, _, _, _, _, _]) (L' := Z)
      rw [hm2, both_all ‹¬ q < _›] at hv122
      refine RL.new rfl hH123 (f := fun b => (.slice (some ⟨b, 0, none⟩) 1 1)) (run_mkSl1 (v := v8) (one_slv hv122).2 underlying27 rfl rfl rfl rfl) ?_
      intro b126 w124 hH125
      (try simp only [List.flatMap_cons, List.flatMap_nil, clI, clB, clS, clP, clL, clA, List.append_nil, List.cons_append, List.nil_append] at hH125)
      refine RL.app rfl hH125 (i := 1) rfl (hH125.slBlk (i := 0) (n := 1) (sz := 1) rfl rfl (by decide)) rfl rfl underlying27 rfl rfl (size := 1) (bytes := 24) rfl rfl rfl (by decide) (one_one (one_slv hv122).1) (by first | (show (ls.length + 1) * _ ≤ _; omega) | (show (gr.length + 1) * _ ≤ _; omega) | (show (m2.length + 1) * _ ≤ _; omega)) (by first | (show ls.length + 1 ≤ _; simp only [maxLen]; omega) | (show gr.length + 1 ≤ _; simp only [maxLen]; omega) | (show m2.length + 1 ≤ _; simp only [maxLen]; omega)) ?_
      intro v127 w128 hH129
      simp only [z0, z1] at hH129
      refine V (fA underlying29 1 rfl sizeOf27 e5_68) ?_
      refine RL.set hH129 (i := 3) rfl (run_st rfl rfl (v := v127) rfl (row_cells (hH129.get (i := 1) rfl)).1 (row_cells (hH129.get (i := 1) rfl)).2 (hH129.blk (i := 3) rfl) (by first | (show 1 < 2; decide) | decide | (simp only [List.size_toArray, asgL_len]; decide) | simp)) ?_
      intro w130 hH131
      simp only [z0, z1] at hH131
      refine RL.nil ?_
      refine CW.region ?_
      refine V (run_move e7_68) ?_
      refine V (run_add rfl rfl (by omega)) ?_
      refine V (aV (I _) rfl) ?_
      refine RL.nil ?_
      refine ⟨(j + 1, v127, (gr ++ [(⟨v8, bothF (a.rows.getD j.toNat vr0).l (b.rows.getD j.toNat vr0).l⟩ : VrR)]), (Z120 ++ Z)), ?_, (((fr62.u4.u4.u4.u1.u1).t fr68 rfl)).u4.u4.u4.u4.u1, (Hp.conv (hH131.sub (sQ sR)) (by first | rfl | (simp; done))), (congrArg I (by first | rfl | omega)), ?_, ?_, ?_, ?_, ?_⟩
      ·((try dsimp only); omega)
      ·omega
      ·omega
      ·rw [List.map_append, hmr]; exact mrows_next j0 (by omega) (by omega)
      ·exact (hr.mono (Le.zz fun y hy => List.mem_append_right _ hy)).snoc (hv122.mono (Le.zz fun y hy => List.mem_append_left _ hy))
      ·simp only [List.length_append, List.length_singleton]; omega
    ·refine CW.exit (id := 2) rfl ?_
     refine SR ?_
     obtain ⟨Z132, hz133, hv134, -⟩ := (hH62.perm (((pC pR).trans pS).trans (pC pR))).frz (K)
     have hH135 : Hp _ w62 (_ :: _ :: _ :: _ :: _ :: (Z132 ++ Z)) := hz133.zin (L := [_, _, _, _, _]) (L' := Z)
     obtain ⟨Z136, hz137, hv138, -⟩ := hH135.frz (K)
     have hH139 : Hp _ w62 (_ :: _ :: _ :: _ :: (Z136 ++ (Z132 ++ Z))) := hz137.zin (L := [_, _, _, _]) (L' := (Z132 ++ Z))
     have hN140 : AsgV (Kz K (Z136 ++ (Z132 ++ Z))) (⟨v0, ls, v1, gr⟩ : Asg) := ⟨(hv134.mono (Le.zz (fun x hx => (List.mem_append_right _ (List.mem_append_left _ hx))))), (hv138.mono (Le.zz (fun x hx => (List.mem_append_left _ hx)))), hr.mono (Le.zz (fun x hx => (List.mem_append_right _ (List.mem_append_right _ hx))))⟩
     refine V (run_ldA (cs := asgL (⟨v0, ls, v1, gr⟩ : Asg)) underlying29 rfl rfl e5_62 (rangeAt_cells (hH139.blk (i := 0) rfl))) ?_
     refine RL.set hH139 (i := 1) rfl (run_stW (c' := (asgL (⟨v0, ls, v1, gr⟩ : Asg)).toArray) rfl e4_62 rfl (asgL_one hN140) (hH139.blk (i := 1) rfl) rfl) ?_
     intro w141 hH142
     simp only [z0, z1] at hH142
     refine RL.nil ?_
     refine CW.ret ?_
     refine outCg Tryz.results20 e4_62 hH142 (i := 1) rfl underlying29 rfl rfl ⟨(Z136 ++ (Z132 ++ Z)), (hH142.sub (sQ (sQ (sQ (sQ sR))))), (⟨v0, ls, v1, gr⟩ : Asg), rfl, ?_, hN140⟩
     exact meet_is hm hmr (by omega) (by omega)
   ·refine RL.gF rfl rfl (bF h64) rfl ?_
    refine RL.gF rfl rfl (bF h64) rfl ?_
    refine RL.gF rfl rfl (bF h64) rfl ?_
    refine RL.gF rfl rfl (bF h64) rfl ?_
    refine RL.gF rfl rfl (bF h64) rfl ?_
    refine V (run_pickF (bF h64) (v := B false) rfl) ?_
    refine RL.nil ?_
    refine CW.condF rfl ?_
    refine CW.exit (id := 2) rfl ?_
    refine SR ?_
    obtain ⟨Z143, hz144, hv145, -⟩ := (hH62.perm (((pC pR).trans pS).trans (pC pR))).frz (K)
    have hH146 : Hp _ w62 (_ :: _ :: _ :: _ :: _ :: (Z143 ++ Z)) := hz144.zin (L := [_, _, _, _, _]) (L' := Z)
    obtain ⟨Z147, hz148, hv149, -⟩ := hH146.frz (K)
    have hH150 : Hp _ w62 (_ :: _ :: _ :: _ :: (Z147 ++ (Z143 ++ Z))) := hz148.zin (L := [_, _, _, _]) (L' := (Z143 ++ Z))
    have hN151 : AsgV (Kz K (Z147 ++ (Z143 ++ Z))) (⟨v0, ls, v1, gr⟩ : Asg) := ⟨(hv145.mono (Le.zz (fun x hx => (List.mem_append_right _ (List.mem_append_left _ hx))))), (hv149.mono (Le.zz (fun x hx => (List.mem_append_left _ hx)))), hr.mono (Le.zz (fun x hx => (List.mem_append_right _ (List.mem_append_right _ hx))))⟩
    refine V (run_ldA (cs := asgL (⟨v0, ls, v1, gr⟩ : Asg)) underlying29 rfl rfl e5_62 (rangeAt_cells (hH150.blk (i := 0) rfl))) ?_
    refine RL.set hH150 (i := 1) rfl (run_stW (c' := (asgL (⟨v0, ls, v1, gr⟩ : Asg)).toArray) rfl e4_62 rfl (asgL_one hN151) (hH150.blk (i := 1) rfl) rfl) ?_
    intro w152 hH153
    simp only [z0, z1] at hH153
    refine RL.nil ?_
    refine CW.ret ?_
    refine outCg Tryz.results20 e4_62 hH153 (i := 1) rfl underlying29 rfl rfl ⟨(Z147 ++ (Z143 ++ Z)), (hH153.sub (sQ (sQ (sQ (sQ sR))))), (⟨v0, ls, v1, gr⟩ : Asg), rfl, ?_, hN151⟩
    exact meet_is hm hmr (by omega) (by omega)
 ·refine RL.gF rfl rfl (bF h17) rfl ?_
  refine RL.gF rfl rfl (bF h17) rfl ?_
  refine RL.gF rfl rfl (bF h17) rfl ?_
  refine RL.gF rfl rfl (bF h17) rfl ?_
  refine RL.gF rfl rfl (bF h17) rfl ?_
  refine V (run_pickF (bF h17) (v := B false) rfl) ?_
  refine RL.nil ?_
  refine CW.condF rfl ?_
  refine CW.exit (id := 0) rfl ?_
  refine CW.seq ?_
  refine SR ?_
  refine V (aV (I 0) rfl) ?_
  refine RL.nil ?_
  refine CW.block ?_
  refine CW.loop (G := (Int) × (Value) × (List VrR) × (List Ent)) (fun (⟨j, v1, gr, Z⟩ : (Int) × (Value) × (List VrR) × (List Ent)) s' w' => (Fr [7, 8, 9, 10, 11, 12, 43, 44, 45, 46, 47, 48, 49, 50, 51, 52, 53, 54, 55, 56, 57, 58, 59, 60, 61, 62, 63, 64, 65, 66, 67, 68, 69, 70, 71, 72, 73, 74, 75, 76, 77, 78, 79, 80, 81, 82, 83, 84, 85, 86, 87, 88, 89, 90, 91, 92, 93, 94, 95, 96, 97, 98, 99, 100, 101, 102] _ s') ∧ (Hp w w' (.row v1 48 1 (gr.length) (rowsC gr) :: _ :: .blk b12 (.cells (#[v0, v1]) 29 (0, 0)) :: _ :: _ :: _ :: Z)) ∧ (s' 7 = I j) ∧ (0 ≤ j) ∧ (j ≤ a.rows.length) ∧ (gr.map VrR.l = ((a.as.rows.zip b.as.rows).take j.toNat).map fun p => bothF p.1 p.2) ∧ (RowsV (Kz K Z) gr) ∧ ((gr.length : Int) = j)) (fun (⟨j, v1, gr, Z⟩ : (Int) × (Value) × (List VrR) × (List Ent)) => (a.rows.length - j).toNat) ((0, (.slice none 0 0 : Value), [], [])) ⟨Fr.refl _ _, hH15, rfl, (by omega), (by omega), rfl, RowsV.nil _, rfl⟩ ?_
  rintro ⟨j, v1, gr, Z⟩ sg154 w154 ⟨fr154, hH154, e7_154, j0, jk, hmr, hr, hgl⟩
  have e2_154 := (fr154 2 rfl).trans e2_15
  have e3_154 := (fr154 3 rfl).trans e3_15
  have e4_154 := (fr154 4 rfl).trans e4_15
  have e5_154 := (fr154 5 rfl).trans e5_15
  refine CW.seq ?_
  refine SR ?_
  refine V (run_move e7_154) ?_
  refine V (fA underlying29 1 rfl sizeOf27 e2_154) ?_
  refine V (run_ldV ((ha.mono hK).rows.sl.hp hH154) underlying27 rfl rfl (hH154.cell (i := 5) rfl rfl)) ?_
  refine V (run_lenSl ((ha.mono hK).rows.sl.hp hH154) rfl underlying27 rfl) ?_
  refine V (run_lss rfl rfl) ?_
  refine V (mV (B _) rfl) ?_
  refine RL.splitP (dj := 48) rfl (fun h156 => ?_) (fun h156 => ?_)
  ·refine RL.gT rfl (bT h156) ?_
   refine V (run_move e7_154) ?_
   refine RL.gT rfl (bT h156) ?_
   refine V (fA underlying29 1 rfl sizeOf27 e3_154) ?_
   refine RL.gT rfl (bT h156) ?_
   refine V (run_ldV ((hb.mono hK).rows.sl.hp hH154) underlying27 rfl rfl (hH154.cell (i := 4) rfl rfl)) ?_
   refine RL.gT rfl (bT h156) ?_
   refine V (run_lenSl ((hb.mono hK).rows.sl.hp hH154) rfl underlying27 rfl) ?_
   refine RL.gT rfl (bT h156) ?_
   refine V (run_lss rfl rfl) ?_
   refine V (run_pickT (bT h156) (v := B _) rfl) ?_
   refine RL.nil ?_
   refine CW.condP rfl (fun h158 => ?_) (fun h158 => ?_)
   ·refine CW.skip ?_
    refine CW.seq ?_
    refine CW.block ?_
    refine SR ?_
    refine V (aV (.slice none 0 0) rfl) ?_
    have hH159 := hH154.nilRow 53 9
    refine RL.nil ?_
    refine CW.seq ?_
    refine SR ?_
    refine V (aV (I 0) rfl) ?_
    refine RL.nil ?_
    refine CW.block ?_
    have hm5 := hrl _ (List.mem_of_getElem? (getD_at (d := vr0) j0 (show j < a.rows.length by omega)))
    refine CW.loop (G := (Int) × (List ValR) × (Value)) (fun (⟨q, m2, v8⟩ : (Int) × (List ValR) × (Value)) s' w' => (Fr [8, 9, 10, 11, 12, 57, 58, 59, 60, 61, 62, 63, 64, 65, 66, 67, 68, 69, 70, 71, 72, 73, 74, 75, 76, 77, 78, 79, 80, 81, 82, 83, 84, 85, 86, 87, 88, 89, 90, 91, 92, 93, 94, 95, 96] _ s') ∧ (Hp w w' (.row v8 53 9 (m2.length) (m2.flatMap valL) :: _)) ∧ (s' 8 = v8) ∧ (s' 9 = I q) ∧ (0 ≤ q) ∧ (q ≤ (a.rows.getD j.toNat vr0).l.length) ∧ (m2 = bothF ((a.rows.getD j.toNat vr0).l.take q.toNat) (b.rows.getD j.toNat vr0).l) ∧ ((m2.length : Int) ≤ q)) (fun (⟨q, m2, v8⟩ : (Int) × (List ValR) × (Value)) => ((a.rows.getD j.toNat vr0).l.length - q).toNat) ((0, [], (.slice none 0 0 : Value))) ⟨Fr.refl _ _, hH159, rfl, rfl, (by omega), (by omega), rfl, (by simp)⟩ ?_
    rintro ⟨q, m2, v8⟩ sg160 w160 ⟨fr160, hH160, e8_160, e9_160, q0, qk, hm2, hml⟩
    have e2_160 := (fr160 2 rfl).trans e2_154
    have e3_160 := (fr160 3 rfl).trans e3_154
    have e4_160 := (fr160 4 rfl).trans e4_154
    have e5_160 := (fr160 5 rfl).trans e5_154
    have e7_160 := (fr160 7 rfl).trans e7_154
    have e43_160 : sg160 43 = I _ := (fr160 43 rfl).trans rfl
    have e44_160 : sg160 44 = Pn _ _ := (fr160 44 rfl).trans rfl
    have e45_160 := (fr160 45 rfl).trans (by conv => lhs; whnf)
    have e46_160 : sg160 46 = I _ := (fr160 46 rfl).trans rfl
    have e47_160 : sg160 47 = B _ := (fr160 47 rfl).trans rfl
    have e48_160 : sg160 48 = B _ := (fr160 48 rfl).trans rfl
    have e49_160 : sg160 49 = I _ := (fr160 49 rfl).trans rfl
    have e50_160 : sg160 50 = Pn _ _ := (fr160 50 rfl).trans rfl
    have e51_160 := (fr160 51 rfl).trans (by conv => lhs; whnf)
    have e52_160 : sg160 52 = I _ := (fr160 52 rfl).trans rfl
    have e53_160 : sg160 53 = B _ := (fr160 53 rfl).trans rfl
    have e54_160 : sg160 54 = B _ := (fr160 54 rfl).trans rfl
    refine CW.seq ?_
    refine SR ?_
    refine V (run_move e9_160) ?_
    refine V (fA underlying29 1 rfl sizeOf27 e2_160) ?_
    refine V (run_ldV ((ha.mono hK).rows.sl.hp hH160) underlying27 rfl rfl (hH160.cell (i := 6) rfl rfl)) ?_
    refine V (run_move e7_160) ?_
    refine V (run_indexAddrS ((ha.mono hK).rows.sl.hp hH160) underlying27 sizeOf48 rfl rfl (by omega)) ?_
    refine V (run_ld underlying48 rfl rfl (((ha.mono hK).rows.sl.hp hH160).cell _ _ (rowsC_at (by omega)))) ?_
    refine V (run_lenSl (((ha.mono hK).at (by omega) (by omega)).sl.hp hH160) rfl underlying48 rfl) ?_
    refine V (run_lss rfl rfl) ?_
    refine RL.nil ?_
    refine CW.condP rfl (fun h162 => ?_) (fun h162 => ?_)
    ·refine CW.skip ?_
     refine CW.seq ?_
     refine CW.block ?_
     refine SR ?_
     refine V (fA underlying29 1 rfl sizeOf27 e2_160) ?_
     refine V (run_ldV ((ha.mono hK).rows.sl.hp hH160) underlying27 rfl rfl (hH160.cell (i := 6) rfl rfl)) ?_
     refine V (run_move e7_160) ?_
     refine V (run_indexAddrS ((ha.mono hK).rows.sl.hp hH160) underlying27 sizeOf48 rfl rfl (by omega)) ?_
     refine V (run_ld underlying48 rfl rfl (((ha.mono hK).rows.sl.hp hH160).cell _ _ (rowsC_at (by omega)))) ?_
     refine V (run_move e9_160) ?_
     refine V (run_indexAddrS (((ha.mono hK).at (by omega) (by omega)).sl.hp hH160) underlying48 sizeOf53 rfl rfl (by omega)) ?_
     refine V (run_ldE (dv := val0) valL_len (((ha.mono hK).at (by omega) (by omega)).sl.hp hH160) underlying53 rfl rfl rfl (by omega)) ?_
     refine RL.new rfl hH160 (f := fun b => (.pointer (some ⟨b, 0, none⟩))) (run_alloc zero_val) ?_
     intro b165 w163 hH164
     refine RL.set hH164 (i := 0) rfl (run_stW (c' := (valL _).toArray) rfl rfl rfl (valL_one _) (hH164.blk (i := 0) rfl) rfl) ?_
     intro w166 hH167
     simp only [z0, z1] at hH167
     refine RL.nil ?_
     refine CW.seq ?_
     refine CW.regionD (by kernel_rfl) hH167 ?_
     intro w168 hH169
     refine AT 0 rfl (hH169.sub sR) (fun w hS => fA underlying29 1 rfl sizeOf27 e3_160) ?_
     refine AT 1 rfl (hH169.sub sR) (fun w hS => run_ldV ((hb.mono hK).rows.sl.hp hS) underlying27 rfl rfl (hS.cell (i := 6) rfl rfl)) ?_
     refine AT 2 rfl (hH169.sub sR) (fun w hS => run_move e7_160) ?_
     refine AT 3 rfl (hH169.sub sR) (fun w hS => run_indexAddrS ((hb.mono hK).rows.sl.hp hS) underlying27 sizeOf48 rfl rfl (by omega)) ?_
     refine AT 4 rfl (hH169.sub sR) (fun w hS => run_ld underlying48 rfl rfl (((hb.mono hK).rows.sl.hp hS).cell _ _ (rowsC_at (by omega)))) ?_
     refine AT 5 rfl (hH169.sub sR) (fun w hS => fA underlying53 0 rfl sizeOf9 rfl) ?_
     refine AT 6 rfl (hH169.sub sR) (fun w hS => run_ld underlying9 rfl rfl (hS.cell (i := 0) rfl (v := .string _) rfl)) ?_
     refine AN.two 7 11 (by kernel_rfl) ?_ ?_
     ·refine AO.callP rfl gnone rfl hH169 sR (c_clearanceref18_Get _ _ _  _ (((hb.mono hK).at (by omega) (by omega)).sl.hp hH169)) (run_call2 call43 rfl rfl) ?_
      intro w170 hH171
      refine AT 8 rfl (hH171.sub sR) (fun w hS => run_move (by conv => lhs; whnf)) ?_
      refine AT 9 rfl (hH171.sub sR) (fun w hS => run_extract rfl (v := .agg _) rfl) ?_
      refine AT 10 rfl (hH171.sub sR) (fun w hS => run_extract rfl (v := B _) rfl) ?_
      refine A1 11 ?_
      refine AO.new rfl gnone rfl hH171 sR (f := fun b => .pointer (some ⟨b, 0, none⟩)) (run_alloc zero_el) ?_
      intro b175 w173 hH174
      refine A1 12 ?_
      refine AO.set rfl gnone hH174 (j := 0) rfl (sQ sR) (run_stEl rfl rfl rfl (hH174.blk (i := 0) rfl)) ?_
      intro w178 hH179
      simp only [z0, z1] at hH179
      refine AT 13 rfl (hH179.sub (sQ sR)) (fun w hS => aV (B _) rfl) ?_
      refine AD ?_
      refine SR ?_
      refine V (mV (B _) rfl) ?_
      refine RL.nil ?_
      refine CW.cond rfl (fun h180 => ?_) (fun h180 => ?_)
      ·refine CW.regionS (by kernel_rfl) hH179 (sP (sP (sQ sR))) ?_
       intro w181 hH182
       refine AT 0 rfl (hH182.sub (sP (sP (sQ sR)))) (fun w hS => run_move e8_160) ?_
       refine AT 1 rfl (hH182.sub (sP (sP (sQ sR)))) (fun w hS => fA underlying53 0 rfl sizeOf9 rfl) ?_
       refine AT 2 rfl (hH182.sub (sP (sP (sQ sR)))) (fun w hS => run_ld underlying9 rfl rfl (hS.cell (i := 1) rfl (v := .string _) rfl)) ?_
       refine AT 3 rfl (hH182.sub (sP (sP (sQ sR)))) (fun w hS => fA underlying53 1 rfl sizeOf51 rfl) ?_
       refine AT 4 rfl (hH182.sub (sP (sP (sQ sR)))) (fun w hS => run_ldVB underlying51 rfl rfl rfl (hS.blk (i := 1) rfl)) ?_
       refine AT 5 rfl (hH182.sub (sP (sP (sQ sR)))) (fun w hS => run_ldEl underlying51 rfl rfl rfl (hS.blk (i := 0) rfl)) ?_
       refine A1 6 ?_
       refine AO.callP rfl gnone rfl hH182 (sP (sP (sQ sR))) (c_clearanceref07_Meet _ _  _) (run_call2 call47 rfl rfl) ?_
       intro w183 hH184
       refine AT 7 rfl (hH184.sub (sP (sP (sQ sR)))) (fun w hS => run_bld (vs := [(0, S _), (1, .agg (elC _))]) rfl (built_val _ _)) ?_
       refine A1 8 ?_
       refine AO.new rfl gnone rfl hH184 (sP (sP (sQ sR))) (f := fun b => .slice (some ⟨b, 0, none⟩) 1 1) (run_mkRecs valL_len underlying48 rfl rfl rfl (l := [_]) rfl (by decide) (by decide) rfl) ?_
       intro b187 w185 hH186
       refine A1 9 ?_
       refine AO.app rfl gnone rfl hH186 (j := 3) rfl (fun _ => (sQ (sP (sP (sQ sR))))) (Hp.slFlat valL_len hH186 (i := 0) (l := [_]) rfl (by simp [maxLen])) rfl rfl underlying48 rfl rfl (size := 9) (bytes := 80) rfl rfl rfl (by decide) (vals_one _) (by simp only [List.length_cons, List.length_nil]; omega) (by simp only [maxLen, List.length_cons, List.length_nil]; omega) ?_
       intro v190 w188 hH189
       simp only [z0, z1] at hH189
       refine AT 10 rfl (hH189.sub (sQ (sP (sP (sQ sR))))) (fun w hS => run_assign (by conv => lhs; whnf)) ?_
       refine AD ?_
       refine CW.region ?_
       refine V (run_move e9_160) ?_
       refine V (run_add rfl rfl (by omega)) ?_
       refine V (aV (I _) rfl) ?_
       refine RL.nil ?_
       refine ⟨(q + 1, m2 ++ [⟨((a.rows.getD j.toNat vr0).l.getD q.toNat val0).name, meetE ((a.rows.getD j.toNat vr0).l.getD q.toNat val0).el (getF (b.rows.getD j.toNat vr0).l ((a.rows.getD j.toNat vr0).l.getD q.toNat val0).name).1⟩], v190), ?_, fr160.u4.u4.u4.u4.u4.u4.u4.u4.u4.u4.u4.u1, (Hp.conv (hH189.sub (sQ (sQ (sQ sR)))) (by first | rfl | simp)), rfl, (congrArg I (by first | rfl | omega)), ?_, ?_, ?_, ?_⟩
       ·((try dsimp only); omega)
       ·omega
       ·omega
       ·first | (rw [hm2]; exact both_one q0 ‹q < _› ‹(getF _ _).2 = true›) | (rw [hm2]; exact both_not q0 ‹q < _› ‹(getF _ _).2 = false›)
       ·first | (simp only [List.length_append, List.length_singleton]; omega) | omega
      ·refine CW.skip ?_
       refine CW.region ?_
       refine V (run_move e9_160) ?_
       refine V (run_add rfl rfl (by omega)) ?_
       refine V (aV (I _) rfl) ?_
       refine RL.nil ?_
       refine ⟨(q + 1, m2, v8), ?_, fr160.u4.u4.u4.u4.u4.u4.u4.u4.u1.u1, (Hp.conv (hH179.sub (sQ (sQ sR))) (by first | rfl | simp)), e8_160, (congrArg I (by first | rfl | omega)), ?_, ?_, ?_, ?_⟩
       ·((try dsimp only); omega)
       ·omega
       ·omega
       ·first | (rw [hm2]; exact both_one q0 ‹q < _› ‹(getF _ _).2 = true›) | (rw [hm2]; exact both_not q0 ‹q < _› ‹(getF _ _).2 = false›)
       ·first | (simp only [List.length_append, List.length_singleton]; omega) | omega
     ·refine AO.new rfl gnone rfl hH169 sR (f := fun b => .pointer (some ⟨b, 0, none⟩)) (run_alloc zero_el) ?_
      intro b193 w191 hH192
      refine A1 7 ?_
      refine AO.callP rfl gnone rfl hH192 (sQ sR) (c_clearanceref18_Get _ _ _  _ (((hb.mono hK).at (by omega) (by omega)).sl.hp hH192)) (run_call2 call43 rfl rfl) ?_
      intro w194 hH195
      refine AT 8 rfl (hH195.sub (sQ sR)) (fun w hS => run_move (by conv => lhs; whnf)) ?_
      refine AT 9 rfl (hH195.sub (sQ sR)) (fun w hS => run_extract rfl (v := .agg _) rfl) ?_
      refine AT 10 rfl (hH195.sub (sQ sR)) (fun w hS => run_extract rfl (v := B _) rfl) ?_
      refine A1 12 ?_
      refine AO.set rfl gnone hH195 (j := 0) rfl (sQ sR) (run_stEl rfl rfl rfl (hH195.blk (i := 0) rfl)) ?_
      intro w199 hH200
      simp only [z0, z1] at hH200
      refine AT 13 rfl (hH200.sub (sQ sR)) (fun w hS => aV (B _) rfl) ?_
      refine AD ?_
      refine SR ?_
      refine V (mV (B _) rfl) ?_
      refine RL.nil ?_
      refine CW.cond rfl (fun h201 => ?_) (fun h201 => ?_)
      ·refine CW.regionS (by kernel_rfl) hH200 (sP (sP (sQ sR))) ?_
       intro w202 hH203
       refine AT 0 rfl (hH203.sub (sP (sP (sQ sR)))) (fun w hS => run_move e8_160) ?_
       refine AT 1 rfl (hH203.sub (sP (sP (sQ sR)))) (fun w hS => fA underlying53 0 rfl sizeOf9 rfl) ?_
       refine AT 2 rfl (hH203.sub (sP (sP (sQ sR)))) (fun w hS => run_ld underlying9 rfl rfl (hS.cell (i := 1) rfl (v := .string _) rfl)) ?_
       refine AT 3 rfl (hH203.sub (sP (sP (sQ sR)))) (fun w hS => fA underlying53 1 rfl sizeOf51 rfl) ?_
       refine AT 4 rfl (hH203.sub (sP (sP (sQ sR)))) (fun w hS => run_ldVB underlying51 rfl rfl rfl (hS.blk (i := 1) rfl)) ?_
       refine AT 5 rfl (hH203.sub (sP (sP (sQ sR)))) (fun w hS => run_ldEl underlying51 rfl rfl rfl (hS.blk (i := 0) rfl)) ?_
       refine A1 6 ?_
       refine AO.callP rfl gnone rfl hH203 (sP (sP (sQ sR))) (c_clearanceref07_Meet _ _  _) (run_call2 call47 rfl rfl) ?_
       intro w204 hH205
       refine AT 7 rfl (hH205.sub (sP (sP (sQ sR)))) (fun w hS => run_bld (vs := [(0, S _), (1, .agg (elC _))]) rfl (built_val _ _)) ?_
       refine A1 8 ?_
       refine AO.new rfl gnone rfl hH205 (sP (sP (sQ sR))) (f := fun b => .slice (some ⟨b, 0, none⟩) 1 1) (run_mkRecs valL_len underlying48 rfl rfl rfl (l := [_]) rfl (by decide) (by decide) rfl) ?_
       intro b208 w206 hH207
       refine A1 9 ?_
       refine AO.app rfl gnone rfl hH207 (j := 3) rfl (fun _ => (sQ (sP (sP (sQ sR))))) (Hp.slFlat valL_len hH207 (i := 0) (l := [_]) rfl (by simp [maxLen])) rfl rfl underlying48 rfl rfl (size := 9) (bytes := 80) rfl rfl rfl (by decide) (vals_one _) (by simp only [List.length_cons, List.length_nil]; omega) (by simp only [maxLen, List.length_cons, List.length_nil]; omega) ?_
       intro v211 w209 hH210
       simp only [z0, z1] at hH210
       refine AT 10 rfl (hH210.sub (sQ (sP (sP (sQ sR))))) (fun w hS => run_assign (by conv => lhs; whnf)) ?_
       refine AD ?_
       refine CW.region ?_
       refine V (run_move e9_160) ?_
       refine V (run_add rfl rfl (by omega)) ?_
       refine V (aV (I _) rfl) ?_
       refine RL.nil ?_
       refine ⟨(q + 1, m2 ++ [⟨((a.rows.getD j.toNat vr0).l.getD q.toNat val0).name, meetE ((a.rows.getD j.toNat vr0).l.getD q.toNat val0).el (getF (b.rows.getD j.toNat vr0).l ((a.rows.getD j.toNat vr0).l.getD q.toNat val0).name).1⟩], v211), ?_, fr160.u4.u4.u4.u4.u4.u4.u4.u4.u4.u4.u4.u1, (Hp.conv (hH210.sub (sQ (sQ (sQ sR)))) (by first | rfl | simp)), rfl, (congrArg I (by first | rfl | omega)), ?_, ?_, ?_, ?_⟩
       ·((try dsimp only); omega)
       ·omega
       ·omega
       ·first | (rw [hm2]; exact both_one q0 ‹q < _› ‹(getF _ _).2 = true›) | (rw [hm2]; exact both_not q0 ‹q < _› ‹(getF _ _).2 = false›)
       ·first | (simp only [List.length_append, List.length_singleton]; omega) | omega
      ·refine CW.skip ?_
       refine CW.region ?_
       refine V (run_move e9_160) ?_
       refine V (run_add rfl rfl (by omega)) ?_
       refine V (aV (I _) rfl) ?_
       refine RL.nil ?_
       refine ⟨(q + 1, m2, v8), ?_, fr160.u4.u4.u4.u4.u4.u4.u4.u4.u1.u1, (Hp.conv (hH200.sub (sQ (sQ sR))) (by first | rfl | simp)), e8_160, (congrArg I (by first | rfl | omega)), ?_, ?_, ?_, ?_⟩
       ·((try dsimp only); omega)
       ·omega
       ·omega
       ·first | (rw [hm2]; exact both_one q0 ‹q < _› ‹(getF _ _).2 = true›) | (rw [hm2]; exact both_not q0 ‹q < _› ‹(getF _ _).2 = false›)
       ·first | (simp only [List.length_append, List.length_singleton]; omega) | omega
    ·refine CW.exit (id := 4) rfl ?_
     refine CW.region ?_
     refine V (fA underlying29 1 rfl sizeOf27 e5_160) ?_
     refine V (run_ld underlying27 rfl rfl (hH160.cell (i := 3) rfl rfl)) ?_
     refine V (run_move e8_160) ?_
     obtain ⟨Z212, hz213, hv214, -⟩ := hH160.frz (K)
     have hH215 : Hp _ w160 (_ :: _ :: _ :: _ :: _ :: _ :: (Z212 ++ Z)) := hz213.zin (L := [_, _, _, _, _, _]) (L' := Z)
     rw [hm2, both_all ‹¬ q < _›] at hv214
     refine RL.new rfl hH215 (f := fun b => (.slice (some ⟨b, 0, none⟩) 1 1)) (run_mkSl1 (v := v8) (one_slv hv214).2 underlying27 rfl rfl rfl rfl) ?_
     intro b218 w216 hH217
     (try simp only [List.flatMap_cons, List.flatMap_nil, clI, clB, clS, clP, clL, clA, List.append_nil, List.cons_append, List.nil_append] at hH217)
     refine RL.app rfl hH217 (i := 1) rfl (hH217.slBlk (i := 0) (n := 1) (sz := 1) rfl rfl (by decide)) rfl rfl underlying27 rfl rfl (size := 1) (bytes := 24) rfl rfl rfl (by decide) (one_one (one_slv hv214).1) (by first | (show (ls.length + 1) * _ ≤ _; omega) | (show (gr.length + 1) * _ ≤ _; omega) | (show (m2.length + 1) * _ ≤ _; omega)) (by first | (show ls.length + 1 ≤ _; simp only [maxLen]; omega) | (show gr.length + 1 ≤ _; simp only [maxLen]; omega) | (show m2.length + 1 ≤ _; simp only [maxLen]; omega)) ?_
     intro v219 w220 hH221
     simp only [z0, z1] at hH221
     refine V (fA underlying29 1 rfl sizeOf27 e5_160) ?_
     refine RL.set hH221 (i := 3) rfl (run_st rfl rfl (v := v219) rfl (row_cells (hH221.get (i := 1) rfl)).1 (row_cells (hH221.get (i := 1) rfl)).2 (hH221.blk (i := 3) rfl) (by first | (show 1 < 2; decide) | decide | (simp only [List.size_toArray, asgL_len]; decide) | simp)) ?_
     intro w222 hH223
     simp only [z0, z1] at hH223
     refine RL.nil ?_
     refine CW.region ?_
     refine V (run_move e7_160) ?_
     refine V (run_add rfl rfl (by omega)) ?_
     refine V (aV (I _) rfl) ?_
     refine RL.nil ?_
     refine ⟨(j + 1, v219, (gr ++ [(⟨v8, bothF (a.rows.getD j.toNat vr0).l (b.rows.getD j.toNat vr0).l⟩ : VrR)]), (Z212 ++ Z)), ?_, (((fr154.u4.u4.u4.u1.u1).t fr160 rfl)).u4.u4.u4.u4.u1, (Hp.conv (hH223.sub (sQ sR)) (by first | rfl | (simp; done))), (congrArg I (by first | rfl | omega)), ?_, ?_, ?_, ?_, ?_⟩
     ·((try dsimp only); omega)
     ·omega
     ·omega
     ·rw [List.map_append, hmr]; exact mrows_next j0 (by omega) (by omega)
     ·exact (hr.mono (Le.zz fun y hy => List.mem_append_right _ hy)).snoc (hv214.mono (Le.zz fun y hy => List.mem_append_left _ hy))
     ·simp only [List.length_append, List.length_singleton]; omega
   ·refine CW.exit (id := 2) rfl ?_
    refine SR ?_
    obtain ⟨Z224, hz225, hv226, -⟩ := (hH154.perm (((pC pR).trans pS).trans (pC pR))).frz (K)
    have hH227 : Hp _ w154 (_ :: _ :: _ :: _ :: _ :: (Z224 ++ Z)) := hz225.zin (L := [_, _, _, _, _]) (L' := Z)
    obtain ⟨Z228, hz229, hv230, -⟩ := hH227.frz (K)
    have hH231 : Hp _ w154 (_ :: _ :: _ :: _ :: (Z228 ++ (Z224 ++ Z))) := hz229.zin (L := [_, _, _, _]) (L' := (Z224 ++ Z))
    have hN232 : AsgV (Kz K (Z228 ++ (Z224 ++ Z))) (⟨v0, ls, v1, gr⟩ : Asg) := ⟨(hv226.mono (Le.zz (fun x hx => (List.mem_append_right _ (List.mem_append_left _ hx))))), (hv230.mono (Le.zz (fun x hx => (List.mem_append_left _ hx)))), hr.mono (Le.zz (fun x hx => (List.mem_append_right _ (List.mem_append_right _ hx))))⟩
    refine V (run_ldA (cs := asgL (⟨v0, ls, v1, gr⟩ : Asg)) underlying29 rfl rfl e5_154 (rangeAt_cells (hH231.blk (i := 0) rfl))) ?_
    refine RL.set hH231 (i := 1) rfl (run_stW (c' := (asgL (⟨v0, ls, v1, gr⟩ : Asg)).toArray) rfl e4_154 rfl (asgL_one hN232) (hH231.blk (i := 1) rfl) rfl) ?_
    intro w233 hH234
    simp only [z0, z1] at hH234
    refine RL.nil ?_
    refine CW.ret ?_
    refine outCg Tryz.results20 e4_154 hH234 (i := 1) rfl underlying29 rfl rfl ⟨(Z228 ++ (Z224 ++ Z)), (hH234.sub (sQ (sQ (sQ (sQ sR))))), (⟨v0, ls, v1, gr⟩ : Asg), rfl, ?_, hN232⟩
    exact meet_is hm hmr (by omega) (by omega)
  ·refine RL.gF rfl rfl (bF h156) rfl ?_
   refine RL.gF rfl rfl (bF h156) rfl ?_
   refine RL.gF rfl rfl (bF h156) rfl ?_
   refine RL.gF rfl rfl (bF h156) rfl ?_
   refine RL.gF rfl rfl (bF h156) rfl ?_
   refine V (run_pickF (bF h156) (v := B false) rfl) ?_
   refine RL.nil ?_
   refine CW.condF rfl ?_
   refine CW.exit (id := 2) rfl ?_
   refine SR ?_
   obtain ⟨Z235, hz236, hv237, -⟩ := (hH154.perm (((pC pR).trans pS).trans (pC pR))).frz (K)
   have hH238 : Hp _ w154 (_ :: _ :: _ :: _ :: _ :: (Z235 ++ Z)) := hz236.zin (L := [_, _, _, _, _]) (L' := Z)
   obtain ⟨Z239, hz240, hv241, -⟩ := hH238.frz (K)
   have hH242 : Hp _ w154 (_ :: _ :: _ :: _ :: (Z239 ++ (Z235 ++ Z))) := hz240.zin (L := [_, _, _, _]) (L' := (Z235 ++ Z))
   have hN243 : AsgV (Kz K (Z239 ++ (Z235 ++ Z))) (⟨v0, ls, v1, gr⟩ : Asg) := ⟨(hv237.mono (Le.zz (fun x hx => (List.mem_append_right _ (List.mem_append_left _ hx))))), (hv241.mono (Le.zz (fun x hx => (List.mem_append_left _ hx)))), hr.mono (Le.zz (fun x hx => (List.mem_append_right _ (List.mem_append_right _ hx))))⟩
   refine V (run_ldA (cs := asgL (⟨v0, ls, v1, gr⟩ : Asg)) underlying29 rfl rfl e5_154 (rangeAt_cells (hH242.blk (i := 0) rfl))) ?_
   refine RL.set hH242 (i := 1) rfl (run_stW (c' := (asgL (⟨v0, ls, v1, gr⟩ : Asg)).toArray) rfl e4_154 rfl (asgL_one hN243) (hH242.blk (i := 1) rfl) rfl) ?_
   intro w244 hH245
   simp only [z0, z1] at hH245
   refine RL.nil ?_
   refine CW.ret ?_
   refine outCg Tryz.results20 e4_154 hH245 (i := 1) rfl underlying29 rfl rfl ⟨(Z239 ++ (Z235 ++ Z)), (hH245.sub (sQ (sQ (sQ (sQ sR))))), (⟨v0, ls, v1, gr⟩ : Asg), rfl, ?_, hN243⟩
   exact meet_is hm hmr (by omega) (by omega)

theorem c_assign_Least (K : Vu) (s : Scp) (hvl : s.vars.length ≤ 1000) (w : World) (hK : Le K (Kw w)) (hs : ScpV K s) (hT : Tab w) : Calls Tryz.prog 12 #[.agg (scpC s)] w (PureF K (fun K' u => ∃ m : Asg, u = .agg (asgL m).toArray ∧ m.as = leastA s.sc ∧ AsgV K' m) w) := by
 have hm1 := hs.lats.small
 have hm2 := hs.vars.small
 unfold maxLen at hm1 hm2
 refine enter Tryz.func12 rfl Tryz.ntmps12 rfl ?_
 have hH := Hp.start w
 refine SR ?_
 refine RL.new rfl hH (f := fun b => (.pointer (some ⟨b, 0, none⟩))) (run_box (v := .agg _) rfl) ?_
 intro b3 w1 hH2
 refine RL.new rfl hH2 (f := fun b => (.pointer (some ⟨b, 0, none⟩))) (run_alloc zero_asg) ?_
 intro b6 w4 hH5
 refine RL.nil ?_
 refine CW.seq ?_
 refine CW.regionD (by kernel_rfl) hH5 ?_
 intro w7 hH8
 refine AT 0 rfl (hH8.sub sR) (fun w hS => fA underlying25 1 rfl sizeOf23 rfl) ?_
 refine AT 1 rfl (hH8.sub sR) (fun w hS => run_ldV ((hs.mono hK).vars.sl.hp hS) underlying23 rfl rfl (hS.cell (i := 1) rfl rfl)) ?_
 refine AT 2 rfl (hH8.sub sR) (fun w hS => run_lenSl ((hs.mono hK).vars.sl.hp hS) rfl underlying23 rfl) ?_
 refine AT 4 rfl (hH8.sub sR) (fun w hS => fA underlying25 1 rfl sizeOf23 rfl) ?_
 refine AT 5 rfl (hH8.sub sR) (fun w hS => run_ldV ((hs.mono hK).vars.sl.hp hS) underlying23 rfl rfl (hS.cell (i := 1) rfl rfl)) ?_
 refine AT 6 rfl (hH8.sub sR) (fun w hS => run_lenSl ((hs.mono hK).vars.sl.hp hS) rfl underlying23 rfl) ?_
 refine AN.three 3 7 9 (by kernel_rfl) ?_ ?_ ?_
 ·refine AO.new rfl gnone rfl hH8 sR (f := fun b => .slice (some ⟨b, 0, none⟩) (s.vars.length) (s.vars.length)) (run_mkRow (cl := elL) (sz := 8) (z0 := el0) (n := s.vars.length) (elL_len) (by decide) underlying26 rfl rfl (by kernel_rfl) rfl rfl rfl (by show 64 * _ ≤ _; omega) (by simp only [maxLen]; omega)) ?_
  intro b13 w11 hH12
  have hH14 := hH12.blkRow (s.vars.length) 8 (by rw [flat_length (cl := elL) (elL_len), List.length_replicate]) (by simp only [maxLen]; omega)
  refine AN.two 7 9 (by kernel_rfl) ?_ ?_
  ·refine AO.new rfl gnone rfl hH14 (sQ sR) (f := fun b => .slice (some ⟨b, 0, none⟩) (s.vars.length) (s.vars.length)) (run_mkRow (cl := (fun r : VrR => [r.v])) (sz := 1) (z0 := vr0) (n := s.vars.length) (fun _ => rfl) (by decide) underlying27 rfl rfl (by kernel_rfl) rfl rfl rfl (by show 24 * _ ≤ _; omega) (by simp only [maxLen]; omega)) ?_
   intro b19 w17 hH18
   have hH20 := hH18.blkRow (s.vars.length) 1 (by rw [flat_length (cl := (fun r : VrR => [r.v])) (fun _ => rfl), List.length_replicate]) (by simp only [maxLen]; omega)
   refine AN.two 8 9 (by kernel_rfl) ?_ ?_
   ·refine AO.read rfl gnone rfl hH20 (sQ (sQ sR)) (run_bld (vs := [(0, (.slice (some ⟨b13, 0, none⟩) (s.vars.length) (s.vars.length))), (1, (.slice (some ⟨b19, 0, none⟩) (s.vars.length) (s.vars.length)))]) rfl (built_asgV (row_cells (hH20.get (i := 1) rfl)).1 (row_cells (hH20.get (i := 0) rfl)).1)) ?_
    refine A1 9 ?_
    refine AO.new rfl gnone rfl hH20 (sQ (sQ sR)) (f := fun b => .pointer (some ⟨b, 0, none⟩)) (run_alloc zero_asg) ?_
    intro b25 w23 hH24
    refine A1 10 ?_
    refine AO.set rfl gnone hH24 (j := 0) rfl (sQ (sQ (sQ sR))) (run_stW (c' := #[(.slice (some ⟨b13, 0, none⟩) (s.vars.length) (s.vars.length)), (.slice (some ⟨b19, 0, none⟩) (s.vars.length) (s.vars.length))]) rfl rfl rfl (one_pair (row_cells (hH24.get (i := 2) rfl)).2 (row_cells (hH24.get (i := 1) rfl)).2) (hH24.blk (i := 0) rfl) rfl) ?_
    intro w28 hH29
    simp only [z0, z1] at hH29
    refine AD ?_
    refine CW.seq ?_
    refine SR ?_
    refine V (fA underlying25 1 rfl sizeOf23 rfl) ?_
    refine V (run_ldV ((hs.mono hK).vars.sl.hp hH29) underlying23 rfl rfl (hH29.cell (i := 4) rfl rfl)) ?_
    refine V (run_lenSl ((hs.mono hK).vars.sl.hp hH29) rfl underlying23 rfl) ?_
    refine V (mV (I 0) rfl) ?_
    refine RL.nil ?_
    refine CW.block ?_
    refine CW.loop (G := (Int)) (fun (k : Int) s' w' => (Fr [4, 5, 18, 19, 20, 21, 22, 23, 24, 25, 26, 27, 28, 29, 30, 31, 32, 33, 34, 35, 36, 37] _ s') ∧ (Hp w w' (_ :: _ :: .row (.slice (some ⟨b13, 0, none⟩) (s.vars.length) (s.vars.length)) 51 8 s.vars.length ((lsK s k).flatMap elL) :: _)) ∧ (s' 18 = I k) ∧ (0 ≤ k) ∧ (k ≤ s.vars.length)) (fun (k : Int) => (s.vars.length - k).toNat) (0) ⟨Fr.refl _ _, hH29, rfl, (by omega), (by omega)⟩ ?_
    rintro k sg30 w30 ⟨fr30, hH30, e18_30, h0, hk⟩
    have e1_30 : sg30 1 = Pn _ _ := (fr30 1 rfl).trans rfl
    have e2_30 : sg30 2 = Pn _ _ := (fr30 2 rfl).trans rfl
    have e3_30 : sg30 3 = Pn _ _ := (fr30 3 rfl).trans rfl
    have e16_30 := (fr30 16 rfl).trans (by conv => lhs; whnf)
    have e17_30 : sg30 17 = I _ := (fr30 17 rfl).trans rfl
    refine SR ?_
    refine V (run_lss e18_30 e17_30) ?_
    refine RL.nil ?_
    refine CW.seq ?_
    refine CW.condP rfl (fun h32 => ?_) (fun h32 => ?_)
    ·refine CW.skip ?_
     refine CW.seq ?_
     refine CW.block ?_
     refine SR ?_
     refine V (run_move e18_30) ?_
     refine V (run_indexAddrS ((hs.mono hK).vars.sl.hp hH30) underlying23 sizeOf47 e16_30 e18_30 (by omega)) ?_
     refine V (run_ldE (dv := var0) varL_len ((hs.mono hK).vars.sl.hp hH30) underlying47 rfl rfl rfl (by omega)) ?_
     refine RL.new rfl hH30 (f := fun b => (.pointer (some ⟨b, 0, none⟩))) (run_alloc Tryz.zeroValue47) ?_
     intro b35 w33 hH34
     refine V (aV (I _) rfl) ?_
     refine RL.set hH34 (i := 0) rfl (run_stW (c' := (varL _).toArray) rfl rfl rfl (by simp [varL, Value.oneCell']) (hH34.blk (i := 0) rfl) rfl) ?_
     intro w36 hH37
     simp only [z0, z1] at hH37
     refine RL.nil ?_
     refine SR ?_
     refine V (fA underlying47 1 rfl sizeOf3 rfl) ?_
     refine V (run_ld underlying3 rfl rfl (hH37.cell (i := 0) rfl (v := I _) rfl)) ?_
     refine V (run_eql rfl rfl) ?_
     refine RL.nil ?_
     refine CW.condP rfl (fun h39 => ?_) (fun h39 => ?_)
     ·refine CW.regionS (by kernel_rfl) hH37 (sP (sP (sP (sQ sR)))) ?_
      intro w40 hH41
      refine AT 0 rfl (hH41.sub (sP (sP (sP (sQ sR))))) (fun w hS => fA underlying29 0 rfl sizeOf26 e3_30) ?_
      refine AT 1 rfl (hH41.sub (sP (sP (sP (sQ sR))))) (fun w hS => run_ld underlying26 rfl rfl (hS.cell (i := 1) rfl rfl)) ?_
      refine AT 2 rfl (hH41.sub (sP (sP (sP (sQ sR))))) (fun w hS => mV (I _) rfl) ?_
      refine AT 3 rfl (hH41.sub (sP (sP (sP (sQ sR))))) (fun w hS => fA underlying25 0 rfl sizeOf22 e1_30) ?_
      refine AT 4 rfl (hH41.sub (sP (sP (sP (sQ sR))))) (fun w hS => run_ldV ((hs.mono hK).lats.sl.hp hS) underlying22 rfl rfl (hS.cell (i := 4) rfl rfl)) ?_
      refine AT 5 rfl (hH41.sub (sP (sP (sP (sQ sR))))) (fun w hS => fA underlying47 2 rfl sizeOf3 rfl) ?_
      refine AT 6 rfl (hH41.sub (sP (sP (sP (sQ sR))))) (fun w hS => run_ld underlying3 rfl rfl (hS.cell (i := 0) rfl (v := I _) rfl)) ?_
      refine A1 7 ?_
      refine AO.callP rfl gnone rfl hH41 (sP (sP (sP (sQ sR)))) (c_assign_at_api_Lat s _ _ (hs.mono (hK.trans hH41.kw))) (run_call2 call31 rfl rfl) ?_
      intro w42 hH43
      refine AT 8 rfl (hH43.sub (sP (sP (sP (sQ sR))))) (fun w hS => run_fieldA underlying44 rfl isAgg42 sizeOf42 rfl (latL_shp _)) ?_
      refine A1 9 ?_
      refine AO.callP rfl gnone rfl hH43 (sP (sP (sP (sQ sR)))) (c_shape_Bottom _  _ ((lat_at_v (hs.mono hK) _).mono hH43.kw) (hT.hp hH43)) (run_call1 call30 rfl) ?_
      intro w44 hH45
      refine A1 10 ?_
      refine AO.read rfl gnone rfl hH45 (sP (sP (sP (sQ sR)))) (run_indexAddrS (hH45.sl (i := 3) rfl) underlying26 sizeOf51 rfl rfl (by omega)) ?_
      refine A1 11 ?_
      refine AO.rowst rfl gnone hH45 (i := 3) rfl (fun _ => (sP (sP (sP (sQ sR))))) (by omega) rfl (new := elL _) ((rfl : _ = Value.agg (elC _)).trans (by rw [elC_def])) (elL_one _) (by rw [elL_len]; rfl) (by rw [elL_len]; omega) ?_
      intro w50 hH51
      simp only [z0, z1] at hH51
      refine AD ?_
      refine CW.region ?_
      refine V (run_add e18_30 rfl (by omega)) ?_
      refine V (mV (I _) rfl) ?_
      refine RL.nil ?_
      refine ⟨k + 1, ?_, fr30.u4.u4.u4.u4.u4.u1.u1, (Hp.conv (hH51.sub (sQ sR)) (by first | (rw [lsK_put h0 ‹k < _› ‹(s.vars.getD k.toNat var0).kind = 1›]; done) | (rw [lsK_n h0 ‹k < _› ‹¬ (s.vars.getD k.toNat var0).kind = 1›]; done))), (congrArg I (by first | rfl | omega)), ?_, ?_⟩
      ·((try dsimp only); omega)
      ·omega
      ·omega
     ·refine CW.skip ?_
      refine CW.region ?_
      refine V (run_add e18_30 rfl (by omega)) ?_
      refine V (mV (I _) rfl) ?_
      refine RL.nil ?_
      refine ⟨k + 1, ?_, fr30.u4.u4.u1.u1.u1, (Hp.conv (hH37.sub (sQ sR)) (by first | (rw [lsK_put h0 ‹k < _› ‹(s.vars.getD k.toNat var0).kind = 1›]; done) | (rw [lsK_n h0 ‹k < _› ‹¬ (s.vars.getD k.toNat var0).kind = 1›]; done))), (congrArg I (by first | rfl | omega)), ?_, ?_⟩
      ·((try dsimp only); omega)
      ·omega
      ·omega
    ·refine CW.exit (id := 0) rfl ?_
     refine SR ?_
     obtain ⟨Z52, hz53, hv54, -⟩ := (hH30.perm (((pC ((pC pR).trans pS)).trans pS).trans (pC pR))).frz (K)
     have hH55 : Hp _ w30 (_ :: _ :: _ :: _ :: Z52) := hz53.zin0 (L := [_, _, _, _])
     obtain ⟨Z56, hz57, hv58, -⟩ := (hH55.perm (((pC pR).trans pS).trans (pC pR))).frz (K)
     have hH59 : Hp _ w30 (_ :: _ :: _ :: (Z56 ++ Z52)) := hz57.zin (L := [_, _, _]) (L' := Z52)
     have hN60 : AsgV (Kz K (Z56 ++ Z52)) (⟨(.slice (some ⟨b13, 0, none⟩) (s.vars.length) (s.vars.length)), s.vars.map (botV s.sc), (.slice (some ⟨b19, 0, none⟩) (s.vars.length) (s.vars.length)), List.replicate s.vars.length vr0⟩ : Asg) := ⟨lsv h0 ‹¬ k < _› (hv54.mono (Le.zz (fun x hx => (List.mem_append_right _ hx)))), rsv (hv58.mono (Le.zz (fun x hx => (List.mem_append_left _ hx)))), RowsV.nils _ _⟩
     refine V (run_ldA (cs := asgL (⟨(.slice (some ⟨b13, 0, none⟩) (s.vars.length) (s.vars.length)), s.vars.map (botV s.sc), (.slice (some ⟨b19, 0, none⟩) (s.vars.length) (s.vars.length)), List.replicate s.vars.length vr0⟩ : Asg)) underlying29 rfl rfl e3_30 (rangeAt_cells (hH59.blk (i := 0) rfl))) ?_
     refine RL.set hH59 (i := 1) rfl (run_stW (c' := (asgL (⟨(.slice (some ⟨b13, 0, none⟩) (s.vars.length) (s.vars.length)), s.vars.map (botV s.sc), (.slice (some ⟨b19, 0, none⟩) (s.vars.length) (s.vars.length)), List.replicate s.vars.length vr0⟩ : Asg)).toArray) rfl e2_30 rfl (asgL_one hN60) (hH59.blk (i := 1) rfl) rfl) ?_
     intro w61 hH62
     simp only [z0, z1] at hH62
     refine RL.nil ?_
     refine CW.ret ?_
     refine outCg Tryz.results12 e2_30 hH62 (i := 1) rfl underlying29 rfl rfl ⟨(Z56 ++ Z52), (hH62.sub (sQ (sQ (sQ sR)))), (⟨(.slice (some ⟨b13, 0, none⟩) (s.vars.length) (s.vars.length)), s.vars.map (botV s.sc), (.slice (some ⟨b19, 0, none⟩) (s.vars.length) (s.vars.length)), List.replicate s.vars.length vr0⟩ : Asg), rfl, ?_, hN60⟩
     exact least2_is
   ·refine AO.new rfl gnone rfl hH20 (sQ (sQ sR)) (f := fun b => .pointer (some ⟨b, 0, none⟩)) (run_alloc zero_asg) ?_
    intro b65 w63 hH64
    refine A1 8 ?_
    refine AO.read rfl gnone rfl hH64 (sQ (sQ (sQ sR))) (run_bld (vs := [(0, (.slice (some ⟨b13, 0, none⟩) (s.vars.length) (s.vars.length))), (1, (.slice (some ⟨b19, 0, none⟩) (s.vars.length) (s.vars.length)))]) rfl (built_asgV (row_cells (hH64.get (i := 2) rfl)).1 (row_cells (hH64.get (i := 1) rfl)).1)) ?_
    refine A1 10 ?_
    refine AO.set rfl gnone hH64 (j := 0) rfl (sQ (sQ (sQ sR))) (run_stW (c' := #[(.slice (some ⟨b13, 0, none⟩) (s.vars.length) (s.vars.length)), (.slice (some ⟨b19, 0, none⟩) (s.vars.length) (s.vars.length))]) rfl rfl rfl (one_pair (row_cells (hH64.get (i := 2) rfl)).2 (row_cells (hH64.get (i := 1) rfl)).2) (hH64.blk (i := 0) rfl) rfl) ?_
    intro w70 hH71
    simp only [z0, z1] at hH71
    refine AD ?_
    refine CW.seq ?_
    refine SR ?_
    refine V (fA underlying25 1 rfl sizeOf23 rfl) ?_
    refine V (run_ldV ((hs.mono hK).vars.sl.hp hH71) underlying23 rfl rfl (hH71.cell (i := 4) rfl rfl)) ?_
    refine V (run_lenSl ((hs.mono hK).vars.sl.hp hH71) rfl underlying23 rfl) ?_
    refine V (mV (I 0) rfl) ?_
    refine RL.nil ?_
    refine CW.block ?_
    refine CW.loop (G := (Int)) (fun (k : Int) s' w' => (Fr [4, 5, 18, 19, 20, 21, 22, 23, 24, 25, 26, 27, 28, 29, 30, 31, 32, 33, 34, 35, 36, 37] _ s') ∧ (Hp w w' (_ :: _ :: .row (.slice (some ⟨b13, 0, none⟩) (s.vars.length) (s.vars.length)) 51 8 s.vars.length ((lsK s k).flatMap elL) :: _)) ∧ (s' 18 = I k) ∧ (0 ≤ k) ∧ (k ≤ s.vars.length)) (fun (k : Int) => (s.vars.length - k).toNat) (0) ⟨Fr.refl _ _, hH71, rfl, (by omega), (by omega)⟩ ?_
    rintro k sg72 w72 ⟨fr72, hH72, e18_72, h0, hk⟩
    have e1_72 : sg72 1 = Pn _ _ := (fr72 1 rfl).trans rfl
    have e2_72 : sg72 2 = Pn _ _ := (fr72 2 rfl).trans rfl
    have e3_72 : sg72 3 = Pn _ _ := (fr72 3 rfl).trans rfl
    have e16_72 := (fr72 16 rfl).trans (by conv => lhs; whnf)
    have e17_72 : sg72 17 = I _ := (fr72 17 rfl).trans rfl
    refine SR ?_
    refine V (run_lss e18_72 e17_72) ?_
    refine RL.nil ?_
    refine CW.seq ?_
    refine CW.condP rfl (fun h74 => ?_) (fun h74 => ?_)
    ·refine CW.skip ?_
     refine CW.seq ?_
     refine CW.block ?_
     refine SR ?_
     refine V (run_move e18_72) ?_
     refine V (run_indexAddrS ((hs.mono hK).vars.sl.hp hH72) underlying23 sizeOf47 e16_72 e18_72 (by omega)) ?_
     refine V (run_ldE (dv := var0) varL_len ((hs.mono hK).vars.sl.hp hH72) underlying47 rfl rfl rfl (by omega)) ?_
     refine RL.new rfl hH72 (f := fun b => (.pointer (some ⟨b, 0, none⟩))) (run_alloc Tryz.zeroValue47) ?_
     intro b77 w75 hH76
     refine V (aV (I _) rfl) ?_
     refine RL.set hH76 (i := 0) rfl (run_stW (c' := (varL _).toArray) rfl rfl rfl (by simp [varL, Value.oneCell']) (hH76.blk (i := 0) rfl) rfl) ?_
     intro w78 hH79
     simp only [z0, z1] at hH79
     refine RL.nil ?_
     refine SR ?_
     refine V (fA underlying47 1 rfl sizeOf3 rfl) ?_
     refine V (run_ld underlying3 rfl rfl (hH79.cell (i := 0) rfl (v := I _) rfl)) ?_
     refine V (run_eql rfl rfl) ?_
     refine RL.nil ?_
     refine CW.condP rfl (fun h81 => ?_) (fun h81 => ?_)
     ·refine CW.regionS (by kernel_rfl) hH79 (sP (sP (sP (sQ sR)))) ?_
      intro w82 hH83
      refine AT 0 rfl (hH83.sub (sP (sP (sP (sQ sR))))) (fun w hS => fA underlying29 0 rfl sizeOf26 e3_72) ?_
      refine AT 1 rfl (hH83.sub (sP (sP (sP (sQ sR))))) (fun w hS => run_ld underlying26 rfl rfl (hS.cell (i := 1) rfl rfl)) ?_
      refine AT 2 rfl (hH83.sub (sP (sP (sP (sQ sR))))) (fun w hS => mV (I _) rfl) ?_
      refine AT 3 rfl (hH83.sub (sP (sP (sP (sQ sR))))) (fun w hS => fA underlying25 0 rfl sizeOf22 e1_72) ?_
      refine AT 4 rfl (hH83.sub (sP (sP (sP (sQ sR))))) (fun w hS => run_ldV ((hs.mono hK).lats.sl.hp hS) underlying22 rfl rfl (hS.cell (i := 4) rfl rfl)) ?_
      refine AT 5 rfl (hH83.sub (sP (sP (sP (sQ sR))))) (fun w hS => fA underlying47 2 rfl sizeOf3 rfl) ?_
      refine AT 6 rfl (hH83.sub (sP (sP (sP (sQ sR))))) (fun w hS => run_ld underlying3 rfl rfl (hS.cell (i := 0) rfl (v := I _) rfl)) ?_
      refine A1 7 ?_
      refine AO.callP rfl gnone rfl hH83 (sP (sP (sP (sQ sR)))) (c_assign_at_api_Lat s _ _ (hs.mono (hK.trans hH83.kw))) (run_call2 call31 rfl rfl) ?_
      intro w84 hH85
      refine AT 8 rfl (hH85.sub (sP (sP (sP (sQ sR))))) (fun w hS => run_fieldA underlying44 rfl isAgg42 sizeOf42 rfl (latL_shp _)) ?_
      refine A1 9 ?_
      refine AO.callP rfl gnone rfl hH85 (sP (sP (sP (sQ sR)))) (c_shape_Bottom _  _ ((lat_at_v (hs.mono hK) _).mono hH85.kw) (hT.hp hH85)) (run_call1 call30 rfl) ?_
      intro w86 hH87
      refine A1 10 ?_
      refine AO.read rfl gnone rfl hH87 (sP (sP (sP (sQ sR)))) (run_indexAddrS (hH87.sl (i := 3) rfl) underlying26 sizeOf51 rfl rfl (by omega)) ?_
      refine A1 11 ?_
      refine AO.rowst rfl gnone hH87 (i := 3) rfl (fun _ => (sP (sP (sP (sQ sR))))) (by omega) rfl (new := elL _) ((rfl : _ = Value.agg (elC _)).trans (by rw [elC_def])) (elL_one _) (by rw [elL_len]; rfl) (by rw [elL_len]; omega) ?_
      intro w92 hH93
      simp only [z0, z1] at hH93
      refine AD ?_
      refine CW.region ?_
      refine V (run_add e18_72 rfl (by omega)) ?_
      refine V (mV (I _) rfl) ?_
      refine RL.nil ?_
      refine ⟨k + 1, ?_, fr72.u4.u4.u4.u4.u4.u1.u1, (Hp.conv (hH93.sub (sQ sR)) (by first | (rw [lsK_put h0 ‹k < _› ‹(s.vars.getD k.toNat var0).kind = 1›]; done) | (rw [lsK_n h0 ‹k < _› ‹¬ (s.vars.getD k.toNat var0).kind = 1›]; done))), (congrArg I (by first | rfl | omega)), ?_, ?_⟩
      ·((try dsimp only); omega)
      ·omega
      ·omega
     ·refine CW.skip ?_
      refine CW.region ?_
      refine V (run_add e18_72 rfl (by omega)) ?_
      refine V (mV (I _) rfl) ?_
      refine RL.nil ?_
      refine ⟨k + 1, ?_, fr72.u4.u4.u1.u1.u1, (Hp.conv (hH79.sub (sQ sR)) (by first | (rw [lsK_put h0 ‹k < _› ‹(s.vars.getD k.toNat var0).kind = 1›]; done) | (rw [lsK_n h0 ‹k < _› ‹¬ (s.vars.getD k.toNat var0).kind = 1›]; done))), (congrArg I (by first | rfl | omega)), ?_, ?_⟩
      ·((try dsimp only); omega)
      ·omega
      ·omega
    ·refine CW.exit (id := 0) rfl ?_
     refine SR ?_
     obtain ⟨Z94, hz95, hv96, -⟩ := (hH72.perm (((pC ((pC pR).trans pS)).trans pS).trans (pC pR))).frz (K)
     have hH97 : Hp _ w72 (_ :: _ :: _ :: _ :: Z94) := hz95.zin0 (L := [_, _, _, _])
     obtain ⟨Z98, hz99, hv100, -⟩ := (hH97.perm (((pC pR).trans pS).trans (pC pR))).frz (K)
     have hH101 : Hp _ w72 (_ :: _ :: _ :: (Z98 ++ Z94)) := hz99.zin (L := [_, _, _]) (L' := Z94)
     have hN102 : AsgV (Kz K (Z98 ++ Z94)) (⟨(.slice (some ⟨b13, 0, none⟩) (s.vars.length) (s.vars.length)), s.vars.map (botV s.sc), (.slice (some ⟨b19, 0, none⟩) (s.vars.length) (s.vars.length)), List.replicate s.vars.length vr0⟩ : Asg) := ⟨lsv h0 ‹¬ k < _› (hv96.mono (Le.zz (fun x hx => (List.mem_append_right _ hx)))), rsv (hv100.mono (Le.zz (fun x hx => (List.mem_append_left _ hx)))), RowsV.nils _ _⟩
     refine V (run_ldA (cs := asgL (⟨(.slice (some ⟨b13, 0, none⟩) (s.vars.length) (s.vars.length)), s.vars.map (botV s.sc), (.slice (some ⟨b19, 0, none⟩) (s.vars.length) (s.vars.length)), List.replicate s.vars.length vr0⟩ : Asg)) underlying29 rfl rfl e3_72 (rangeAt_cells (hH101.blk (i := 0) rfl))) ?_
     refine RL.set hH101 (i := 1) rfl (run_stW (c' := (asgL (⟨(.slice (some ⟨b13, 0, none⟩) (s.vars.length) (s.vars.length)), s.vars.map (botV s.sc), (.slice (some ⟨b19, 0, none⟩) (s.vars.length) (s.vars.length)), List.replicate s.vars.length vr0⟩ : Asg)).toArray) rfl e2_72 rfl (asgL_one hN102) (hH101.blk (i := 1) rfl) rfl) ?_
     intro w103 hH104
     simp only [z0, z1] at hH104
     refine RL.nil ?_
     refine CW.ret ?_
     refine outCg Tryz.results12 e2_72 hH104 (i := 1) rfl underlying29 rfl rfl ⟨(Z98 ++ Z94), (hH104.sub (sQ (sQ (sQ sR)))), (⟨(.slice (some ⟨b13, 0, none⟩) (s.vars.length) (s.vars.length)), s.vars.map (botV s.sc), (.slice (some ⟨b19, 0, none⟩) (s.vars.length) (s.vars.length)), List.replicate s.vars.length vr0⟩ : Asg), rfl, ?_, hN102⟩
     exact least2_is
  ·refine AO.new rfl gnone rfl hH14 (sQ sR) (f := fun b => .pointer (some ⟨b, 0, none⟩)) (run_alloc zero_asg) ?_
   intro b107 w105 hH106
   refine A1 7 ?_
   refine AO.new rfl gnone rfl hH106 (sQ (sQ sR)) (f := fun b => .slice (some ⟨b, 0, none⟩) (s.vars.length) (s.vars.length)) (run_mkRow (cl := (fun r : VrR => [r.v])) (sz := 1) (z0 := vr0) (n := s.vars.length) (fun _ => rfl) (by decide) underlying27 rfl rfl (by kernel_rfl) rfl rfl rfl (by show 24 * _ ≤ _; omega) (by simp only [maxLen]; omega)) ?_
   intro b112 w110 hH111
   have hH113 := hH111.blkRow (s.vars.length) 1 (by rw [flat_length (cl := (fun r : VrR => [r.v])) (fun _ => rfl), List.length_replicate]) (by simp only [maxLen]; omega)
   refine A1 8 ?_
   refine AO.read rfl gnone rfl hH113 (sQ (sQ (sQ sR))) (run_bld (vs := [(0, (.slice (some ⟨b13, 0, none⟩) (s.vars.length) (s.vars.length))), (1, (.slice (some ⟨b112, 0, none⟩) (s.vars.length) (s.vars.length)))]) rfl (built_asgV (row_cells (hH113.get (i := 2) rfl)).1 (row_cells (hH113.get (i := 0) rfl)).1)) ?_
   refine A1 10 ?_
   refine AO.set rfl gnone hH113 (j := 1) rfl (sQ (sQ (sQ sR))) (run_stW (c' := #[(.slice (some ⟨b13, 0, none⟩) (s.vars.length) (s.vars.length)), (.slice (some ⟨b112, 0, none⟩) (s.vars.length) (s.vars.length))]) rfl rfl rfl (one_pair (row_cells (hH113.get (i := 2) rfl)).2 (row_cells (hH113.get (i := 0) rfl)).2) (hH113.blk (i := 1) rfl) rfl) ?_
   intro w118 hH119
   simp only [z0, z1] at hH119
   refine AD ?_
   refine CW.seq ?_
   refine SR ?_
   refine V (fA underlying25 1 rfl sizeOf23 rfl) ?_
   refine V (run_ldV ((hs.mono hK).vars.sl.hp hH119) underlying23 rfl rfl (hH119.cell (i := 4) rfl rfl)) ?_
   refine V (run_lenSl ((hs.mono hK).vars.sl.hp hH119) rfl underlying23 rfl) ?_
   refine V (mV (I 0) rfl) ?_
   refine RL.nil ?_
   refine CW.block ?_
   refine CW.loop (G := (Int)) (fun (k : Int) s' w' => (Fr [4, 5, 18, 19, 20, 21, 22, 23, 24, 25, 26, 27, 28, 29, 30, 31, 32, 33, 34, 35, 36, 37] _ s') ∧ (Hp w w' (_ :: _ :: .row (.slice (some ⟨b13, 0, none⟩) (s.vars.length) (s.vars.length)) 51 8 s.vars.length ((lsK s k).flatMap elL) :: _)) ∧ (s' 18 = I k) ∧ (0 ≤ k) ∧ (k ≤ s.vars.length)) (fun (k : Int) => (s.vars.length - k).toNat) (0) ⟨Fr.refl _ _, hH119, rfl, (by omega), (by omega)⟩ ?_
   rintro k sg120 w120 ⟨fr120, hH120, e18_120, h0, hk⟩
   have e1_120 : sg120 1 = Pn _ _ := (fr120 1 rfl).trans rfl
   have e2_120 : sg120 2 = Pn _ _ := (fr120 2 rfl).trans rfl
   have e3_120 : sg120 3 = Pn _ _ := (fr120 3 rfl).trans rfl
   have e16_120 := (fr120 16 rfl).trans (by conv => lhs; whnf)
   have e17_120 : sg120 17 = I _ := (fr120 17 rfl).trans rfl
   refine SR ?_
   refine V (run_lss e18_120 e17_120) ?_
   refine RL.nil ?_
   refine CW.seq ?_
   refine CW.condP rfl (fun h122 => ?_) (fun h122 => ?_)
   ·refine CW.skip ?_
    refine CW.seq ?_
    refine CW.block ?_
    refine SR ?_
    refine V (run_move e18_120) ?_
    refine V (run_indexAddrS ((hs.mono hK).vars.sl.hp hH120) underlying23 sizeOf47 e16_120 e18_120 (by omega)) ?_
    refine V (run_ldE (dv := var0) varL_len ((hs.mono hK).vars.sl.hp hH120) underlying47 rfl rfl rfl (by omega)) ?_
    refine RL.new rfl hH120 (f := fun b => (.pointer (some ⟨b, 0, none⟩))) (run_alloc Tryz.zeroValue47) ?_
    intro b125 w123 hH124
    refine V (aV (I _) rfl) ?_
    refine RL.set hH124 (i := 0) rfl (run_stW (c' := (varL _).toArray) rfl rfl rfl (by simp [varL, Value.oneCell']) (hH124.blk (i := 0) rfl) rfl) ?_
    intro w126 hH127
    simp only [z0, z1] at hH127
    refine RL.nil ?_
    refine SR ?_
    refine V (fA underlying47 1 rfl sizeOf3 rfl) ?_
    refine V (run_ld underlying3 rfl rfl (hH127.cell (i := 0) rfl (v := I _) rfl)) ?_
    refine V (run_eql rfl rfl) ?_
    refine RL.nil ?_
    refine CW.condP rfl (fun h129 => ?_) (fun h129 => ?_)
    ·refine CW.regionS (by kernel_rfl) hH127 (sP (sP (sP (sQ sR)))) ?_
     intro w130 hH131
     refine AT 0 rfl (hH131.sub (sP (sP (sP (sQ sR))))) (fun w hS => fA underlying29 0 rfl sizeOf26 e3_120) ?_
     refine AT 1 rfl (hH131.sub (sP (sP (sP (sQ sR))))) (fun w hS => run_ld underlying26 rfl rfl (hS.cell (i := 2) rfl rfl)) ?_
     refine AT 2 rfl (hH131.sub (sP (sP (sP (sQ sR))))) (fun w hS => mV (I _) rfl) ?_
     refine AT 3 rfl (hH131.sub (sP (sP (sP (sQ sR))))) (fun w hS => fA underlying25 0 rfl sizeOf22 e1_120) ?_
     refine AT 4 rfl (hH131.sub (sP (sP (sP (sQ sR))))) (fun w hS => run_ldV ((hs.mono hK).lats.sl.hp hS) underlying22 rfl rfl (hS.cell (i := 4) rfl rfl)) ?_
     refine AT 5 rfl (hH131.sub (sP (sP (sP (sQ sR))))) (fun w hS => fA underlying47 2 rfl sizeOf3 rfl) ?_
     refine AT 6 rfl (hH131.sub (sP (sP (sP (sQ sR))))) (fun w hS => run_ld underlying3 rfl rfl (hS.cell (i := 0) rfl (v := I _) rfl)) ?_
     refine A1 7 ?_
     refine AO.callP rfl gnone rfl hH131 (sP (sP (sP (sQ sR)))) (c_assign_at_api_Lat s _ _ (hs.mono (hK.trans hH131.kw))) (run_call2 call31 rfl rfl) ?_
     intro w132 hH133
     refine AT 8 rfl (hH133.sub (sP (sP (sP (sQ sR))))) (fun w hS => run_fieldA underlying44 rfl isAgg42 sizeOf42 rfl (latL_shp _)) ?_
     refine A1 9 ?_
     refine AO.callP rfl gnone rfl hH133 (sP (sP (sP (sQ sR)))) (c_shape_Bottom _  _ ((lat_at_v (hs.mono hK) _).mono hH133.kw) (hT.hp hH133)) (run_call1 call30 rfl) ?_
     intro w134 hH135
     refine A1 10 ?_
     refine AO.read rfl gnone rfl hH135 (sP (sP (sP (sQ sR)))) (run_indexAddrS (hH135.sl (i := 3) rfl) underlying26 sizeOf51 rfl rfl (by omega)) ?_
     refine A1 11 ?_
     refine AO.rowst rfl gnone hH135 (i := 3) rfl (fun _ => (sP (sP (sP (sQ sR))))) (by omega) rfl (new := elL _) ((rfl : _ = Value.agg (elC _)).trans (by rw [elC_def])) (elL_one _) (by rw [elL_len]; rfl) (by rw [elL_len]; omega) ?_
     intro w140 hH141
     simp only [z0, z1] at hH141
     refine AD ?_
     refine CW.region ?_
     refine V (run_add e18_120 rfl (by omega)) ?_
     refine V (mV (I _) rfl) ?_
     refine RL.nil ?_
     refine ⟨k + 1, ?_, fr120.u4.u4.u4.u4.u4.u1.u1, (Hp.conv (hH141.sub (sQ sR)) (by first | (rw [lsK_put h0 ‹k < _› ‹(s.vars.getD k.toNat var0).kind = 1›]; done) | (rw [lsK_n h0 ‹k < _› ‹¬ (s.vars.getD k.toNat var0).kind = 1›]; done))), (congrArg I (by first | rfl | omega)), ?_, ?_⟩
     ·((try dsimp only); omega)
     ·omega
     ·omega
    ·refine CW.skip ?_
     refine CW.region ?_
     refine V (run_add e18_120 rfl (by omega)) ?_
     refine V (mV (I _) rfl) ?_
     refine RL.nil ?_
     refine ⟨k + 1, ?_, fr120.u4.u4.u1.u1.u1, (Hp.conv (hH127.sub (sQ sR)) (by first | (rw [lsK_put h0 ‹k < _› ‹(s.vars.getD k.toNat var0).kind = 1›]; done) | (rw [lsK_n h0 ‹k < _› ‹¬ (s.vars.getD k.toNat var0).kind = 1›]; done))), (congrArg I (by first | rfl | omega)), ?_, ?_⟩
     ·((try dsimp only); omega)
     ·omega
     ·omega
   ·refine CW.exit (id := 0) rfl ?_
    refine SR ?_
    obtain ⟨Z142, hz143, hv144, -⟩ := (hH120.perm (((pC ((pC pR).trans pS)).trans pS).trans (pC pR))).frz (K)
    have hH145 : Hp _ w120 (_ :: _ :: _ :: _ :: Z142) := hz143.zin0 (L := [_, _, _, _])
    obtain ⟨Z146, hz147, hv148, -⟩ := hH145.frz (K)
    have hH149 : Hp _ w120 (_ :: _ :: _ :: (Z146 ++ Z142)) := hz147.zin (L := [_, _, _]) (L' := Z142)
    have hN150 : AsgV (Kz K (Z146 ++ Z142)) (⟨(.slice (some ⟨b13, 0, none⟩) (s.vars.length) (s.vars.length)), s.vars.map (botV s.sc), (.slice (some ⟨b112, 0, none⟩) (s.vars.length) (s.vars.length)), List.replicate s.vars.length vr0⟩ : Asg) := ⟨lsv h0 ‹¬ k < _› (hv144.mono (Le.zz (fun x hx => (List.mem_append_right _ hx)))), rsv (hv148.mono (Le.zz (fun x hx => (List.mem_append_left _ hx)))), RowsV.nils _ _⟩
    refine V (run_ldA (cs := asgL (⟨(.slice (some ⟨b13, 0, none⟩) (s.vars.length) (s.vars.length)), s.vars.map (botV s.sc), (.slice (some ⟨b112, 0, none⟩) (s.vars.length) (s.vars.length)), List.replicate s.vars.length vr0⟩ : Asg)) underlying29 rfl rfl e3_120 (rangeAt_cells (hH149.blk (i := 0) rfl))) ?_
    refine RL.set hH149 (i := 1) rfl (run_stW (c' := (asgL (⟨(.slice (some ⟨b13, 0, none⟩) (s.vars.length) (s.vars.length)), s.vars.map (botV s.sc), (.slice (some ⟨b112, 0, none⟩) (s.vars.length) (s.vars.length)), List.replicate s.vars.length vr0⟩ : Asg)).toArray) rfl e2_120 rfl (asgL_one hN150) (hH149.blk (i := 1) rfl) rfl) ?_
    intro w151 hH152
    simp only [z0, z1] at hH152
    refine RL.nil ?_
    refine CW.ret ?_
    refine outCg Tryz.results12 e2_120 hH152 (i := 1) rfl underlying29 rfl rfl ⟨(Z146 ++ Z142), (hH152.sub (sQ (sQ (sQ sR)))), (⟨(.slice (some ⟨b13, 0, none⟩) (s.vars.length) (s.vars.length)), s.vars.map (botV s.sc), (.slice (some ⟨b112, 0, none⟩) (s.vars.length) (s.vars.length)), List.replicate s.vars.length vr0⟩ : Asg), rfl, ?_, hN150⟩
    exact least2_is
 ·refine AO.new rfl gnone rfl hH8 sR (f := fun b => .slice (some ⟨b, 0, none⟩) (s.vars.length) (s.vars.length)) (run_mkRow (cl := (fun r : VrR => [r.v])) (sz := 1) (z0 := vr0) (n := s.vars.length) (fun _ => rfl) (by decide) underlying27 rfl rfl (by kernel_rfl) rfl rfl rfl (by show 24 * _ ≤ _; omega) (by simp only [maxLen]; omega)) ?_
  intro b157 w155 hH156
  have hH158 := hH156.blkRow (s.vars.length) 1 (by rw [flat_length (cl := (fun r : VrR => [r.v])) (fun _ => rfl), List.length_replicate]) (by simp only [maxLen]; omega)
  refine AN.two 3 9 (by kernel_rfl) ?_ ?_
  ·refine AO.new rfl gnone rfl hH158 (sQ sR) (f := fun b => .slice (some ⟨b, 0, none⟩) (s.vars.length) (s.vars.length)) (run_mkRow (cl := elL) (sz := 8) (z0 := el0) (n := s.vars.length) (elL_len) (by decide) underlying26 rfl rfl (by kernel_rfl) rfl rfl rfl (by show 64 * _ ≤ _; omega) (by simp only [maxLen]; omega)) ?_
   intro b163 w161 hH162
   have hH164 := hH162.blkRow (s.vars.length) 8 (by rw [flat_length (cl := elL) (elL_len), List.length_replicate]) (by simp only [maxLen]; omega)
   refine AN.two 8 9 (by kernel_rfl) ?_ ?_
   ·refine AO.read rfl gnone rfl hH164 (sQ (sQ sR)) (run_bld (vs := [(0, (.slice (some ⟨b163, 0, none⟩) (s.vars.length) (s.vars.length))), (1, (.slice (some ⟨b157, 0, none⟩) (s.vars.length) (s.vars.length)))]) rfl (built_asgV (row_cells (hH164.get (i := 0) rfl)).1 (row_cells (hH164.get (i := 1) rfl)).1)) ?_
    refine A1 9 ?_
    refine AO.new rfl gnone rfl hH164 (sQ (sQ sR)) (f := fun b => .pointer (some ⟨b, 0, none⟩)) (run_alloc zero_asg) ?_
    intro b169 w167 hH168
    refine A1 10 ?_
    refine AO.set rfl gnone hH168 (j := 0) rfl (sQ (sQ (sQ sR))) (run_stW (c' := #[(.slice (some ⟨b163, 0, none⟩) (s.vars.length) (s.vars.length)), (.slice (some ⟨b157, 0, none⟩) (s.vars.length) (s.vars.length))]) rfl rfl rfl (one_pair (row_cells (hH168.get (i := 1) rfl)).2 (row_cells (hH168.get (i := 2) rfl)).2) (hH168.blk (i := 0) rfl) rfl) ?_
    intro w172 hH173
    simp only [z0, z1] at hH173
    refine AD ?_
    refine CW.seq ?_
    refine SR ?_
    refine V (fA underlying25 1 rfl sizeOf23 rfl) ?_
    refine V (run_ldV ((hs.mono hK).vars.sl.hp hH173) underlying23 rfl rfl (hH173.cell (i := 4) rfl rfl)) ?_
    refine V (run_lenSl ((hs.mono hK).vars.sl.hp hH173) rfl underlying23 rfl) ?_
    refine V (mV (I 0) rfl) ?_
    refine RL.nil ?_
    refine CW.block ?_
    refine CW.loop (G := (Int)) (fun (k : Int) s' w' => (Fr [4, 5, 18, 19, 20, 21, 22, 23, 24, 25, 26, 27, 28, 29, 30, 31, 32, 33, 34, 35, 36, 37] _ s') ∧ (Hp w w' (_ :: .row (.slice (some ⟨b163, 0, none⟩) (s.vars.length) (s.vars.length)) 51 8 s.vars.length ((lsK s k).flatMap elL) :: _)) ∧ (s' 18 = I k) ∧ (0 ≤ k) ∧ (k ≤ s.vars.length)) (fun (k : Int) => (s.vars.length - k).toNat) (0) ⟨Fr.refl _ _, hH173, rfl, (by omega), (by omega)⟩ ?_
    rintro k sg174 w174 ⟨fr174, hH174, e18_174, h0, hk⟩
    have e1_174 : sg174 1 = Pn _ _ := (fr174 1 rfl).trans rfl
    have e2_174 : sg174 2 = Pn _ _ := (fr174 2 rfl).trans rfl
    have e3_174 : sg174 3 = Pn _ _ := (fr174 3 rfl).trans rfl
    have e16_174 := (fr174 16 rfl).trans (by conv => lhs; whnf)
    have e17_174 : sg174 17 = I _ := (fr174 17 rfl).trans rfl
    refine SR ?_
    refine V (run_lss e18_174 e17_174) ?_
    refine RL.nil ?_
    refine CW.seq ?_
    refine CW.condP rfl (fun h176 => ?_) (fun h176 => ?_)
    ·refine CW.skip ?_
     refine CW.seq ?_
     refine CW.block ?_
     refine SR ?_
     refine V (run_move e18_174) ?_
     refine V (run_indexAddrS ((hs.mono hK).vars.sl.hp hH174) underlying23 sizeOf47 e16_174 e18_174 (by omega)) ?_
     refine V (run_ldE (dv := var0) varL_len ((hs.mono hK).vars.sl.hp hH174) underlying47 rfl rfl rfl (by omega)) ?_
     refine RL.new rfl hH174 (f := fun b => (.pointer (some ⟨b, 0, none⟩))) (run_alloc Tryz.zeroValue47) ?_
     intro b179 w177 hH178
     refine V (aV (I _) rfl) ?_
     refine RL.set hH178 (i := 0) rfl (run_stW (c' := (varL _).toArray) rfl rfl rfl (by simp [varL, Value.oneCell']) (hH178.blk (i := 0) rfl) rfl) ?_
     intro w180 hH181
     simp only [z0, z1] at hH181
     refine RL.nil ?_
     refine SR ?_
     refine V (fA underlying47 1 rfl sizeOf3 rfl) ?_
     refine V (run_ld underlying3 rfl rfl (hH181.cell (i := 0) rfl (v := I _) rfl)) ?_
     refine V (run_eql rfl rfl) ?_
     refine RL.nil ?_
     refine CW.condP rfl (fun h183 => ?_) (fun h183 => ?_)
     ·refine CW.regionS (by kernel_rfl) hH181 (sP (sP (sQ sR))) ?_
      intro w184 hH185
      refine AT 0 rfl (hH185.sub (sP (sP (sQ sR)))) (fun w hS => fA underlying29 0 rfl sizeOf26 e3_174) ?_
      refine AT 1 rfl (hH185.sub (sP (sP (sQ sR)))) (fun w hS => run_ld underlying26 rfl rfl (hS.cell (i := 1) rfl rfl)) ?_
      refine AT 2 rfl (hH185.sub (sP (sP (sQ sR)))) (fun w hS => mV (I _) rfl) ?_
      refine AT 3 rfl (hH185.sub (sP (sP (sQ sR)))) (fun w hS => fA underlying25 0 rfl sizeOf22 e1_174) ?_
      refine AT 4 rfl (hH185.sub (sP (sP (sQ sR)))) (fun w hS => run_ldV ((hs.mono hK).lats.sl.hp hS) underlying22 rfl rfl (hS.cell (i := 4) rfl rfl)) ?_
      refine AT 5 rfl (hH185.sub (sP (sP (sQ sR)))) (fun w hS => fA underlying47 2 rfl sizeOf3 rfl) ?_
      refine AT 6 rfl (hH185.sub (sP (sP (sQ sR)))) (fun w hS => run_ld underlying3 rfl rfl (hS.cell (i := 0) rfl (v := I _) rfl)) ?_
      refine A1 7 ?_
      refine AO.callP rfl gnone rfl hH185 (sP (sP (sQ sR))) (c_assign_at_api_Lat s _ _ (hs.mono (hK.trans hH185.kw))) (run_call2 call31 rfl rfl) ?_
      intro w186 hH187
      refine AT 8 rfl (hH187.sub (sP (sP (sQ sR)))) (fun w hS => run_fieldA underlying44 rfl isAgg42 sizeOf42 rfl (latL_shp _)) ?_
      refine A1 9 ?_
      refine AO.callP rfl gnone rfl hH187 (sP (sP (sQ sR))) (c_shape_Bottom _  _ ((lat_at_v (hs.mono hK) _).mono hH187.kw) (hT.hp hH187)) (run_call1 call30 rfl) ?_
      intro w188 hH189
      refine A1 10 ?_
      refine AO.read rfl gnone rfl hH189 (sP (sP (sQ sR))) (run_indexAddrS (hH189.sl (i := 2) rfl) underlying26 sizeOf51 rfl rfl (by omega)) ?_
      refine A1 11 ?_
      refine AO.rowst rfl gnone hH189 (i := 2) rfl (fun _ => (sP (sP (sQ sR)))) (by omega) rfl (new := elL _) ((rfl : _ = Value.agg (elC _)).trans (by rw [elC_def])) (elL_one _) (by rw [elL_len]; rfl) (by rw [elL_len]; omega) ?_
      intro w194 hH195
      simp only [z0, z1] at hH195
      refine AD ?_
      refine CW.region ?_
      refine V (run_add e18_174 rfl (by omega)) ?_
      refine V (mV (I _) rfl) ?_
      refine RL.nil ?_
      refine ⟨k + 1, ?_, fr174.u4.u4.u4.u4.u4.u1.u1, (Hp.conv (hH195.sub (sQ sR)) (by first | (rw [lsK_put h0 ‹k < _› ‹(s.vars.getD k.toNat var0).kind = 1›]; done) | (rw [lsK_n h0 ‹k < _› ‹¬ (s.vars.getD k.toNat var0).kind = 1›]; done))), (congrArg I (by first | rfl | omega)), ?_, ?_⟩
      ·((try dsimp only); omega)
      ·omega
      ·omega
     ·refine CW.skip ?_
      refine CW.region ?_
      refine V (run_add e18_174 rfl (by omega)) ?_
      refine V (mV (I _) rfl) ?_
      refine RL.nil ?_
      refine ⟨k + 1, ?_, fr174.u4.u4.u1.u1.u1, (Hp.conv (hH181.sub (sQ sR)) (by first | (rw [lsK_put h0 ‹k < _› ‹(s.vars.getD k.toNat var0).kind = 1›]; done) | (rw [lsK_n h0 ‹k < _› ‹¬ (s.vars.getD k.toNat var0).kind = 1›]; done))), (congrArg I (by first | rfl | omega)), ?_, ?_⟩
      ·((try dsimp only); omega)
      ·omega
      ·omega
    ·refine CW.exit (id := 0) rfl ?_
     refine SR ?_
     obtain ⟨Z196, hz197, hv198, -⟩ := (hH174.perm (((pC pR).trans pS).trans (pC pR))).frz (K)
     have hH199 : Hp _ w174 (_ :: _ :: _ :: _ :: Z196) := hz197.zin0 (L := [_, _, _, _])
     obtain ⟨Z200, hz201, hv202, -⟩ := (hH199.perm (((pC pR).trans pS).trans (pC pR))).frz (K)
     have hH203 : Hp _ w174 (_ :: _ :: _ :: (Z200 ++ Z196)) := hz201.zin (L := [_, _, _]) (L' := Z196)
     have hN204 : AsgV (Kz K (Z200 ++ Z196)) (⟨(.slice (some ⟨b163, 0, none⟩) (s.vars.length) (s.vars.length)), s.vars.map (botV s.sc), (.slice (some ⟨b157, 0, none⟩) (s.vars.length) (s.vars.length)), List.replicate s.vars.length vr0⟩ : Asg) := ⟨lsv h0 ‹¬ k < _› (hv198.mono (Le.zz (fun x hx => (List.mem_append_right _ hx)))), rsv (hv202.mono (Le.zz (fun x hx => (List.mem_append_left _ hx)))), RowsV.nils _ _⟩
     refine V (run_ldA (cs := asgL (⟨(.slice (some ⟨b163, 0, none⟩) (s.vars.length) (s.vars.length)), s.vars.map (botV s.sc), (.slice (some ⟨b157, 0, none⟩) (s.vars.length) (s.vars.length)), List.replicate s.vars.length vr0⟩ : Asg)) underlying29 rfl rfl e3_174 (rangeAt_cells (hH203.blk (i := 0) rfl))) ?_
     refine RL.set hH203 (i := 1) rfl (run_stW (c' := (asgL (⟨(.slice (some ⟨b163, 0, none⟩) (s.vars.length) (s.vars.length)), s.vars.map (botV s.sc), (.slice (some ⟨b157, 0, none⟩) (s.vars.length) (s.vars.length)), List.replicate s.vars.length vr0⟩ : Asg)).toArray) rfl e2_174 rfl (asgL_one hN204) (hH203.blk (i := 1) rfl) rfl) ?_
     intro w205 hH206
     simp only [z0, z1] at hH206
     refine RL.nil ?_
     refine CW.ret ?_
     refine outCg Tryz.results12 e2_174 hH206 (i := 1) rfl underlying29 rfl rfl ⟨(Z200 ++ Z196), (hH206.sub (sQ (sQ (sQ sR)))), (⟨(.slice (some ⟨b163, 0, none⟩) (s.vars.length) (s.vars.length)), s.vars.map (botV s.sc), (.slice (some ⟨b157, 0, none⟩) (s.vars.length) (s.vars.length)), List.replicate s.vars.length vr0⟩ : Asg), rfl, ?_, hN204⟩
     exact least2_is
   ·refine AO.new rfl gnone rfl hH164 (sQ (sQ sR)) (f := fun b => .pointer (some ⟨b, 0, none⟩)) (run_alloc zero_asg) ?_
    intro b209 w207 hH208
    refine A1 8 ?_
    refine AO.read rfl gnone rfl hH208 (sQ (sQ (sQ sR))) (run_bld (vs := [(0, (.slice (some ⟨b163, 0, none⟩) (s.vars.length) (s.vars.length))), (1, (.slice (some ⟨b157, 0, none⟩) (s.vars.length) (s.vars.length)))]) rfl (built_asgV (row_cells (hH208.get (i := 1) rfl)).1 (row_cells (hH208.get (i := 2) rfl)).1)) ?_
    refine A1 10 ?_
    refine AO.set rfl gnone hH208 (j := 0) rfl (sQ (sQ (sQ sR))) (run_stW (c' := #[(.slice (some ⟨b163, 0, none⟩) (s.vars.length) (s.vars.length)), (.slice (some ⟨b157, 0, none⟩) (s.vars.length) (s.vars.length))]) rfl rfl rfl (one_pair (row_cells (hH208.get (i := 1) rfl)).2 (row_cells (hH208.get (i := 2) rfl)).2) (hH208.blk (i := 0) rfl) rfl) ?_
    intro w214 hH215
    simp only [z0, z1] at hH215
    refine AD ?_
    refine CW.seq ?_
    refine SR ?_
    refine V (fA underlying25 1 rfl sizeOf23 rfl) ?_
    refine V (run_ldV ((hs.mono hK).vars.sl.hp hH215) underlying23 rfl rfl (hH215.cell (i := 4) rfl rfl)) ?_
    refine V (run_lenSl ((hs.mono hK).vars.sl.hp hH215) rfl underlying23 rfl) ?_
    refine V (mV (I 0) rfl) ?_
    refine RL.nil ?_
    refine CW.block ?_
    refine CW.loop (G := (Int)) (fun (k : Int) s' w' => (Fr [4, 5, 18, 19, 20, 21, 22, 23, 24, 25, 26, 27, 28, 29, 30, 31, 32, 33, 34, 35, 36, 37] _ s') ∧ (Hp w w' (_ :: .row (.slice (some ⟨b163, 0, none⟩) (s.vars.length) (s.vars.length)) 51 8 s.vars.length ((lsK s k).flatMap elL) :: _)) ∧ (s' 18 = I k) ∧ (0 ≤ k) ∧ (k ≤ s.vars.length)) (fun (k : Int) => (s.vars.length - k).toNat) (0) ⟨Fr.refl _ _, hH215, rfl, (by omega), (by omega)⟩ ?_
    rintro k sg216 w216 ⟨fr216, hH216, e18_216, h0, hk⟩
    have e1_216 : sg216 1 = Pn _ _ := (fr216 1 rfl).trans rfl
    have e2_216 : sg216 2 = Pn _ _ := (fr216 2 rfl).trans rfl
    have e3_216 : sg216 3 = Pn _ _ := (fr216 3 rfl).trans rfl
    have e16_216 := (fr216 16 rfl).trans (by conv => lhs; whnf)
    have e17_216 : sg216 17 = I _ := (fr216 17 rfl).trans rfl
    refine SR ?_
    refine V (run_lss e18_216 e17_216) ?_
    refine RL.nil ?_
    refine CW.seq ?_
    refine CW.condP rfl (fun h218 => ?_) (fun h218 => ?_)
    ·refine CW.skip ?_
     refine CW.seq ?_
     refine CW.block ?_
     refine SR ?_
     refine V (run_move e18_216) ?_
     refine V (run_indexAddrS ((hs.mono hK).vars.sl.hp hH216) underlying23 sizeOf47 e16_216 e18_216 (by omega)) ?_
     refine V (run_ldE (dv := var0) varL_len ((hs.mono hK).vars.sl.hp hH216) underlying47 rfl rfl rfl (by omega)) ?_
     refine RL.new rfl hH216 (f := fun b => (.pointer (some ⟨b, 0, none⟩))) (run_alloc Tryz.zeroValue47) ?_
     intro b221 w219 hH220
     refine V (aV (I _) rfl) ?_
     refine RL.set hH220 (i := 0) rfl (run_stW (c' := (varL _).toArray) rfl rfl rfl (by simp [varL, Value.oneCell']) (hH220.blk (i := 0) rfl) rfl) ?_
     intro w222 hH223
     simp only [z0, z1] at hH223
     refine RL.nil ?_
     refine SR ?_
     refine V (fA underlying47 1 rfl sizeOf3 rfl) ?_
     refine V (run_ld underlying3 rfl rfl (hH223.cell (i := 0) rfl (v := I _) rfl)) ?_
     refine V (run_eql rfl rfl) ?_
     refine RL.nil ?_
     refine CW.condP rfl (fun h225 => ?_) (fun h225 => ?_)
     ·refine CW.regionS (by kernel_rfl) hH223 (sP (sP (sQ sR))) ?_
      intro w226 hH227
      refine AT 0 rfl (hH227.sub (sP (sP (sQ sR)))) (fun w hS => fA underlying29 0 rfl sizeOf26 e3_216) ?_
      refine AT 1 rfl (hH227.sub (sP (sP (sQ sR)))) (fun w hS => run_ld underlying26 rfl rfl (hS.cell (i := 1) rfl rfl)) ?_
      refine AT 2 rfl (hH227.sub (sP (sP (sQ sR)))) (fun w hS => mV (I _) rfl) ?_
      refine AT 3 rfl (hH227.sub (sP (sP (sQ sR)))) (fun w hS => fA underlying25 0 rfl sizeOf22 e1_216) ?_
      refine AT 4 rfl (hH227.sub (sP (sP (sQ sR)))) (fun w hS => run_ldV ((hs.mono hK).lats.sl.hp hS) underlying22 rfl rfl (hS.cell (i := 4) rfl rfl)) ?_
      refine AT 5 rfl (hH227.sub (sP (sP (sQ sR)))) (fun w hS => fA underlying47 2 rfl sizeOf3 rfl) ?_
      refine AT 6 rfl (hH227.sub (sP (sP (sQ sR)))) (fun w hS => run_ld underlying3 rfl rfl (hS.cell (i := 0) rfl (v := I _) rfl)) ?_
      refine A1 7 ?_
      refine AO.callP rfl gnone rfl hH227 (sP (sP (sQ sR))) (c_assign_at_api_Lat s _ _ (hs.mono (hK.trans hH227.kw))) (run_call2 call31 rfl rfl) ?_
      intro w228 hH229
      refine AT 8 rfl (hH229.sub (sP (sP (sQ sR)))) (fun w hS => run_fieldA underlying44 rfl isAgg42 sizeOf42 rfl (latL_shp _)) ?_
      refine A1 9 ?_
      refine AO.callP rfl gnone rfl hH229 (sP (sP (sQ sR))) (c_shape_Bottom _  _ ((lat_at_v (hs.mono hK) _).mono hH229.kw) (hT.hp hH229)) (run_call1 call30 rfl) ?_
      intro w230 hH231
      refine A1 10 ?_
      refine AO.read rfl gnone rfl hH231 (sP (sP (sQ sR))) (run_indexAddrS (hH231.sl (i := 2) rfl) underlying26 sizeOf51 rfl rfl (by omega)) ?_
      refine A1 11 ?_
      refine AO.rowst rfl gnone hH231 (i := 2) rfl (fun _ => (sP (sP (sQ sR)))) (by omega) rfl (new := elL _) ((rfl : _ = Value.agg (elC _)).trans (by rw [elC_def])) (elL_one _) (by rw [elL_len]; rfl) (by rw [elL_len]; omega) ?_
      intro w236 hH237
      simp only [z0, z1] at hH237
      refine AD ?_
      refine CW.region ?_
      refine V (run_add e18_216 rfl (by omega)) ?_
      refine V (mV (I _) rfl) ?_
      refine RL.nil ?_
      refine ⟨k + 1, ?_, fr216.u4.u4.u4.u4.u4.u1.u1, (Hp.conv (hH237.sub (sQ sR)) (by first | (rw [lsK_put h0 ‹k < _› ‹(s.vars.getD k.toNat var0).kind = 1›]; done) | (rw [lsK_n h0 ‹k < _› ‹¬ (s.vars.getD k.toNat var0).kind = 1›]; done))), (congrArg I (by first | rfl | omega)), ?_, ?_⟩
      ·((try dsimp only); omega)
      ·omega
      ·omega
     ·refine CW.skip ?_
      refine CW.region ?_
      refine V (run_add e18_216 rfl (by omega)) ?_
      refine V (mV (I _) rfl) ?_
      refine RL.nil ?_
      refine ⟨k + 1, ?_, fr216.u4.u4.u1.u1.u1, (Hp.conv (hH223.sub (sQ sR)) (by first | (rw [lsK_put h0 ‹k < _› ‹(s.vars.getD k.toNat var0).kind = 1›]; done) | (rw [lsK_n h0 ‹k < _› ‹¬ (s.vars.getD k.toNat var0).kind = 1›]; done))), (congrArg I (by first | rfl | omega)), ?_, ?_⟩
      ·((try dsimp only); omega)
      ·omega
      ·omega
    ·refine CW.exit (id := 0) rfl ?_
     refine SR ?_
     obtain ⟨Z238, hz239, hv240, -⟩ := (hH216.perm (((pC pR).trans pS).trans (pC pR))).frz (K)
     have hH241 : Hp _ w216 (_ :: _ :: _ :: _ :: Z238) := hz239.zin0 (L := [_, _, _, _])
     obtain ⟨Z242, hz243, hv244, -⟩ := (hH241.perm (((pC pR).trans pS).trans (pC pR))).frz (K)
     have hH245 : Hp _ w216 (_ :: _ :: _ :: (Z242 ++ Z238)) := hz243.zin (L := [_, _, _]) (L' := Z238)
     have hN246 : AsgV (Kz K (Z242 ++ Z238)) (⟨(.slice (some ⟨b163, 0, none⟩) (s.vars.length) (s.vars.length)), s.vars.map (botV s.sc), (.slice (some ⟨b157, 0, none⟩) (s.vars.length) (s.vars.length)), List.replicate s.vars.length vr0⟩ : Asg) := ⟨lsv h0 ‹¬ k < _› (hv240.mono (Le.zz (fun x hx => (List.mem_append_right _ hx)))), rsv (hv244.mono (Le.zz (fun x hx => (List.mem_append_left _ hx)))), RowsV.nils _ _⟩
     refine V (run_ldA (cs := asgL (⟨(.slice (some ⟨b163, 0, none⟩) (s.vars.length) (s.vars.length)), s.vars.map (botV s.sc), (.slice (some ⟨b157, 0, none⟩) (s.vars.length) (s.vars.length)), List.replicate s.vars.length vr0⟩ : Asg)) underlying29 rfl rfl e3_216 (rangeAt_cells (hH245.blk (i := 0) rfl))) ?_
     refine RL.set hH245 (i := 1) rfl (run_stW (c' := (asgL (⟨(.slice (some ⟨b163, 0, none⟩) (s.vars.length) (s.vars.length)), s.vars.map (botV s.sc), (.slice (some ⟨b157, 0, none⟩) (s.vars.length) (s.vars.length)), List.replicate s.vars.length vr0⟩ : Asg)).toArray) rfl e2_216 rfl (asgL_one hN246) (hH245.blk (i := 1) rfl) rfl) ?_
     intro w247 hH248
     simp only [z0, z1] at hH248
     refine RL.nil ?_
     refine CW.ret ?_
     refine outCg Tryz.results12 e2_216 hH248 (i := 1) rfl underlying29 rfl rfl ⟨(Z242 ++ Z238), (hH248.sub (sQ (sQ (sQ sR)))), (⟨(.slice (some ⟨b163, 0, none⟩) (s.vars.length) (s.vars.length)), s.vars.map (botV s.sc), (.slice (some ⟨b157, 0, none⟩) (s.vars.length) (s.vars.length)), List.replicate s.vars.length vr0⟩ : Asg), rfl, ?_, hN246⟩
     exact least2_is
  ·refine AO.new rfl gnone rfl hH158 (sQ sR) (f := fun b => .pointer (some ⟨b, 0, none⟩)) (run_alloc zero_asg) ?_
   intro b251 w249 hH250
   refine A1 3 ?_
   refine AO.new rfl gnone rfl hH250 (sQ (sQ sR)) (f := fun b => .slice (some ⟨b, 0, none⟩) (s.vars.length) (s.vars.length)) (run_mkRow (cl := elL) (sz := 8) (z0 := el0) (n := s.vars.length) (elL_len) (by decide) underlying26 rfl rfl (by kernel_rfl) rfl rfl rfl (by show 64 * _ ≤ _; omega) (by simp only [maxLen]; omega)) ?_
   intro b256 w254 hH255
   have hH257 := hH255.blkRow (s.vars.length) 8 (by rw [flat_length (cl := elL) (elL_len), List.length_replicate]) (by simp only [maxLen]; omega)
   refine A1 8 ?_
   refine AO.read rfl gnone rfl hH257 (sQ (sQ (sQ sR))) (run_bld (vs := [(0, (.slice (some ⟨b256, 0, none⟩) (s.vars.length) (s.vars.length))), (1, (.slice (some ⟨b157, 0, none⟩) (s.vars.length) (s.vars.length)))]) rfl (built_asgV (row_cells (hH257.get (i := 0) rfl)).1 (row_cells (hH257.get (i := 2) rfl)).1)) ?_
   refine A1 10 ?_
   refine AO.set rfl gnone hH257 (j := 1) rfl (sQ (sQ (sQ sR))) (run_stW (c' := #[(.slice (some ⟨b256, 0, none⟩) (s.vars.length) (s.vars.length)), (.slice (some ⟨b157, 0, none⟩) (s.vars.length) (s.vars.length))]) rfl rfl rfl (one_pair (row_cells (hH257.get (i := 0) rfl)).2 (row_cells (hH257.get (i := 2) rfl)).2) (hH257.blk (i := 1) rfl) rfl) ?_
   intro w262 hH263
   simp only [z0, z1] at hH263
   refine AD ?_
   refine CW.seq ?_
   refine SR ?_
   refine V (fA underlying25 1 rfl sizeOf23 rfl) ?_
   refine V (run_ldV ((hs.mono hK).vars.sl.hp hH263) underlying23 rfl rfl (hH263.cell (i := 4) rfl rfl)) ?_
   refine V (run_lenSl ((hs.mono hK).vars.sl.hp hH263) rfl underlying23 rfl) ?_
   refine V (mV (I 0) rfl) ?_
   refine RL.nil ?_
   refine CW.block ?_
   refine CW.loop (G := (Int)) (fun (k : Int) s' w' => (Fr [4, 5, 18, 19, 20, 21, 22, 23, 24, 25, 26, 27, 28, 29, 30, 31, 32, 33, 34, 35, 36, 37] _ s') ∧ (Hp w w' (.row (.slice (some ⟨b256, 0, none⟩) (s.vars.length) (s.vars.length)) 51 8 s.vars.length ((lsK s k).flatMap elL) :: _)) ∧ (s' 18 = I k) ∧ (0 ≤ k) ∧ (k ≤ s.vars.length)) (fun (k : Int) => (s.vars.length - k).toNat) (0) ⟨Fr.refl _ _, hH263, rfl, (by omega), (by omega)⟩ ?_
   rintro k sg264 w264 ⟨fr264, hH264, e18_264, h0, hk⟩
   have e1_264 : sg264 1 = Pn _ _ := (fr264 1 rfl).trans rfl
   have e2_264 : sg264 2 = Pn _ _ := (fr264 2 rfl).trans rfl
   have e3_264 : sg264 3 = Pn _ _ := (fr264 3 rfl).trans rfl
   have e16_264 := (fr264 16 rfl).trans (by conv => lhs; whnf)
   have e17_264 : sg264 17 = I _ := (fr264 17 rfl).trans rfl
   refine SR ?_
   refine V (run_lss e18_264 e17_264) ?_
   refine RL.nil ?_
   refine CW.seq ?_
   refine CW.condP rfl (fun h266 => ?_) (fun h266 => ?_)
   ·refine CW.skip ?_
    refine CW.seq ?_
    refine CW.block ?_
    refine SR ?_
    refine V (run_move e18_264) ?_
    refine V (run_indexAddrS ((hs.mono hK).vars.sl.hp hH264) underlying23 sizeOf47 e16_264 e18_264 (by omega)) ?_
    refine V (run_ldE (dv := var0) varL_len ((hs.mono hK).vars.sl.hp hH264) underlying47 rfl rfl rfl (by omega)) ?_
    refine RL.new rfl hH264 (f := fun b => (.pointer (some ⟨b, 0, none⟩))) (run_alloc Tryz.zeroValue47) ?_
    intro b269 w267 hH268
    refine V (aV (I _) rfl) ?_
    refine RL.set hH268 (i := 0) rfl (run_stW (c' := (varL _).toArray) rfl rfl rfl (by simp [varL, Value.oneCell']) (hH268.blk (i := 0) rfl) rfl) ?_
    intro w270 hH271
    simp only [z0, z1] at hH271
    refine RL.nil ?_
    refine SR ?_
    refine V (fA underlying47 1 rfl sizeOf3 rfl) ?_
    refine V (run_ld underlying3 rfl rfl (hH271.cell (i := 0) rfl (v := I _) rfl)) ?_
    refine V (run_eql rfl rfl) ?_
    refine RL.nil ?_
    refine CW.condP rfl (fun h273 => ?_) (fun h273 => ?_)
    ·refine CW.regionS (by kernel_rfl) hH271 (sP (sQ sR)) ?_
     intro w274 hH275
     refine AT 0 rfl (hH275.sub (sP (sQ sR))) (fun w hS => fA underlying29 0 rfl sizeOf26 e3_264) ?_
     refine AT 1 rfl (hH275.sub (sP (sQ sR))) (fun w hS => run_ld underlying26 rfl rfl (hS.cell (i := 1) rfl rfl)) ?_
     refine AT 2 rfl (hH275.sub (sP (sQ sR))) (fun w hS => mV (I _) rfl) ?_
     refine AT 3 rfl (hH275.sub (sP (sQ sR))) (fun w hS => fA underlying25 0 rfl sizeOf22 e1_264) ?_
     refine AT 4 rfl (hH275.sub (sP (sQ sR))) (fun w hS => run_ldV ((hs.mono hK).lats.sl.hp hS) underlying22 rfl rfl (hS.cell (i := 4) rfl rfl)) ?_
     refine AT 5 rfl (hH275.sub (sP (sQ sR))) (fun w hS => fA underlying47 2 rfl sizeOf3 rfl) ?_
     refine AT 6 rfl (hH275.sub (sP (sQ sR))) (fun w hS => run_ld underlying3 rfl rfl (hS.cell (i := 0) rfl (v := I _) rfl)) ?_
     refine A1 7 ?_
     refine AO.callP rfl gnone rfl hH275 (sP (sQ sR)) (c_assign_at_api_Lat s _ _ (hs.mono (hK.trans hH275.kw))) (run_call2 call31 rfl rfl) ?_
     intro w276 hH277
     refine AT 8 rfl (hH277.sub (sP (sQ sR))) (fun w hS => run_fieldA underlying44 rfl isAgg42 sizeOf42 rfl (latL_shp _)) ?_
     refine A1 9 ?_
     refine AO.callP rfl gnone rfl hH277 (sP (sQ sR)) (c_shape_Bottom _  _ ((lat_at_v (hs.mono hK) _).mono hH277.kw) (hT.hp hH277)) (run_call1 call30 rfl) ?_
     intro w278 hH279
     refine A1 10 ?_
     refine AO.read rfl gnone rfl hH279 (sP (sQ sR)) (run_indexAddrS (hH279.sl (i := 1) rfl) underlying26 sizeOf51 rfl rfl (by omega)) ?_
     refine A1 11 ?_
     refine AO.rowst rfl gnone hH279 (i := 1) rfl (fun _ => (sP (sQ sR))) (by omega) rfl (new := elL _) ((rfl : _ = Value.agg (elC _)).trans (by rw [elC_def])) (elL_one _) (by rw [elL_len]; rfl) (by rw [elL_len]; omega) ?_
     intro w284 hH285
     simp only [z0, z1] at hH285
     refine AD ?_
     refine CW.region ?_
     refine V (run_add e18_264 rfl (by omega)) ?_
     refine V (mV (I _) rfl) ?_
     refine RL.nil ?_
     refine ⟨k + 1, ?_, fr264.u4.u4.u4.u4.u4.u1.u1, (Hp.conv (hH285.sub (sQ sR)) (by first | (rw [lsK_put h0 ‹k < _› ‹(s.vars.getD k.toNat var0).kind = 1›]; done) | (rw [lsK_n h0 ‹k < _› ‹¬ (s.vars.getD k.toNat var0).kind = 1›]; done))), (congrArg I (by first | rfl | omega)), ?_, ?_⟩
     ·((try dsimp only); omega)
     ·omega
     ·omega
    ·refine CW.skip ?_
     refine CW.region ?_
     refine V (run_add e18_264 rfl (by omega)) ?_
     refine V (mV (I _) rfl) ?_
     refine RL.nil ?_
     refine ⟨k + 1, ?_, fr264.u4.u4.u1.u1.u1, (Hp.conv (hH271.sub (sQ sR)) (by first | (rw [lsK_put h0 ‹k < _› ‹(s.vars.getD k.toNat var0).kind = 1›]; done) | (rw [lsK_n h0 ‹k < _› ‹¬ (s.vars.getD k.toNat var0).kind = 1›]; done))), (congrArg I (by first | rfl | omega)), ?_, ?_⟩
     ·((try dsimp only); omega)
     ·omega
     ·omega
   ·refine CW.exit (id := 0) rfl ?_
    refine SR ?_
    obtain ⟨Z286, hz287, hv288, -⟩ := hH264.frz (K)
    have hH289 : Hp _ w264 (_ :: _ :: _ :: _ :: Z286) := hz287.zin0 (L := [_, _, _, _])
    obtain ⟨Z290, hz291, hv292, -⟩ := (hH289.perm (((pC pR).trans pS).trans (pC pR))).frz (K)
    have hH293 : Hp _ w264 (_ :: _ :: _ :: (Z290 ++ Z286)) := hz291.zin (L := [_, _, _]) (L' := Z286)
    have hN294 : AsgV (Kz K (Z290 ++ Z286)) (⟨(.slice (some ⟨b256, 0, none⟩) (s.vars.length) (s.vars.length)), s.vars.map (botV s.sc), (.slice (some ⟨b157, 0, none⟩) (s.vars.length) (s.vars.length)), List.replicate s.vars.length vr0⟩ : Asg) := ⟨lsv h0 ‹¬ k < _› (hv288.mono (Le.zz (fun x hx => (List.mem_append_right _ hx)))), rsv (hv292.mono (Le.zz (fun x hx => (List.mem_append_left _ hx)))), RowsV.nils _ _⟩
    refine V (run_ldA (cs := asgL (⟨(.slice (some ⟨b256, 0, none⟩) (s.vars.length) (s.vars.length)), s.vars.map (botV s.sc), (.slice (some ⟨b157, 0, none⟩) (s.vars.length) (s.vars.length)), List.replicate s.vars.length vr0⟩ : Asg)) underlying29 rfl rfl e3_264 (rangeAt_cells (hH293.blk (i := 0) rfl))) ?_
    refine RL.set hH293 (i := 1) rfl (run_stW (c' := (asgL (⟨(.slice (some ⟨b256, 0, none⟩) (s.vars.length) (s.vars.length)), s.vars.map (botV s.sc), (.slice (some ⟨b157, 0, none⟩) (s.vars.length) (s.vars.length)), List.replicate s.vars.length vr0⟩ : Asg)).toArray) rfl e2_264 rfl (asgL_one hN294) (hH293.blk (i := 1) rfl) rfl) ?_
    intro w295 hH296
    simp only [z0, z1] at hH296
    refine RL.nil ?_
    refine CW.ret ?_
    refine outCg Tryz.results12 e2_264 hH296 (i := 1) rfl underlying29 rfl rfl ⟨(Z290 ++ Z286), (hH296.sub (sQ (sQ (sQ sR)))), (⟨(.slice (some ⟨b256, 0, none⟩) (s.vars.length) (s.vars.length)), s.vars.map (botV s.sc), (.slice (some ⟨b157, 0, none⟩) (s.vars.length) (s.vars.length)), List.replicate s.vars.length vr0⟩ : Asg), rfl, ?_, hN294⟩
    exact least2_is
 ·refine AO.new rfl gnone rfl hH8 sR (f := fun b => .pointer (some ⟨b, 0, none⟩)) (run_alloc zero_asg) ?_
  intro b299 w297 hH298
  refine AN.two 3 7 (by kernel_rfl) ?_ ?_
  ·refine AO.new rfl gnone rfl hH298 (sQ sR) (f := fun b => .slice (some ⟨b, 0, none⟩) (s.vars.length) (s.vars.length)) (run_mkRow (cl := elL) (sz := 8) (z0 := el0) (n := s.vars.length) (elL_len) (by decide) underlying26 rfl rfl (by kernel_rfl) rfl rfl rfl (by show 64 * _ ≤ _; omega) (by simp only [maxLen]; omega)) ?_
   intro b304 w302 hH303
   have hH305 := hH303.blkRow (s.vars.length) 8 (by rw [flat_length (cl := elL) (elL_len), List.length_replicate]) (by simp only [maxLen]; omega)
   refine A1 7 ?_
   refine AO.new rfl gnone rfl hH305 (sQ (sQ sR)) (f := fun b => .slice (some ⟨b, 0, none⟩) (s.vars.length) (s.vars.length)) (run_mkRow (cl := (fun r : VrR => [r.v])) (sz := 1) (z0 := vr0) (n := s.vars.length) (fun _ => rfl) (by decide) underlying27 rfl rfl (by kernel_rfl) rfl rfl rfl (by show 24 * _ ≤ _; omega) (by simp only [maxLen]; omega)) ?_
   intro b310 w308 hH309
   have hH311 := hH309.blkRow (s.vars.length) 1 (by rw [flat_length (cl := (fun r : VrR => [r.v])) (fun _ => rfl), List.length_replicate]) (by simp only [maxLen]; omega)
   refine A1 8 ?_
   refine AO.read rfl gnone rfl hH311 (sQ (sQ (sQ sR))) (run_bld (vs := [(0, (.slice (some ⟨b304, 0, none⟩) (s.vars.length) (s.vars.length))), (1, (.slice (some ⟨b310, 0, none⟩) (s.vars.length) (s.vars.length)))]) rfl (built_asgV (row_cells (hH311.get (i := 1) rfl)).1 (row_cells (hH311.get (i := 0) rfl)).1)) ?_
   refine A1 10 ?_
   refine AO.set rfl gnone hH311 (j := 2) rfl (sQ (sQ (sQ sR))) (run_stW (c' := #[(.slice (some ⟨b304, 0, none⟩) (s.vars.length) (s.vars.length)), (.slice (some ⟨b310, 0, none⟩) (s.vars.length) (s.vars.length))]) rfl rfl rfl (one_pair (row_cells (hH311.get (i := 1) rfl)).2 (row_cells (hH311.get (i := 0) rfl)).2) (hH311.blk (i := 2) rfl) rfl) ?_
   intro w316 hH317
   simp only [z0, z1] at hH317
   refine AD ?_
   refine CW.seq ?_
   refine SR ?_
   refine V (fA underlying25 1 rfl sizeOf23 rfl) ?_
   refine V (run_ldV ((hs.mono hK).vars.sl.hp hH317) underlying23 rfl rfl (hH317.cell (i := 4) rfl rfl)) ?_
   refine V (run_lenSl ((hs.mono hK).vars.sl.hp hH317) rfl underlying23 rfl) ?_
   refine V (mV (I 0) rfl) ?_
   refine RL.nil ?_
   refine CW.block ?_
   refine CW.loop (G := (Int)) (fun (k : Int) s' w' => (Fr [4, 5, 18, 19, 20, 21, 22, 23, 24, 25, 26, 27, 28, 29, 30, 31, 32, 33, 34, 35, 36, 37] _ s') ∧ (Hp w w' (_ :: .row (.slice (some ⟨b304, 0, none⟩) (s.vars.length) (s.vars.length)) 51 8 s.vars.length ((lsK s k).flatMap elL) :: _)) ∧ (s' 18 = I k) ∧ (0 ≤ k) ∧ (k ≤ s.vars.length)) (fun (k : Int) => (s.vars.length - k).toNat) (0) ⟨Fr.refl _ _, hH317, rfl, (by omega), (by omega)⟩ ?_
   rintro k sg318 w318 ⟨fr318, hH318, e18_318, h0, hk⟩
   have e1_318 : sg318 1 = Pn _ _ := (fr318 1 rfl).trans rfl
   have e2_318 : sg318 2 = Pn _ _ := (fr318 2 rfl).trans rfl
   have e3_318 : sg318 3 = Pn _ _ := (fr318 3 rfl).trans rfl
   have e16_318 := (fr318 16 rfl).trans (by conv => lhs; whnf)
   have e17_318 : sg318 17 = I _ := (fr318 17 rfl).trans rfl
   refine SR ?_
   refine V (run_lss e18_318 e17_318) ?_
   refine RL.nil ?_
   refine CW.seq ?_
   refine CW.condP rfl (fun h320 => ?_) (fun h320 => ?_)
   ·refine CW.skip ?_
    refine CW.seq ?_
    refine CW.block ?_
    refine SR ?_
    refine V (run_move e18_318) ?_
    refine V (run_indexAddrS ((hs.mono hK).vars.sl.hp hH318) underlying23 sizeOf47 e16_318 e18_318 (by omega)) ?_
    refine V (run_ldE (dv := var0) varL_len ((hs.mono hK).vars.sl.hp hH318) underlying47 rfl rfl rfl (by omega)) ?_
    refine RL.new rfl hH318 (f := fun b => (.pointer (some ⟨b, 0, none⟩))) (run_alloc Tryz.zeroValue47) ?_
    intro b323 w321 hH322
    refine V (aV (I _) rfl) ?_
    refine RL.set hH322 (i := 0) rfl (run_stW (c' := (varL _).toArray) rfl rfl rfl (by simp [varL, Value.oneCell']) (hH322.blk (i := 0) rfl) rfl) ?_
    intro w324 hH325
    simp only [z0, z1] at hH325
    refine RL.nil ?_
    refine SR ?_
    refine V (fA underlying47 1 rfl sizeOf3 rfl) ?_
    refine V (run_ld underlying3 rfl rfl (hH325.cell (i := 0) rfl (v := I _) rfl)) ?_
    refine V (run_eql rfl rfl) ?_
    refine RL.nil ?_
    refine CW.condP rfl (fun h327 => ?_) (fun h327 => ?_)
    ·refine CW.regionS (by kernel_rfl) hH325 (sP (sP (sQ sR))) ?_
     intro w328 hH329
     refine AT 0 rfl (hH329.sub (sP (sP (sQ sR)))) (fun w hS => fA underlying29 0 rfl sizeOf26 e3_318) ?_
     refine AT 1 rfl (hH329.sub (sP (sP (sQ sR)))) (fun w hS => run_ld underlying26 rfl rfl (hS.cell (i := 2) rfl rfl)) ?_
     refine AT 2 rfl (hH329.sub (sP (sP (sQ sR)))) (fun w hS => mV (I _) rfl) ?_
     refine AT 3 rfl (hH329.sub (sP (sP (sQ sR)))) (fun w hS => fA underlying25 0 rfl sizeOf22 e1_318) ?_
     refine AT 4 rfl (hH329.sub (sP (sP (sQ sR)))) (fun w hS => run_ldV ((hs.mono hK).lats.sl.hp hS) underlying22 rfl rfl (hS.cell (i := 4) rfl rfl)) ?_
     refine AT 5 rfl (hH329.sub (sP (sP (sQ sR)))) (fun w hS => fA underlying47 2 rfl sizeOf3 rfl) ?_
     refine AT 6 rfl (hH329.sub (sP (sP (sQ sR)))) (fun w hS => run_ld underlying3 rfl rfl (hS.cell (i := 0) rfl (v := I _) rfl)) ?_
     refine A1 7 ?_
     refine AO.callP rfl gnone rfl hH329 (sP (sP (sQ sR))) (c_assign_at_api_Lat s _ _ (hs.mono (hK.trans hH329.kw))) (run_call2 call31 rfl rfl) ?_
     intro w330 hH331
     refine AT 8 rfl (hH331.sub (sP (sP (sQ sR)))) (fun w hS => run_fieldA underlying44 rfl isAgg42 sizeOf42 rfl (latL_shp _)) ?_
     refine A1 9 ?_
     refine AO.callP rfl gnone rfl hH331 (sP (sP (sQ sR))) (c_shape_Bottom _  _ ((lat_at_v (hs.mono hK) _).mono hH331.kw) (hT.hp hH331)) (run_call1 call30 rfl) ?_
     intro w332 hH333
     refine A1 10 ?_
     refine AO.read rfl gnone rfl hH333 (sP (sP (sQ sR))) (run_indexAddrS (hH333.sl (i := 2) rfl) underlying26 sizeOf51 rfl rfl (by omega)) ?_
     refine A1 11 ?_
     refine AO.rowst rfl gnone hH333 (i := 2) rfl (fun _ => (sP (sP (sQ sR)))) (by omega) rfl (new := elL _) ((rfl : _ = Value.agg (elC _)).trans (by rw [elC_def])) (elL_one _) (by rw [elL_len]; rfl) (by rw [elL_len]; omega) ?_
     intro w338 hH339
     simp only [z0, z1] at hH339
     refine AD ?_
     refine CW.region ?_
     refine V (run_add e18_318 rfl (by omega)) ?_
     refine V (mV (I _) rfl) ?_
     refine RL.nil ?_
     refine ⟨k + 1, ?_, fr318.u4.u4.u4.u4.u4.u1.u1, (Hp.conv (hH339.sub (sQ sR)) (by first | (rw [lsK_put h0 ‹k < _› ‹(s.vars.getD k.toNat var0).kind = 1›]; done) | (rw [lsK_n h0 ‹k < _› ‹¬ (s.vars.getD k.toNat var0).kind = 1›]; done))), (congrArg I (by first | rfl | omega)), ?_, ?_⟩
     ·((try dsimp only); omega)
     ·omega
     ·omega
    ·refine CW.skip ?_
     refine CW.region ?_
     refine V (run_add e18_318 rfl (by omega)) ?_
     refine V (mV (I _) rfl) ?_
     refine RL.nil ?_
     refine ⟨k + 1, ?_, fr318.u4.u4.u1.u1.u1, (Hp.conv (hH325.sub (sQ sR)) (by first | (rw [lsK_put h0 ‹k < _› ‹(s.vars.getD k.toNat var0).kind = 1›]; done) | (rw [lsK_n h0 ‹k < _› ‹¬ (s.vars.getD k.toNat var0).kind = 1›]; done))), (congrArg I (by first | rfl | omega)), ?_, ?_⟩
     ·((try dsimp only); omega)
     ·omega
     ·omega
   ·refine CW.exit (id := 0) rfl ?_
    refine SR ?_
    obtain ⟨Z340, hz341, hv342, -⟩ := (hH318.perm (((pC pR).trans pS).trans (pC pR))).frz (K)
    have hH343 : Hp _ w318 (_ :: _ :: _ :: _ :: Z340) := hz341.zin0 (L := [_, _, _, _])
    obtain ⟨Z344, hz345, hv346, -⟩ := hH343.frz (K)
    have hH347 : Hp _ w318 (_ :: _ :: _ :: (Z344 ++ Z340)) := hz345.zin (L := [_, _, _]) (L' := Z340)
    have hN348 : AsgV (Kz K (Z344 ++ Z340)) (⟨(.slice (some ⟨b304, 0, none⟩) (s.vars.length) (s.vars.length)), s.vars.map (botV s.sc), (.slice (some ⟨b310, 0, none⟩) (s.vars.length) (s.vars.length)), List.replicate s.vars.length vr0⟩ : Asg) := ⟨lsv h0 ‹¬ k < _› (hv342.mono (Le.zz (fun x hx => (List.mem_append_right _ hx)))), rsv (hv346.mono (Le.zz (fun x hx => (List.mem_append_left _ hx)))), RowsV.nils _ _⟩
    refine V (run_ldA (cs := asgL (⟨(.slice (some ⟨b304, 0, none⟩) (s.vars.length) (s.vars.length)), s.vars.map (botV s.sc), (.slice (some ⟨b310, 0, none⟩) (s.vars.length) (s.vars.length)), List.replicate s.vars.length vr0⟩ : Asg)) underlying29 rfl rfl e3_318 (rangeAt_cells (hH347.blk (i := 0) rfl))) ?_
    refine RL.set hH347 (i := 1) rfl (run_stW (c' := (asgL (⟨(.slice (some ⟨b304, 0, none⟩) (s.vars.length) (s.vars.length)), s.vars.map (botV s.sc), (.slice (some ⟨b310, 0, none⟩) (s.vars.length) (s.vars.length)), List.replicate s.vars.length vr0⟩ : Asg)).toArray) rfl e2_318 rfl (asgL_one hN348) (hH347.blk (i := 1) rfl) rfl) ?_
    intro w349 hH350
    simp only [z0, z1] at hH350
    refine RL.nil ?_
    refine CW.ret ?_
    refine outCg Tryz.results12 e2_318 hH350 (i := 1) rfl underlying29 rfl rfl ⟨(Z344 ++ Z340), (hH350.sub (sQ (sQ (sQ sR)))), (⟨(.slice (some ⟨b304, 0, none⟩) (s.vars.length) (s.vars.length)), s.vars.map (botV s.sc), (.slice (some ⟨b310, 0, none⟩) (s.vars.length) (s.vars.length)), List.replicate s.vars.length vr0⟩ : Asg), rfl, ?_, hN348⟩
    exact least2_is
  ·refine AO.new rfl gnone rfl hH298 (sQ sR) (f := fun b => .slice (some ⟨b, 0, none⟩) (s.vars.length) (s.vars.length)) (run_mkRow (cl := (fun r : VrR => [r.v])) (sz := 1) (z0 := vr0) (n := s.vars.length) (fun _ => rfl) (by decide) underlying27 rfl rfl (by kernel_rfl) rfl rfl rfl (by show 24 * _ ≤ _; omega) (by simp only [maxLen]; omega)) ?_
   intro b355 w353 hH354
   have hH356 := hH354.blkRow (s.vars.length) 1 (by rw [flat_length (cl := (fun r : VrR => [r.v])) (fun _ => rfl), List.length_replicate]) (by simp only [maxLen]; omega)
   refine A1 3 ?_
   refine AO.new rfl gnone rfl hH356 (sQ (sQ sR)) (f := fun b => .slice (some ⟨b, 0, none⟩) (s.vars.length) (s.vars.length)) (run_mkRow (cl := elL) (sz := 8) (z0 := el0) (n := s.vars.length) (elL_len) (by decide) underlying26 rfl rfl (by kernel_rfl) rfl rfl rfl (by show 64 * _ ≤ _; omega) (by simp only [maxLen]; omega)) ?_
   intro b361 w359 hH360
   have hH362 := hH360.blkRow (s.vars.length) 8 (by rw [flat_length (cl := elL) (elL_len), List.length_replicate]) (by simp only [maxLen]; omega)
   refine A1 8 ?_
   refine AO.read rfl gnone rfl hH362 (sQ (sQ (sQ sR))) (run_bld (vs := [(0, (.slice (some ⟨b361, 0, none⟩) (s.vars.length) (s.vars.length))), (1, (.slice (some ⟨b355, 0, none⟩) (s.vars.length) (s.vars.length)))]) rfl (built_asgV (row_cells (hH362.get (i := 0) rfl)).1 (row_cells (hH362.get (i := 1) rfl)).1)) ?_
   refine A1 10 ?_
   refine AO.set rfl gnone hH362 (j := 2) rfl (sQ (sQ (sQ sR))) (run_stW (c' := #[(.slice (some ⟨b361, 0, none⟩) (s.vars.length) (s.vars.length)), (.slice (some ⟨b355, 0, none⟩) (s.vars.length) (s.vars.length))]) rfl rfl rfl (one_pair (row_cells (hH362.get (i := 0) rfl)).2 (row_cells (hH362.get (i := 1) rfl)).2) (hH362.blk (i := 2) rfl) rfl) ?_
   intro w367 hH368
   simp only [z0, z1] at hH368
   refine AD ?_
   refine CW.seq ?_
   refine SR ?_
   refine V (fA underlying25 1 rfl sizeOf23 rfl) ?_
   refine V (run_ldV ((hs.mono hK).vars.sl.hp hH368) underlying23 rfl rfl (hH368.cell (i := 4) rfl rfl)) ?_
   refine V (run_lenSl ((hs.mono hK).vars.sl.hp hH368) rfl underlying23 rfl) ?_
   refine V (mV (I 0) rfl) ?_
   refine RL.nil ?_
   refine CW.block ?_
   refine CW.loop (G := (Int)) (fun (k : Int) s' w' => (Fr [4, 5, 18, 19, 20, 21, 22, 23, 24, 25, 26, 27, 28, 29, 30, 31, 32, 33, 34, 35, 36, 37] _ s') ∧ (Hp w w' (.row (.slice (some ⟨b361, 0, none⟩) (s.vars.length) (s.vars.length)) 51 8 s.vars.length ((lsK s k).flatMap elL) :: _)) ∧ (s' 18 = I k) ∧ (0 ≤ k) ∧ (k ≤ s.vars.length)) (fun (k : Int) => (s.vars.length - k).toNat) (0) ⟨Fr.refl _ _, hH368, rfl, (by omega), (by omega)⟩ ?_
   rintro k sg369 w369 ⟨fr369, hH369, e18_369, h0, hk⟩
   have e1_369 : sg369 1 = Pn _ _ := (fr369 1 rfl).trans rfl
   have e2_369 : sg369 2 = Pn _ _ := (fr369 2 rfl).trans rfl
   have e3_369 : sg369 3 = Pn _ _ := (fr369 3 rfl).trans rfl
   have e16_369 := (fr369 16 rfl).trans (by conv => lhs; whnf)
   have e17_369 : sg369 17 = I _ := (fr369 17 rfl).trans rfl
   refine SR ?_
   refine V (run_lss e18_369 e17_369) ?_
   refine RL.nil ?_
   refine CW.seq ?_
   refine CW.condP rfl (fun h371 => ?_) (fun h371 => ?_)
   ·refine CW.skip ?_
    refine CW.seq ?_
    refine CW.block ?_
    refine SR ?_
    refine V (run_move e18_369) ?_
    refine V (run_indexAddrS ((hs.mono hK).vars.sl.hp hH369) underlying23 sizeOf47 e16_369 e18_369 (by omega)) ?_
    refine V (run_ldE (dv := var0) varL_len ((hs.mono hK).vars.sl.hp hH369) underlying47 rfl rfl rfl (by omega)) ?_
    refine RL.new rfl hH369 (f := fun b => (.pointer (some ⟨b, 0, none⟩))) (run_alloc Tryz.zeroValue47) ?_
    intro b374 w372 hH373
    refine V (aV (I _) rfl) ?_
    refine RL.set hH373 (i := 0) rfl (run_stW (c' := (varL _).toArray) rfl rfl rfl (by simp [varL, Value.oneCell']) (hH373.blk (i := 0) rfl) rfl) ?_
    intro w375 hH376
    simp only [z0, z1] at hH376
    refine RL.nil ?_
    refine SR ?_
    refine V (fA underlying47 1 rfl sizeOf3 rfl) ?_
    refine V (run_ld underlying3 rfl rfl (hH376.cell (i := 0) rfl (v := I _) rfl)) ?_
    refine V (run_eql rfl rfl) ?_
    refine RL.nil ?_
    refine CW.condP rfl (fun h378 => ?_) (fun h378 => ?_)
    ·refine CW.regionS (by kernel_rfl) hH376 (sP (sQ sR)) ?_
     intro w379 hH380
     refine AT 0 rfl (hH380.sub (sP (sQ sR))) (fun w hS => fA underlying29 0 rfl sizeOf26 e3_369) ?_
     refine AT 1 rfl (hH380.sub (sP (sQ sR))) (fun w hS => run_ld underlying26 rfl rfl (hS.cell (i := 2) rfl rfl)) ?_
     refine AT 2 rfl (hH380.sub (sP (sQ sR))) (fun w hS => mV (I _) rfl) ?_
     refine AT 3 rfl (hH380.sub (sP (sQ sR))) (fun w hS => fA underlying25 0 rfl sizeOf22 e1_369) ?_
     refine AT 4 rfl (hH380.sub (sP (sQ sR))) (fun w hS => run_ldV ((hs.mono hK).lats.sl.hp hS) underlying22 rfl rfl (hS.cell (i := 4) rfl rfl)) ?_
     refine AT 5 rfl (hH380.sub (sP (sQ sR))) (fun w hS => fA underlying47 2 rfl sizeOf3 rfl) ?_
     refine AT 6 rfl (hH380.sub (sP (sQ sR))) (fun w hS => run_ld underlying3 rfl rfl (hS.cell (i := 0) rfl (v := I _) rfl)) ?_
     refine A1 7 ?_
     refine AO.callP rfl gnone rfl hH380 (sP (sQ sR)) (c_assign_at_api_Lat s _ _ (hs.mono (hK.trans hH380.kw))) (run_call2 call31 rfl rfl) ?_
     intro w381 hH382
     refine AT 8 rfl (hH382.sub (sP (sQ sR))) (fun w hS => run_fieldA underlying44 rfl isAgg42 sizeOf42 rfl (latL_shp _)) ?_
     refine A1 9 ?_
     refine AO.callP rfl gnone rfl hH382 (sP (sQ sR)) (c_shape_Bottom _  _ ((lat_at_v (hs.mono hK) _).mono hH382.kw) (hT.hp hH382)) (run_call1 call30 rfl) ?_
     intro w383 hH384
     refine A1 10 ?_
     refine AO.read rfl gnone rfl hH384 (sP (sQ sR)) (run_indexAddrS (hH384.sl (i := 1) rfl) underlying26 sizeOf51 rfl rfl (by omega)) ?_
     refine A1 11 ?_
     refine AO.rowst rfl gnone hH384 (i := 1) rfl (fun _ => (sP (sQ sR))) (by omega) rfl (new := elL _) ((rfl : _ = Value.agg (elC _)).trans (by rw [elC_def])) (elL_one _) (by rw [elL_len]; rfl) (by rw [elL_len]; omega) ?_
     intro w389 hH390
     simp only [z0, z1] at hH390
     refine AD ?_
     refine CW.region ?_
     refine V (run_add e18_369 rfl (by omega)) ?_
     refine V (mV (I _) rfl) ?_
     refine RL.nil ?_
     refine ⟨k + 1, ?_, fr369.u4.u4.u4.u4.u4.u1.u1, (Hp.conv (hH390.sub (sQ sR)) (by first | (rw [lsK_put h0 ‹k < _› ‹(s.vars.getD k.toNat var0).kind = 1›]; done) | (rw [lsK_n h0 ‹k < _› ‹¬ (s.vars.getD k.toNat var0).kind = 1›]; done))), (congrArg I (by first | rfl | omega)), ?_, ?_⟩
     ·((try dsimp only); omega)
     ·omega
     ·omega
    ·refine CW.skip ?_
     refine CW.region ?_
     refine V (run_add e18_369 rfl (by omega)) ?_
     refine V (mV (I _) rfl) ?_
     refine RL.nil ?_
     refine ⟨k + 1, ?_, fr369.u4.u4.u1.u1.u1, (Hp.conv (hH376.sub (sQ sR)) (by first | (rw [lsK_put h0 ‹k < _› ‹(s.vars.getD k.toNat var0).kind = 1›]; done) | (rw [lsK_n h0 ‹k < _› ‹¬ (s.vars.getD k.toNat var0).kind = 1›]; done))), (congrArg I (by first | rfl | omega)), ?_, ?_⟩
     ·((try dsimp only); omega)
     ·omega
     ·omega
   ·refine CW.exit (id := 0) rfl ?_
    refine SR ?_
    obtain ⟨Z391, hz392, hv393, -⟩ := hH369.frz (K)
    have hH394 : Hp _ w369 (_ :: _ :: _ :: _ :: Z391) := hz392.zin0 (L := [_, _, _, _])
    obtain ⟨Z395, hz396, hv397, -⟩ := hH394.frz (K)
    have hH398 : Hp _ w369 (_ :: _ :: _ :: (Z395 ++ Z391)) := hz396.zin (L := [_, _, _]) (L' := Z391)
    have hN399 : AsgV (Kz K (Z395 ++ Z391)) (⟨(.slice (some ⟨b361, 0, none⟩) (s.vars.length) (s.vars.length)), s.vars.map (botV s.sc), (.slice (some ⟨b355, 0, none⟩) (s.vars.length) (s.vars.length)), List.replicate s.vars.length vr0⟩ : Asg) := ⟨lsv h0 ‹¬ k < _› (hv393.mono (Le.zz (fun x hx => (List.mem_append_right _ hx)))), rsv (hv397.mono (Le.zz (fun x hx => (List.mem_append_left _ hx)))), RowsV.nils _ _⟩
    refine V (run_ldA (cs := asgL (⟨(.slice (some ⟨b361, 0, none⟩) (s.vars.length) (s.vars.length)), s.vars.map (botV s.sc), (.slice (some ⟨b355, 0, none⟩) (s.vars.length) (s.vars.length)), List.replicate s.vars.length vr0⟩ : Asg)) underlying29 rfl rfl e3_369 (rangeAt_cells (hH398.blk (i := 0) rfl))) ?_
    refine RL.set hH398 (i := 1) rfl (run_stW (c' := (asgL (⟨(.slice (some ⟨b361, 0, none⟩) (s.vars.length) (s.vars.length)), s.vars.map (botV s.sc), (.slice (some ⟨b355, 0, none⟩) (s.vars.length) (s.vars.length)), List.replicate s.vars.length vr0⟩ : Asg)).toArray) rfl e2_369 rfl (asgL_one hN399) (hH398.blk (i := 1) rfl) rfl) ?_
    intro w400 hH401
    simp only [z0, z1] at hH401
    refine RL.nil ?_
    refine CW.ret ?_
    refine outCg Tryz.results12 e2_369 hH401 (i := 1) rfl underlying29 rfl rfl ⟨(Z395 ++ Z391), (hH401.sub (sQ (sQ (sQ sR)))), (⟨(.slice (some ⟨b361, 0, none⟩) (s.vars.length) (s.vars.length)), s.vars.map (botV s.sc), (.slice (some ⟨b355, 0, none⟩) (s.vars.length) (s.vars.length)), List.replicate s.vars.length vr0⟩ : Asg), rfl, ?_, hN399⟩
    exact least2_is

theorem c_assign_With (K : Vu) (v : Value) (l : List ValR) (f : Tx) (e : El) (hl : l.length ≤ 1000) (w : World) (hK : Le K (Kw w)) (hs : Sl w v 9 l.length (l.flatMap valL)) : Calls Tryz.prog 23 #[v, S f, .agg (elC e)] w (PureF K (fun K' u => SlV K' u 9 (withF l f e).length ((withF l f e).flatMap valL)) w) := by
 have hm := hs.small
 unfold maxLen at hm
 have hvi := @vfind_in l f
 refine enter Tryz.func23 rfl Tryz.ntmps23 rfl ?_
 have hH := Hp.start w
 refine SR ?_
 refine RL.new rfl hH (f := fun b => (.pointer (some ⟨b, 0, none⟩))) (run_box (v := .agg _) rfl) ?_
 intro b3 w1 hH2
 refine V (aV (.slice none 0 0) rfl) ?_
 refine RL.nil ?_
 refine SR ?_
 refine V (mV (.string _) rfl) ?_
 refine V (run_ldEl underlying51 rfl rfl rfl (hH2.blk (i := 0) rfl)) ?_
 refine V (run_bld (vs := [(0, S _), (1, .agg (elC _))]) rfl (built_val _ _)) ?_
 refine RL.new rfl hH2 (f := fun b => (.pointer (some ⟨b, 0, none⟩))) (run_alloc zero_val) ?_
 intro b6 w4 hH5
 refine RL.set hH5 (i := 0) rfl (run_stW (c' := (valL _).toArray) rfl rfl rfl (valL_one _) (hH5.blk (i := 0) rfl) rfl) ?_
 intro w7 hH8
 simp only [z0, z1] at hH8
 refine RL.nil ?_
 refine CW.seq ?_
 refine SR ?_
 refine V (run_move (by conv => lhs; whnf)) ?_
 refine V (mV (.string _) rfl) ?_
 refine RL.callP rfl hH8 (c_assign_place _ _ _  _ (hs.hp hH8)) (run_call2 call51 rfl rfl) ?_
 intro w9 hH10
 refine V (aV (I _) rfl) ?_
 refine RL.nil ?_
 refine SR ?_
 refine V (mV (I _) rfl) ?_
 refine V (run_geq rfl rfl) ?_
 refine RL.nil ?_
 refine CW.condP rfl (fun h12 => ?_) (fun h12 => ?_)
 ·refine SR ?_
  refine RL.new rfl hH10 (f := fun b => (.slice (some ⟨b, 0, none⟩) 0 0)) (run_mkE underlying48 sizeOf53) ?_
  intro b15 w13 hH14
  (try simp only [List.flatMap_cons, List.flatMap_nil, clI, clB, clS, clP, clL, clA, List.append_nil, List.cons_append, List.nil_append] at hH14)
  have hH16 := hH14.blkRow 0 9 rfl (by decide)
  refine V (run_move (by conv => lhs; whnf)) ?_
  refine RL.app rfl hH16 (i := 0) rfl (hs.hp hH16) rfl rfl underlying48 rfl rfl (size := 9) (bytes := 80) rfl rfl rfl (by decide) (vals_one _) (by omega) (by simp only [maxLen]; omega) ?_
  intro v17 w18 hH19
  simp only [z0, z1] at hH19
  refine V (run_assign (by conv => lhs; whnf)) ?_
  refine RL.nil ?_
  refine SR ?_
  refine V (run_move (by conv => lhs; whnf)) ?_
  refine V (mV (I _) rfl) ?_
  refine V (run_ldA (cs := valL _) underlying53 rfl rfl rfl (rangeAt_cells (hH19.blk (i := 1) rfl))) ?_
  refine V (run_indexAddrS (hH19.sl (i := 0) rfl) underlying48 sizeOf53 rfl rfl (by first | omega | (have := hvi (by omega); omega))) ?_
  refine RL.rowst hH19 (i := 0) rfl (by first | omega | (have := hvi (by omega); omega)) rfl (new := valL ⟨f, e⟩) rfl (fun u hu => valL_one _ u (by simpa using hu)) (by rw [valL_len]; rfl) (by rw [valL_len]; first | omega | (have := hvi (by omega); omega)) ?_
  intro w20 hH21
  simp only [z0, z1] at hH21
  refine RL.nil ?_
  refine SR ?_
  refine V (run_move (by conv => lhs; whnf)) ?_
  refine V (run_assign (by conv => lhs; whnf)) ?_
  refine RL.nil ?_
  refine CW.ret ?_
  obtain ⟨Z22, hz23, hv24, -⟩ := hH21.frz (K)
  have hH25 : Hp _ w20 (_ :: _ :: Z22) := hz23.zin0 (L := [_, _])
  refine out1 Tryz.results23 (v := v17) rfl ⟨Z22, (hH25.sub (sQ (sQ sR))), ?_⟩
  exact with_made1 (by omega) hv24
 ·refine CW.skip ?_
  refine SR ?_
  refine V (aV (I 0) rfl) ?_
  refine RL.nil ?_
  refine CW.seq ?_
  refine CW.block ?_
  refine CW.loop (G := (Int)) (fun (k : Int) s' w' => (Fr [10, 28, 29, 30, 31, 32, 33, 34, 35, 36, 37, 38, 39, 40, 41, 42, 43] _ s') ∧ (Hp w w' _) ∧ (s' 10 = I k) ∧ (0 ≤ k) ∧ (k ≤ l.length) ∧ (∀ j : Int, 0 ≤ j → j < k → lessT f (l.getD j.toNat val0).name = false)) (fun (k : Int) => (l.length - k).toNat) (0) ⟨Fr.refl _ _, hH10, rfl, (by omega), (by omega), fun j a b => absurd b (by omega)⟩ ?_
  rintro k sg26 w26 ⟨fr26, hH26, e10_26, h0, hk, hg⟩
  have e0_26 := (fr26 0 rfl).trans (by conv => lhs; whnf)
  have e1_26 : sg26 1 = .string _ := (fr26 1 rfl).trans rfl
  have e6_26 := (fr26 6 rfl).trans (by conv => lhs; whnf)
  have e7_26 : sg26 7 = Pn _ _ := (fr26 7 rfl).trans rfl
  refine CW.seq ?_
  refine SR ?_
  refine V (run_move e10_26) ?_
  refine V (run_move e0_26) ?_
  refine V (run_lenSl (hs.hp hH26) rfl underlying48 rfl) ?_
  refine V (run_lss rfl rfl) ?_
  refine V (mV (B _) rfl) ?_
  refine RL.splitP (dj := 32) rfl (fun h28 => ?_) (fun h28 => ?_)
  ·refine RL.gT rfl (bT h28) ?_
   refine V (run_move e1_26) ?_
   refine RL.gT rfl (bT h28) ?_
   refine V (run_move e0_26) ?_
   refine RL.gT rfl (bT h28) ?_
   refine V (run_move e10_26) ?_
   refine RL.gT rfl (bT h28) ?_
   refine V (run_indexAddrS (hs.hp hH26) underlying48 sizeOf53 rfl rfl (by first | omega | (have := hvi (by omega); omega))) ?_
   refine RL.gT rfl (bT h28) ?_
   refine V (fA underlying53 0 rfl sizeOf9 rfl) ?_
   refine RL.gT rfl (bT h28) ?_
   refine V (run_ldE1 (dv := val0) (off := 0) valL_len (hs.hp hH26) underlying9 rfl rfl (by first | omega | (have := hvi (by omega); omega)) rfl) ?_
   refine RL.gT rfl (bT h28) ?_
   refine RL.callP rfl hH26 (c_name_Less _ _  _) (run_call2 call52 rfl rfl) ?_
   intro w29 hH30
   refine RL.gT rfl (bT h28) ?_
   refine V (run_not rfl) ?_
   refine V (run_pickT (bT h28) (v := B _) rfl) ?_
   refine RL.nil ?_
   refine CW.cond rfl (fun h33 => ?_) (fun h33 => ?_)
   ·refine CW.skip ?_
    refine CW.block ?_
    refine CW.region ?_
    refine V (run_move e10_26) ?_
    refine V (run_add rfl rfl (by omega)) ?_
    refine V (aV (I _) rfl) ?_
    refine RL.nil ?_
    refine ⟨k + 1, ?_, fr26.u4.u4.u4.u4.u1, hH30, (congrArg I (by first | rfl | omega)), ?_, ?_, ?_⟩
    ·((try dsimp only); omega)
    ·omega
    ·omega
    ·exact fun j a b => if e : j = k then e ▸ (by first | exact nt ‹(!lessT _ _) = true› | assumption) else hg j a (by omega)
   ·refine CW.exit (id := 0) rfl ?_
    refine SR ?_
    refine V (run_move e0_26) ?_
    refine V (run_lenSl (hs.hp hH30) rfl underlying48 rfl) ?_
    refine V (run_add rfl rfl (by omega)) ?_
    refine RL.new rfl hH30 (f := fun b => .slice (some ⟨b, 0, none⟩) (l.length + 1) (l.length + 1)) (run_mkRow (cl := valL) (sz := 9) (z0 := val0) (n := l.length + 1) (valL_len) (by decide) underlying48 rfl rfl (by kernel_rfl) rfl rfl rfl (by show 80 * _ ≤ _; omega) (by simp only [maxLen]; omega)) ?_
    intro b36 w34 hH35
    have hH37 := hH35.blkRow (l.length + 1) 9 (by rw [flat_length (cl := valL) (valL_len), List.length_replicate]) (by simp only [maxLen]; omega)
    refine V (run_assign (by conv => lhs; whnf)) ?_
    refine RL.nil ?_
    refine SR ?_
    refine V (run_move (by conv => lhs; whnf)) ?_
    refine V (run_move e0_26) ?_
    refine V (run_move e10_26) ?_
    refine V (run_cut (hs.hp hH37) underlying48 sizeOf53 rfl rfl (by omega)) ?_
    refine RL.rowcopy rfl (row_copy0 (c := k.toNat) hH37 (i := 0) rfl (by omega) underlying48 rfl rfl rfl ((hs.hp hH37).cut _ (by omega)) (by show min _ _ = _; omega) (fun u hu => vals_one l u (List.mem_of_mem_take hu))) ?_
    intro w38 hH39
    simp only [z0, z1] at hH39
    refine RL.nil ?_
    refine SR ?_
    refine V (run_move (by conv => lhs; whnf)) ?_
    refine V (run_move e10_26) ?_
    refine V (run_ldA (cs := valL _) underlying53 rfl rfl e7_26 (rangeAt_cells (hH39.blk (i := 1) rfl))) ?_
    refine V (run_indexAddrS (hH39.sl (i := 0) rfl) underlying48 sizeOf53 rfl rfl (by first | omega | (have := hvi (by omega); omega))) ?_
    refine RL.rowst hH39 (i := 0) rfl (by first | omega | (have := hvi (by omega); omega)) rfl (new := valL ⟨f, e⟩) rfl (fun u hu => valL_one _ u (by simpa using hu)) (by rw [valL_len]; rfl) (by rw [valL_len]; first | omega | (have := hvi (by omega); omega)) ?_
    intro w40 hH41
    simp only [z0, z1] at hH41
    refine RL.nil ?_
    refine CW.seq ?_
    refine CW.regionS (by kernel_rfl) hH41 (sQ sR) ?_
    intro w42 hH43
    refine AT 0 rfl (hH43.sub (sQ sR)) (fun w hS => run_move (by conv => lhs; whnf)) ?_
    refine AT 1 rfl (hH43.sub (sQ sR)) (fun w hS => run_move e10_26) ?_
    refine AT 2 rfl (hH43.sub (sQ sR)) (fun w hS => run_add rfl rfl (by omega)) ?_
    refine AT 4 rfl (hH43.sub (sQ sR)) (fun w hS => run_move e0_26) ?_
    refine AT 5 rfl (hH43.sub (sQ sR)) (fun w hS => run_move e10_26) ?_
    refine AN.two 3 6 (by kernel_rfl) ?_ ?_
    ·refine AO.read rfl gnone rfl hH43 (sQ sR) (run_from (hH43.sl (i := 0) rfl) underlying48 sizeOf53 rfl rfl (by omega)) ?_
     refine A1 6 ?_
     refine AO.read rfl gnone rfl hH43 (sQ sR) (run_from (hs.hp hH43) underlying48 sizeOf53 rfl rfl (by omega)) ?_
     refine A1 7 ?_
     refine AO.rowcopy rfl gnone rfl (row_copyF (c := l.length - k.toNat) (o := (k + 1).toNat) hH43 (i := 0) rfl (by omega) underlying48 rfl rfl rfl (Sl.fr (hs.hp hH43) k.toNat (by omega)) (by show min _ _ = _; omega) (by omega) (fun u hu => vals_one l u (List.mem_of_mem_drop hu))) (fun w' h => h.sub (sQ sR)) ?_
     intro w50 hH51
     simp only [z0, z1] at hH51
     refine AD ?_
     refine SR ?_
     refine V (run_move (by conv => lhs; whnf)) ?_
     refine V (run_assign (by conv => lhs; whnf)) ?_
     refine RL.nil ?_
     refine CW.ret ?_
     obtain ⟨Z52, hz53, hv54, -⟩ := hH51.frz (K)
     have hH55 : Hp _ w50 (_ :: _ :: Z52) := hz53.zin0 (L := [_, _])
     refine out1 Tryz.results23 (v := (.slice (some ⟨b36, 0, none⟩) (l.length + 1) (l.length + 1))) rfl ⟨Z52, (hH55.sub (sQ (sQ sR))), ?_⟩
     first | exact with_made2 (by omega) (spot_y h0 ‹k < _› hg (nf ‹(!lessT _ _) = false›)) h0 hk hv54 | exact with_made2 (by omega) (spot_e (by omega) hg) h0 hk hv54
    ·refine AO.read rfl gnone rfl hH43 (sQ sR) (run_from (hs.hp hH43) underlying48 sizeOf53 rfl rfl (by omega)) ?_
     refine A1 3 ?_
     refine AO.read rfl gnone rfl hH43 (sQ sR) (run_from (hH43.sl (i := 0) rfl) underlying48 sizeOf53 rfl rfl (by omega)) ?_
     refine A1 7 ?_
     refine AO.rowcopy rfl gnone rfl (row_copyF (c := l.length - k.toNat) (o := (k + 1).toNat) hH43 (i := 0) rfl (by omega) underlying48 rfl rfl rfl (Sl.fr (hs.hp hH43) k.toNat (by omega)) (by show min _ _ = _; omega) (by omega) (fun u hu => vals_one l u (List.mem_of_mem_drop hu))) (fun w' h => h.sub (sQ sR)) ?_
     intro w62 hH63
     simp only [z0, z1] at hH63
     refine AD ?_
     refine SR ?_
     refine V (run_move (by conv => lhs; whnf)) ?_
     refine V (run_assign (by conv => lhs; whnf)) ?_
     refine RL.nil ?_
     refine CW.ret ?_
     obtain ⟨Z64, hz65, hv66, -⟩ := hH63.frz (K)
     have hH67 : Hp _ w62 (_ :: _ :: Z64) := hz65.zin0 (L := [_, _])
     refine out1 Tryz.results23 (v := (.slice (some ⟨b36, 0, none⟩) (l.length + 1) (l.length + 1))) rfl ⟨Z64, (hH67.sub (sQ (sQ sR))), ?_⟩
     first | exact with_made2 (by omega) (spot_y h0 ‹k < _› hg (nf ‹(!lessT _ _) = false›)) h0 hk hv66 | exact with_made2 (by omega) (spot_e (by omega) hg) h0 hk hv66
  ·refine RL.gF rfl rfl (bF h28) rfl ?_
   refine RL.gF rfl rfl (bF h28) rfl ?_
   refine RL.gF rfl rfl (bF h28) rfl ?_
   refine RL.gF rfl rfl (bF h28) rfl ?_
   refine RL.gF rfl rfl (bF h28) rfl ?_
   refine RL.gF rfl rfl (bF h28) rfl ?_
   refine RL.gF rfl rfl (bF h28) rfl ?_
   refine RL.gF rfl rfl (bF h28) rfl ?_
   refine V (run_pickF (bF h28) (v := B false) rfl) ?_
   refine RL.nil ?_
   refine CW.condF rfl ?_
   refine CW.exit (id := 0) rfl ?_
   refine SR ?_
   refine V (run_move e0_26) ?_
   refine V (run_lenSl (hs.hp hH26) rfl underlying48 rfl) ?_
   refine V (run_add rfl rfl (by omega)) ?_
   refine RL.new rfl hH26 (f := fun b => .slice (some ⟨b, 0, none⟩) (l.length + 1) (l.length + 1)) (run_mkRow (cl := valL) (sz := 9) (z0 := val0) (n := l.length + 1) (valL_len) (by decide) underlying48 rfl rfl (by kernel_rfl) rfl rfl rfl (by show 80 * _ ≤ _; omega) (by simp only [maxLen]; omega)) ?_
   intro b70 w68 hH69
   have hH71 := hH69.blkRow (l.length + 1) 9 (by rw [flat_length (cl := valL) (valL_len), List.length_replicate]) (by simp only [maxLen]; omega)
   refine V (run_assign (by conv => lhs; whnf)) ?_
   refine RL.nil ?_
   refine SR ?_
   refine V (run_move (by conv => lhs; whnf)) ?_
   refine V (run_move e0_26) ?_
   refine V (run_move e10_26) ?_
   refine V (run_cut (hs.hp hH71) underlying48 sizeOf53 rfl rfl (by omega)) ?_
   refine RL.rowcopy rfl (row_copy0 (c := k.toNat) hH71 (i := 0) rfl (by omega) underlying48 rfl rfl rfl ((hs.hp hH71).cut _ (by omega)) (by show min _ _ = _; omega) (fun u hu => vals_one l u (List.mem_of_mem_take hu))) ?_
   intro w72 hH73
   simp only [z0, z1] at hH73
   refine RL.nil ?_
   refine SR ?_
   refine V (run_move (by conv => lhs; whnf)) ?_
   refine V (run_move e10_26) ?_
   refine V (run_ldA (cs := valL _) underlying53 rfl rfl e7_26 (rangeAt_cells (hH73.blk (i := 1) rfl))) ?_
   refine V (run_indexAddrS (hH73.sl (i := 0) rfl) underlying48 sizeOf53 rfl rfl (by first | omega | (have := hvi (by omega); omega))) ?_
   refine RL.rowst hH73 (i := 0) rfl (by first | omega | (have := hvi (by omega); omega)) rfl (new := valL ⟨f, e⟩) rfl (fun u hu => valL_one _ u (by simpa using hu)) (by rw [valL_len]; rfl) (by rw [valL_len]; first | omega | (have := hvi (by omega); omega)) ?_
   intro w74 hH75
   simp only [z0, z1] at hH75
   refine RL.nil ?_
   refine CW.seq ?_
   refine CW.regionS (by kernel_rfl) hH75 (sQ sR) ?_
   intro w76 hH77
   refine AT 0 rfl (hH77.sub (sQ sR)) (fun w hS => run_move (by conv => lhs; whnf)) ?_
   refine AT 1 rfl (hH77.sub (sQ sR)) (fun w hS => run_move e10_26) ?_
   refine AT 2 rfl (hH77.sub (sQ sR)) (fun w hS => run_add rfl rfl (by omega)) ?_
   refine AT 4 rfl (hH77.sub (sQ sR)) (fun w hS => run_move e0_26) ?_
   refine AT 5 rfl (hH77.sub (sQ sR)) (fun w hS => run_move e10_26) ?_
   refine AN.two 3 6 (by kernel_rfl) ?_ ?_
   ·refine AO.read rfl gnone rfl hH77 (sQ sR) (run_from (hH77.sl (i := 0) rfl) underlying48 sizeOf53 rfl rfl (by omega)) ?_
    refine A1 6 ?_
    refine AO.read rfl gnone rfl hH77 (sQ sR) (run_from (hs.hp hH77) underlying48 sizeOf53 rfl rfl (by omega)) ?_
    refine A1 7 ?_
    refine AO.rowcopy rfl gnone rfl (row_copyF (c := l.length - k.toNat) (o := (k + 1).toNat) hH77 (i := 0) rfl (by omega) underlying48 rfl rfl rfl (Sl.fr (hs.hp hH77) k.toNat (by omega)) (by show min _ _ = _; omega) (by omega) (fun u hu => vals_one l u (List.mem_of_mem_drop hu))) (fun w' h => h.sub (sQ sR)) ?_
    intro w84 hH85
    simp only [z0, z1] at hH85
    refine AD ?_
    refine SR ?_
    refine V (run_move (by conv => lhs; whnf)) ?_
    refine V (run_assign (by conv => lhs; whnf)) ?_
    refine RL.nil ?_
    refine CW.ret ?_
    obtain ⟨Z86, hz87, hv88, -⟩ := hH85.frz (K)
    have hH89 : Hp _ w84 (_ :: _ :: Z86) := hz87.zin0 (L := [_, _])
    refine out1 Tryz.results23 (v := (.slice (some ⟨b70, 0, none⟩) (l.length + 1) (l.length + 1))) rfl ⟨Z86, (hH89.sub (sQ (sQ sR))), ?_⟩
    first | exact with_made2 (by omega) (spot_y h0 ‹k < _› hg (nf ‹(!lessT _ _) = false›)) h0 hk hv88 | exact with_made2 (by omega) (spot_e (by omega) hg) h0 hk hv88
   ·refine AO.read rfl gnone rfl hH77 (sQ sR) (run_from (hs.hp hH77) underlying48 sizeOf53 rfl rfl (by omega)) ?_
    refine A1 3 ?_
    refine AO.read rfl gnone rfl hH77 (sQ sR) (run_from (hH77.sl (i := 0) rfl) underlying48 sizeOf53 rfl rfl (by omega)) ?_
    refine A1 7 ?_
    refine AO.rowcopy rfl gnone rfl (row_copyF (c := l.length - k.toNat) (o := (k + 1).toNat) hH77 (i := 0) rfl (by omega) underlying48 rfl rfl rfl (Sl.fr (hs.hp hH77) k.toNat (by omega)) (by show min _ _ = _; omega) (by omega) (fun u hu => vals_one l u (List.mem_of_mem_drop hu))) (fun w' h => h.sub (sQ sR)) ?_
    intro w96 hH97
    simp only [z0, z1] at hH97
    refine AD ?_
    refine SR ?_
    refine V (run_move (by conv => lhs; whnf)) ?_
    refine V (run_assign (by conv => lhs; whnf)) ?_
    refine RL.nil ?_
    refine CW.ret ?_
    obtain ⟨Z98, hz99, hv100, -⟩ := hH97.frz (K)
    have hH101 : Hp _ w96 (_ :: _ :: Z98) := hz99.zin0 (L := [_, _])
    refine out1 Tryz.results23 (v := (.slice (some ⟨b70, 0, none⟩) (l.length + 1) (l.length + 1))) rfl ⟨Z98, (hH101.sub (sQ (sQ sR))), ?_⟩
    first | exact with_made2 (by omega) (spot_y h0 ‹k < _› hg (nf ‹(!lessT _ _) = false›)) h0 hk hv100 | exact with_made2 (by omega) (spot_e (by omega) hg) h0 hk hv100

set_option maxHeartbeats 4000000 in
theorem c_clearancelaw18_alive  (w : World) (hT : Tab w) : Calls Tryz.prog 8 #[] w (Pure (B true) w) := by
 refine enter Tryz.func8 rfl Tryz.ntmps8 rfl ?_
 have hH := Hp.start w
 refine SR ?_
 refine V (aV (B false) rfl) ?_
 refine RL.nil ?_
 refine SR ?_
 refine RL.new rfl hH (f := fun b => (.slice (some ⟨b, 0, none⟩) 2 2)) (run_mkL underlying54 rfl rfl (sz := 1) (vs := [.string ⟨#[108, 111]⟩, .string ⟨#[104, 105]⟩]) rfl rfl (by decide) (by decide) rfl rfl) ?_
 intro b3 w1 hH2
 (try simp only [List.flatMap_cons, List.flatMap_nil, clI, clB, clS, clP, clL, clA, List.append_nil, List.cons_append, List.nil_append] at hH2)
 have hH4 : Hp _ w1 ([Ent.blk b3 (.cells (txL exLH).toArray 9 (0, 0))]) := Hp.zin0 (Z := [Ent.blk b3 (.cells (txL exLH).toArray 9 (0, 0))]) (L := []) hH2
 have hv5 : SlV (Kz (Kw w) [Ent.blk b3 (.cells (txL exLH).toArray 9 (0, 0))]) (.slice (some ⟨b3, 0, none⟩) 2 2) 1 2 (txL exLH) := slv_blk (List.mem_cons_self ..) rfl (by simp [maxLen])
 refine V (run_bld (vs := [(0, I 1), (1, .slice (some ⟨b3, 0, none⟩) 2 2)]) rfl (built_fac 1 b3 2 exLH)) ?_
 refine RL.new rfl hH4 (f := fun b => (.slice (some ⟨b, 0, none⟩) 1 1)) (run_mkFacs underlying40 rfl rfl rfl (l := [_]) rfl (by decide) (by decide) rfl) ?_
 intro b8 w6 hH7
 have hH9 : Hp _ w6 (([Ent.blk b8 (.cells ([(⟨1, .slice (some ⟨b3, 0, none⟩) 2 2, exLH, Rl.none⟩ : Fac)].flatMap facL).toArray 59 (0, 0))] ++ [Ent.blk b3 (.cells (txL exLH).toArray 9 (0, 0))])) := Hp.zin (Z := [Ent.blk b8 (.cells ([(⟨1, .slice (some ⟨b3, 0, none⟩) 2 2, exLH, Rl.none⟩ : Fac)].flatMap facL).toArray 59 (0, 0))]) (L := []) (L' := [Ent.blk b3 (.cells (txL exLH).toArray 9 (0, 0))]) hH7
 have hv10 : SlV (Kz (Kw w) [Ent.blk b8 (.cells ([(⟨1, .slice (some ⟨b3, 0, none⟩) 2 2, exLH, Rl.none⟩ : Fac)].flatMap facL).toArray 59 (0, 0))]) (.slice (some ⟨b8, 0, none⟩) 1 1) 67 1 ([(⟨1, .slice (some ⟨b3, 0, none⟩) 2 2, exLH, Rl.none⟩ : Fac)].flatMap facL) := slv_blk (List.mem_cons_self ..) (flat_length facL_len _) (by simp [maxLen])
 refine V (run_bld (vs := [(1, .slice (some ⟨b8, 0, none⟩) 1 1)]) rfl (built_shp1 rfl)) ?_
 refine V (run_bld (vs := [(0, S ⟨#[107]⟩), (1, .agg (shpC (⟨false, .slice (some ⟨b8, 0, none⟩) 1 1, [(⟨1, .slice (some ⟨b3, 0, none⟩) 2 2, exLH, Rl.none⟩ : Fac)]⟩ : Shp)))]) rfl (built_lat _ _)) ?_
 refine RL.new rfl hH9 (f := fun b => (.slice (some ⟨b, 0, none⟩) 1 1)) (run_mkRecs latL_len underlying22 rfl rfl rfl (l := [_]) rfl (by decide) (by decide) rfl) ?_
 intro b13 w11 hH12
 have hH14 : Hp _ w11 (([Ent.blk b13 (.cells ([(⟨⟨#[107]⟩, (⟨false, .slice (some ⟨b8, 0, none⟩) 1 1, [(⟨1, .slice (some ⟨b3, 0, none⟩) 2 2, exLH, Rl.none⟩ : Fac)]⟩ : Shp)⟩ : LatR)].flatMap latL).toArray 44 (0, 0))] ++ ([Ent.blk b8 (.cells ([(⟨1, .slice (some ⟨b3, 0, none⟩) 2 2, exLH, Rl.none⟩ : Fac)].flatMap facL).toArray 59 (0, 0))] ++ [Ent.blk b3 (.cells (txL exLH).toArray 9 (0, 0))]))) := Hp.zin (Z := [Ent.blk b13 (.cells ([(⟨⟨#[107]⟩, (⟨false, .slice (some ⟨b8, 0, none⟩) 1 1, [(⟨1, .slice (some ⟨b3, 0, none⟩) 2 2, exLH, Rl.none⟩ : Fac)]⟩ : Shp)⟩ : LatR)].flatMap latL).toArray 44 (0, 0))]) (L := []) (L' := ([Ent.blk b8 (.cells ([(⟨1, .slice (some ⟨b3, 0, none⟩) 2 2, exLH, Rl.none⟩ : Fac)].flatMap facL).toArray 59 (0, 0))] ++ [Ent.blk b3 (.cells (txL exLH).toArray 9 (0, 0))])) hH12
 have hv15 : SlV (Kz (Kw w) [Ent.blk b13 (.cells ([(⟨⟨#[107]⟩, (⟨false, .slice (some ⟨b8, 0, none⟩) 1 1, [(⟨1, .slice (some ⟨b3, 0, none⟩) 2 2, exLH, Rl.none⟩ : Fac)]⟩ : Shp)⟩ : LatR)].flatMap latL).toArray 44 (0, 0))]) (.slice (some ⟨b13, 0, none⟩) 1 1) 3 1 ([(⟨⟨#[107]⟩, (⟨false, .slice (some ⟨b8, 0, none⟩) 1 1, [(⟨1, .slice (some ⟨b3, 0, none⟩) 2 2, exLH, Rl.none⟩ : Fac)]⟩ : Shp)⟩ : LatR)].flatMap latL) := slv_blk (List.mem_cons_self ..) (flat_length latL_len _) (by simp [maxLen])
 refine V (run_bld (vs := [(0, .string ⟨#[120]⟩), (1, I 1)]) rfl (built_varL_0_1 _ _)) ?_
 refine V (run_bld (vs := [(0, .string ⟨#[114]⟩), (1, I 2)]) rfl (built_varL_0_1 _ _)) ?_
 refine RL.new rfl hH14 (f := fun b => (.slice (some ⟨b, 0, none⟩) 2 2)) (run_mkRecs varL_len underlying23 rfl rfl rfl (l := [_, _]) rfl (by decide) (by decide) rfl) ?_
 intro b18 w16 hH17
 have hH19 : Hp _ w16 (([Ent.blk b18 (.cells (([⟨⟨#[120]⟩, 1, 0⟩, ⟨⟨#[114]⟩, 2, 0⟩] : List VarR).flatMap varL).toArray 47 (0, 0))] ++ ([Ent.blk b13 (.cells ([(⟨⟨#[107]⟩, (⟨false, .slice (some ⟨b8, 0, none⟩) 1 1, [(⟨1, .slice (some ⟨b3, 0, none⟩) 2 2, exLH, Rl.none⟩ : Fac)]⟩ : Shp)⟩ : LatR)].flatMap latL).toArray 44 (0, 0))] ++ ([Ent.blk b8 (.cells ([(⟨1, .slice (some ⟨b3, 0, none⟩) 2 2, exLH, Rl.none⟩ : Fac)].flatMap facL).toArray 59 (0, 0))] ++ [Ent.blk b3 (.cells (txL exLH).toArray 9 (0, 0))])))) := Hp.zin (Z := [Ent.blk b18 (.cells (([⟨⟨#[120]⟩, 1, 0⟩, ⟨⟨#[114]⟩, 2, 0⟩] : List VarR).flatMap varL).toArray 47 (0, 0))]) (L := []) (L' := ([Ent.blk b13 (.cells ([(⟨⟨#[107]⟩, (⟨false, .slice (some ⟨b8, 0, none⟩) 1 1, [(⟨1, .slice (some ⟨b3, 0, none⟩) 2 2, exLH, Rl.none⟩ : Fac)]⟩ : Shp)⟩ : LatR)].flatMap latL).toArray 44 (0, 0))] ++ ([Ent.blk b8 (.cells ([(⟨1, .slice (some ⟨b3, 0, none⟩) 2 2, exLH, Rl.none⟩ : Fac)].flatMap facL).toArray 59 (0, 0))] ++ [Ent.blk b3 (.cells (txL exLH).toArray 9 (0, 0))]))) hH17
 have hv20 : SlV (Kz (Kw w) [Ent.blk b18 (.cells (([⟨⟨#[120]⟩, 1, 0⟩, ⟨⟨#[114]⟩, 2, 0⟩] : List VarR).flatMap varL).toArray 47 (0, 0))]) (.slice (some ⟨b18, 0, none⟩) 2 2) 3 2 (([⟨⟨#[120]⟩, 1, 0⟩, ⟨⟨#[114]⟩, 2, 0⟩] : List VarR).flatMap varL) := slv_blk (List.mem_cons_self ..) (flat_length varL_len _) (by simp [maxLen])
 refine V (run_bld (vs := [(0, .slice (some ⟨b13, 0, none⟩) 1 1), (1, .slice (some ⟨b18, 0, none⟩) 2 2)]) rfl (built_scpV rfl rfl)) ?_
 have hs21 : ScpV (Kz (Kw w) ([Ent.blk b18 (.cells (([⟨⟨#[120]⟩, 1, 0⟩, ⟨⟨#[114]⟩, 2, 0⟩] : List VarR).flatMap varL).toArray 47 (0, 0))] ++ ([Ent.blk b13 (.cells ([(⟨⟨#[107]⟩, (⟨false, .slice (some ⟨b8, 0, none⟩) 1 1, [(⟨1, .slice (some ⟨b3, 0, none⟩) 2 2, exLH, Rl.none⟩ : Fac)]⟩ : Shp)⟩ : LatR)].flatMap latL).toArray 44 (0, 0))] ++ ([Ent.blk b8 (.cells ([(⟨1, .slice (some ⟨b3, 0, none⟩) 2 2, exLH, Rl.none⟩ : Fac)].flatMap facL).toArray 59 (0, 0))] ++ [Ent.blk b3 (.cells (txL exLH).toArray 9 (0, 0))])))) (⟨.slice (some ⟨b13, 0, none⟩) 1 1, [(⟨⟨#[107]⟩, (⟨false, .slice (some ⟨b8, 0, none⟩) 1 1, [(⟨1, .slice (some ⟨b3, 0, none⟩) 2 2, exLH, Rl.none⟩ : Fac)]⟩ : Shp)⟩ : LatR)], .slice (some ⟨b18, 0, none⟩) 2 2, [⟨⟨#[120]⟩, 1, 0⟩, ⟨⟨#[114]⟩, 2, 0⟩]⟩ : Scp) := ⟨(hv15.mono (Le.zz (fun x hx => (List.mem_append_right _ (List.mem_append_left _ hx))))), (hv20.mono (Le.zz (fun x hx => (List.mem_append_left _ hx)))), fun x hx => by rw [List.mem_singleton.1 hx]; exact ⟨(hv10.mono (Le.zz (fun x hx => (List.mem_append_right _ (List.mem_append_right _ (List.mem_append_left _ hx)))))), fun y hy => by rw [List.mem_singleton.1 hy]; exact ⟨(hv5.mono (Le.zz (fun x hx => (List.mem_append_right _ (List.mem_append_right _ (List.mem_append_right _ hx))))))⟩⟩⟩
 refine RL.new rfl hH19 (f := fun b => (.pointer (some ⟨b, 0, none⟩))) (run_alloc Tryz.zeroValue25) ?_
 intro b24 w22 hH23
 refine RL.set hH23 (i := 0) rfl (run_stW (c' := (scpL (⟨.slice (some ⟨b13, 0, none⟩) 1 1, [(⟨⟨#[107]⟩, (⟨false, .slice (some ⟨b8, 0, none⟩) 1 1, [(⟨1, .slice (some ⟨b3, 0, none⟩) 2 2, exLH, Rl.none⟩ : Fac)]⟩ : Shp)⟩ : LatR)], .slice (some ⟨b18, 0, none⟩) 2 2, [⟨⟨#[120]⟩, 1, 0⟩, ⟨⟨#[114]⟩, 2, 0⟩]⟩ : Scp)).toArray) rfl rfl rfl (scpL_one hs21) (hH23.blk (i := 0) rfl) rfl) ?_
 intro w25 hH26
 simp only [z0, z1] at hH26
 refine RL.nil ?_
 refine SR ?_
 refine V (run_bld (vs := [(0, U 1#64)]) rfl (built_el1 _)) ?_
 refine V (run_bld (vs := []) rfl (built_el0)) ?_
 refine RL.new rfl hH26 (f := fun b => (.slice (some ⟨b, 0, none⟩) 2 2)) (run_mkEl2 underlying26 rfl rfl rfl rfl rfl) ?_
 intro b29 w27 hH28
 have hH30 : Hp _ w27 (_ :: ([Ent.blk b29 (.cells (([putE el0 0 1#64, el0] : List El).flatMap elL).toArray 51 (0, 0))] ++ ([Ent.blk b18 (.cells (([⟨⟨#[120]⟩, 1, 0⟩, ⟨⟨#[114]⟩, 2, 0⟩] : List VarR).flatMap varL).toArray 47 (0, 0))] ++ ([Ent.blk b13 (.cells ([(⟨⟨#[107]⟩, (⟨false, .slice (some ⟨b8, 0, none⟩) 1 1, [(⟨1, .slice (some ⟨b3, 0, none⟩) 2 2, exLH, Rl.none⟩ : Fac)]⟩ : Shp)⟩ : LatR)].flatMap latL).toArray 44 (0, 0))] ++ ([Ent.blk b8 (.cells ([(⟨1, .slice (some ⟨b3, 0, none⟩) 2 2, exLH, Rl.none⟩ : Fac)].flatMap facL).toArray 59 (0, 0))] ++ [Ent.blk b3 (.cells (txL exLH).toArray 9 (0, 0))]))))) := Hp.zin (Z := [Ent.blk b29 (.cells (([putE el0 0 1#64, el0] : List El).flatMap elL).toArray 51 (0, 0))]) (L := [_]) (L' := ([Ent.blk b18 (.cells (([⟨⟨#[120]⟩, 1, 0⟩, ⟨⟨#[114]⟩, 2, 0⟩] : List VarR).flatMap varL).toArray 47 (0, 0))] ++ ([Ent.blk b13 (.cells ([(⟨⟨#[107]⟩, (⟨false, .slice (some ⟨b8, 0, none⟩) 1 1, [(⟨1, .slice (some ⟨b3, 0, none⟩) 2 2, exLH, Rl.none⟩ : Fac)]⟩ : Shp)⟩ : LatR)].flatMap latL).toArray 44 (0, 0))] ++ ([Ent.blk b8 (.cells ([(⟨1, .slice (some ⟨b3, 0, none⟩) 2 2, exLH, Rl.none⟩ : Fac)].flatMap facL).toArray 59 (0, 0))] ++ [Ent.blk b3 (.cells (txL exLH).toArray 9 (0, 0))])))) hH28
 have hv31 : SlV (Kz (Kw w) [Ent.blk b29 (.cells (([putE el0 0 1#64, el0] : List El).flatMap elL).toArray 51 (0, 0))]) (.slice (some ⟨b29, 0, none⟩) 2 2) 8 2 (([putE el0 0 1#64, el0] : List El).flatMap elL) := slv_blk (List.mem_cons_self ..) (flat_length elL_len _) (by simp [maxLen])
 refine V (run_bld (vs := []) rfl (built_el0)) ?_
 refine RL.callF rfl hH30 (c_assign_With (Kw w) _ [] ⟨#[102]⟩ el0 (by decide) _ hH30.kw (Sl.nil _ _)) (run_call3 call23 (show _ = Value.slice none 0 0 from rfl) (show _ = Value.string ⟨#[102]⟩ from rfl) rfl) ?_
 intro v34 w35 Z37 hH36 hp38
 have hH39 : Hp _ w35 (_ :: (Z37 ++ ([Ent.blk b29 (.cells (([putE el0 0 1#64, el0] : List El).flatMap elL).toArray 51 (0, 0))] ++ ([Ent.blk b18 (.cells (([⟨⟨#[120]⟩, 1, 0⟩, ⟨⟨#[114]⟩, 2, 0⟩] : List VarR).flatMap varL).toArray 47 (0, 0))] ++ ([Ent.blk b13 (.cells ([(⟨⟨#[107]⟩, (⟨false, .slice (some ⟨b8, 0, none⟩) 1 1, [(⟨1, .slice (some ⟨b3, 0, none⟩) 2 2, exLH, Rl.none⟩ : Fac)]⟩ : Shp)⟩ : LatR)].flatMap latL).toArray 44 (0, 0))] ++ ([Ent.blk b8 (.cells ([(⟨1, .slice (some ⟨b3, 0, none⟩) 2 2, exLH, Rl.none⟩ : Fac)].flatMap facL).toArray 59 (0, 0))] ++ [Ent.blk b3 (.cells (txL exLH).toArray 9 (0, 0))])))))) := hH36.zin (L := [_]) (L' := ([Ent.blk b29 (.cells (([putE el0 0 1#64, el0] : List El).flatMap elL).toArray 51 (0, 0))] ++ ([Ent.blk b18 (.cells (([⟨⟨#[120]⟩, 1, 0⟩, ⟨⟨#[114]⟩, 2, 0⟩] : List VarR).flatMap varL).toArray 47 (0, 0))] ++ ([Ent.blk b13 (.cells ([(⟨⟨#[107]⟩, (⟨false, .slice (some ⟨b8, 0, none⟩) 1 1, [(⟨1, .slice (some ⟨b3, 0, none⟩) 2 2, exLH, Rl.none⟩ : Fac)]⟩ : Shp)⟩ : LatR)].flatMap latL).toArray 44 (0, 0))] ++ ([Ent.blk b8 (.cells ([(⟨1, .slice (some ⟨b3, 0, none⟩) 2 2, exLH, Rl.none⟩ : Fac)].flatMap facL).toArray 59 (0, 0))] ++ [Ent.blk b3 (.cells (txL exLH).toArray 9 (0, 0))])))))
 have hv40 := hp38
 refine RL.new rfl hH39 (f := fun b => (.slice (some ⟨b, 0, none⟩) 2 2)) (run_mkSl2 (v := .slice none 0 0) (u := v34) rfl (one_slv hv40).2 underlying27 rfl rfl rfl rfl rfl) ?_
 intro b43 w41 hH42
 have hH44 : Hp _ w41 (_ :: ([Ent.blk b43 (.cells (([.slice none 0 0, v34] : List Value)).toArray 48 (0, 0))] ++ (Z37 ++ ([Ent.blk b29 (.cells (([putE el0 0 1#64, el0] : List El).flatMap elL).toArray 51 (0, 0))] ++ ([Ent.blk b18 (.cells (([⟨⟨#[120]⟩, 1, 0⟩, ⟨⟨#[114]⟩, 2, 0⟩] : List VarR).flatMap varL).toArray 47 (0, 0))] ++ ([Ent.blk b13 (.cells ([(⟨⟨#[107]⟩, (⟨false, .slice (some ⟨b8, 0, none⟩) 1 1, [(⟨1, .slice (some ⟨b3, 0, none⟩) 2 2, exLH, Rl.none⟩ : Fac)]⟩ : Shp)⟩ : LatR)].flatMap latL).toArray 44 (0, 0))] ++ ([Ent.blk b8 (.cells ([(⟨1, .slice (some ⟨b3, 0, none⟩) 2 2, exLH, Rl.none⟩ : Fac)].flatMap facL).toArray 59 (0, 0))] ++ [Ent.blk b3 (.cells (txL exLH).toArray 9 (0, 0))]))))))) := Hp.zin (Z := [Ent.blk b43 (.cells (([.slice none 0 0, v34] : List Value)).toArray 48 (0, 0))]) (L := [_]) (L' := (Z37 ++ ([Ent.blk b29 (.cells (([putE el0 0 1#64, el0] : List El).flatMap elL).toArray 51 (0, 0))] ++ ([Ent.blk b18 (.cells (([⟨⟨#[120]⟩, 1, 0⟩, ⟨⟨#[114]⟩, 2, 0⟩] : List VarR).flatMap varL).toArray 47 (0, 0))] ++ ([Ent.blk b13 (.cells ([(⟨⟨#[107]⟩, (⟨false, .slice (some ⟨b8, 0, none⟩) 1 1, [(⟨1, .slice (some ⟨b3, 0, none⟩) 2 2, exLH, Rl.none⟩ : Fac)]⟩ : Shp)⟩ : LatR)].flatMap latL).toArray 44 (0, 0))] ++ ([Ent.blk b8 (.cells ([(⟨1, .slice (some ⟨b3, 0, none⟩) 2 2, exLH, Rl.none⟩ : Fac)].flatMap facL).toArray 59 (0, 0))] ++ [Ent.blk b3 (.cells (txL exLH).toArray 9 (0, 0))])))))) hH42
 have hv45 : SlV (Kz (Kw w) [Ent.blk b43 (.cells (([.slice none 0 0, v34] : List Value)).toArray 48 (0, 0))]) (.slice (some ⟨b43, 0, none⟩) 2 2) 1 2 (([.slice none 0 0, v34] : List Value)) := slv_blk (List.mem_cons_self ..) rfl (by simp [maxLen])
 refine V (run_bld (vs := [(0, .slice (some ⟨b29, 0, none⟩) 2 2), (1, .slice (some ⟨b43, 0, none⟩) 2 2)]) rfl (built_asgV rfl rfl)) ?_
 have ha46 : AsgV (Kz (Kw w) ([Ent.blk b43 (.cells (([.slice none 0 0, v34] : List Value)).toArray 48 (0, 0))] ++ (Z37 ++ ([Ent.blk b29 (.cells (([putE el0 0 1#64, el0] : List El).flatMap elL).toArray 51 (0, 0))] ++ ([Ent.blk b18 (.cells (([⟨⟨#[120]⟩, 1, 0⟩, ⟨⟨#[114]⟩, 2, 0⟩] : List VarR).flatMap varL).toArray 47 (0, 0))] ++ ([Ent.blk b13 (.cells ([(⟨⟨#[107]⟩, (⟨false, .slice (some ⟨b8, 0, none⟩) 1 1, [(⟨1, .slice (some ⟨b3, 0, none⟩) 2 2, exLH, Rl.none⟩ : Fac)]⟩ : Shp)⟩ : LatR)].flatMap latL).toArray 44 (0, 0))] ++ ([Ent.blk b8 (.cells ([(⟨1, .slice (some ⟨b3, 0, none⟩) 2 2, exLH, Rl.none⟩ : Fac)].flatMap facL).toArray 59 (0, 0))] ++ [Ent.blk b3 (.cells (txL exLH).toArray 9 (0, 0))]))))))) (⟨.slice (some ⟨b29, 0, none⟩) 2 2, [putE el0 0 1#64, el0], .slice (some ⟨b43, 0, none⟩) 2 2, [vr0, (⟨v34, withF [] ⟨#[102]⟩ el0⟩ : VrR)]⟩ : Asg) := ⟨(hv31.mono (Le.zz (fun x hx => (List.mem_append_right _ (List.mem_append_right _ (List.mem_append_left _ hx)))))), (hv45.mono (Le.zz (fun x hx => (List.mem_append_left _ hx)))), ((RowsV.nil _).snoc (r := vr0) (SlV.nil _ _)).snoc (r := (⟨v34, withF [] ⟨#[102]⟩ el0⟩ : VrR)) (hv40.mono (Le.zz (fun x hx => (List.mem_append_right _ (List.mem_append_left _ hx)))))⟩
 have hexS : ((⟨.slice (some ⟨b13, 0, none⟩) 1 1, [(⟨⟨#[107]⟩, (⟨false, .slice (some ⟨b8, 0, none⟩) 1 1, [(⟨1, .slice (some ⟨b3, 0, none⟩) 2 2, exLH, Rl.none⟩ : Fac)]⟩ : Shp)⟩ : LatR)], .slice (some ⟨b18, 0, none⟩) 2 2, [⟨⟨#[120]⟩, 1, 0⟩, ⟨⟨#[114]⟩, 2, 0⟩]⟩ : Scp)).sc = exS := rfl
 have hexA : ((⟨.slice (some ⟨b29, 0, none⟩) 2 2, [putE el0 0 1#64, el0], .slice (some ⟨b43, 0, none⟩) 2 2, [vr0, (⟨v34, withF [] ⟨#[102]⟩ el0⟩ : VrR)]⟩ : Asg)).as = exA := by
  show (⟨_, [_, withF [] ⟨#[102]⟩ el0]⟩ : As) = _
  rw [exA_W]; rfl
 refine RL.new rfl hH44 (f := fun b => (.pointer (some ⟨b, 0, none⟩))) (run_alloc zero_asg) ?_
 intro b49 w47 hH48
 refine RL.set hH48 (i := 0) rfl (run_stW (c' := (asgL (⟨.slice (some ⟨b29, 0, none⟩) 2 2, [putE el0 0 1#64, el0], .slice (some ⟨b43, 0, none⟩) 2 2, [vr0, (⟨v34, withF [] ⟨#[102]⟩ el0⟩ : VrR)]⟩ : Asg)).toArray) rfl rfl rfl (asgL_one ha46) (hH48.blk (i := 0) rfl) rfl) ?_
 intro w50 hH51
 simp only [z0, z1] at hH51
 refine RL.nil ?_
 refine CW.seq ?_
 refine CW.regionD (by kernel_rfl) hH51 ?_
 intro w52 hH53
 refine AT 0 rfl (hH53.sub sR) (fun w hS => run_ldA (cs := scpL _) underlying25 rfl rfl rfl (rangeAt_cells (hS.blk (i := 1) rfl))) ?_
 refine AT 1 rfl (hH53.sub sR) (fun w hS => run_ldA (cs := asgL _) underlying29 rfl rfl rfl (rangeAt_cells (hS.blk (i := 0) rfl))) ?_
 refine A1 2 ?_
 refine AO.callP rfl gnone rfl hH53 sR (c_assign_Text _ _ (by show 2 ≤ _; decide) (fun v hv => by rcases List.mem_cons.1 hv with rfl | hv; (exact (by decide)); (rw [List.mem_singleton.1 hv]; decide)) (fun r hr => by rcases List.mem_cons.1 hr with rfl | hr; (exact (by decide)); (rw [List.mem_singleton.1 hr, exA_W]; exact (by decide : 1 ≤ 200))) _ (hs21.mono (hH53.kz (Le.refl _) (fun x hx => (mT (mT (List.mem_append_right _ (List.mem_append_right _ (List.mem_append_right _ hx)))))))) (ha46.mono (hH53.kz (Le.refl _) (fun x hx => (mT (mT hx))))) (hT.hp hH53)) (run_call2 call14 rfl rfl) ?_
 intro w54 hH55
 refine AT 3 rfl (hH55.sub sR) (fun w hS => run_eqlS rfl rfl) ?_
 refine AT 4 rfl (hH55.sub sR) (fun w hS => mV (B _) rfl) ?_
 refine AG 5 rfl rfl (bT ((by rw [hexS, hexA]; exact exA_T))) (hH55.sub sR) (fun w hS => run_ldA (cs := scpL _) underlying25 rfl rfl rfl (rangeAt_cells (hS.blk (i := 1) rfl))) ?_
 refine AG 6 rfl rfl (bT ((by rw [hexS, hexA]; exact exA_T))) (hH55.sub sR) (fun w hS => run_ldA (cs := asgL _) underlying29 rfl rfl rfl (rangeAt_cells (hS.blk (i := 0) rfl))) ?_
 refine A1 7 ?_
 refine AO.callP rfl (gsome rfl (bT ((by rw [hexS, hexA]; exact exA_T)))) rfl hH55 sR (c_assign_Right _ _ _ (hs21.mono (hH55.kz (Le.refl _) (fun x hx => (mT (mT (List.mem_append_right _ (List.mem_append_right _ (List.mem_append_right _ hx)))))))) (ha46.mono (hH55.kz (Le.refl _) (fun x hx => (mT (mT hx))))) (hT.hp hH55)) (run_call2 call9 rfl rfl) ?_
 intro w57 hH58
 refine AT 8 rfl (hH58.sub sR) (fun w hS => run_pickT (bT ((by rw [hexS, hexA]; exact exA_T))) (v := B _) rfl) ?_
 refine AT 9 rfl (hH58.sub sR) (fun w hS => mV (B _) rfl) ?_
 refine AG 10 rfl rfl (bR (c := true) ((by rw [hexS, hexA]; exact exA_R))) (hH58.sub sR) (fun w hS => run_ldA (cs := scpL _) underlying25 rfl rfl rfl (rangeAt_cells (hS.blk (i := 1) rfl))) ?_
 refine AG 12 rfl rfl (bR (c := true) ((by rw [hexS, hexA]; exact exA_R))) (hH58.sub sR) (fun w hS => run_ldA (cs := asgL _) underlying29 rfl rfl rfl (rangeAt_cells (hS.blk (i := 0) rfl))) ?_
 refine A1 11 ?_
 refine AO.callF rfl (gsome rfl (bR (c := true) ((by rw [hexS, hexA]; exact exA_R)))) rfl hH58 sR (c_assign_Least (Kz (Kw w) ([Ent.blk b18 (.cells (([⟨⟨#[120]⟩, 1, 0⟩, ⟨⟨#[114]⟩, 2, 0⟩] : List VarR).flatMap varL).toArray 47 (0, 0))] ++ ([Ent.blk b13 (.cells ([(⟨⟨#[107]⟩, (⟨false, .slice (some ⟨b8, 0, none⟩) 1 1, [(⟨1, .slice (some ⟨b3, 0, none⟩) 2 2, exLH, Rl.none⟩ : Fac)]⟩ : Shp)⟩ : LatR)].flatMap latL).toArray 44 (0, 0))] ++ ([Ent.blk b8 (.cells ([(⟨1, .slice (some ⟨b3, 0, none⟩) 2 2, exLH, Rl.none⟩ : Fac)].flatMap facL).toArray 59 (0, 0))] ++ [Ent.blk b3 (.cells (txL exLH).toArray 9 (0, 0))])))) (⟨.slice (some ⟨b13, 0, none⟩) 1 1, [(⟨⟨#[107]⟩, (⟨false, .slice (some ⟨b8, 0, none⟩) 1 1, [(⟨1, .slice (some ⟨b3, 0, none⟩) 2 2, exLH, Rl.none⟩ : Fac)]⟩ : Shp)⟩ : LatR)], .slice (some ⟨b18, 0, none⟩) 2 2, [⟨⟨#[120]⟩, 1, 0⟩, ⟨⟨#[114]⟩, 2, 0⟩]⟩ : Scp) (by show 2 ≤ _; decide) _ (hH58.kz (Le.refl _) (fun x hx => (mT (mT (List.mem_append_right _ (List.mem_append_right _ (List.mem_append_right _ hx))))))) hs21 (hT.hp hH58)) (run_call1 call12 rfl) ?_
 intro v62 w63 Z65 hH64 hp66
 have hH67 : Hp _ w63 (_ :: _ :: (Z65 ++ ([Ent.blk b43 (.cells (([.slice none 0 0, v34] : List Value)).toArray 48 (0, 0))] ++ (Z37 ++ ([Ent.blk b29 (.cells (([putE el0 0 1#64, el0] : List El).flatMap elL).toArray 51 (0, 0))] ++ ([Ent.blk b18 (.cells (([⟨⟨#[120]⟩, 1, 0⟩, ⟨⟨#[114]⟩, 2, 0⟩] : List VarR).flatMap varL).toArray 47 (0, 0))] ++ ([Ent.blk b13 (.cells ([(⟨⟨#[107]⟩, (⟨false, .slice (some ⟨b8, 0, none⟩) 1 1, [(⟨1, .slice (some ⟨b3, 0, none⟩) 2 2, exLH, Rl.none⟩ : Fac)]⟩ : Shp)⟩ : LatR)].flatMap latL).toArray 44 (0, 0))] ++ ([Ent.blk b8 (.cells ([(⟨1, .slice (some ⟨b3, 0, none⟩) 2 2, exLH, Rl.none⟩ : Fac)].flatMap facL).toArray 59 (0, 0))] ++ [Ent.blk b3 (.cells (txL exLH).toArray 9 (0, 0))])))))))) := hH64.zin (L := [_, _]) (L' := ([Ent.blk b43 (.cells (([.slice none 0 0, v34] : List Value)).toArray 48 (0, 0))] ++ (Z37 ++ ([Ent.blk b29 (.cells (([putE el0 0 1#64, el0] : List El).flatMap elL).toArray 51 (0, 0))] ++ ([Ent.blk b18 (.cells (([⟨⟨#[120]⟩, 1, 0⟩, ⟨⟨#[114]⟩, 2, 0⟩] : List VarR).flatMap varL).toArray 47 (0, 0))] ++ ([Ent.blk b13 (.cells ([(⟨⟨#[107]⟩, (⟨false, .slice (some ⟨b8, 0, none⟩) 1 1, [(⟨1, .slice (some ⟨b3, 0, none⟩) 2 2, exLH, Rl.none⟩ : Fac)]⟩ : Shp)⟩ : LatR)].flatMap latL).toArray 44 (0, 0))] ++ ([Ent.blk b8 (.cells ([(⟨1, .slice (some ⟨b3, 0, none⟩) 2 2, exLH, Rl.none⟩ : Fac)].flatMap facL).toArray 59 (0, 0))] ++ [Ent.blk b3 (.cells (txL exLH).toArray 9 (0, 0))])))))))
 obtain ⟨n68, rfl, nd69, nv70⟩ := hp66
 refine A1 13 ?_
 refine AO.callP rfl (gsome rfl (bR (c := true) ((by rw [hexS, hexA]; exact exA_R)))) rfl hH67 (sP (sP (sA sR))) (c_assign_Leq _ _ _ (nv70.mono (Le.kk.trans (hH67.kz (Le.refl _) fun x hx => (List.mem_append.1 hx).elim ((fun x hx => (mT (mT (List.mem_append_left _ hx)))) x) ((fun x hx => (mT (mT (List.mem_append_right _ (List.mem_append_right _ (List.mem_append_right _ (List.mem_append_right _ hx))))))) x)))) (ha46.mono (hH67.kz (Le.refl _) (fun x hx => (mT (mT (List.mem_append_right _ hx))))))) (run_call2 call17 rfl rfl) ?_
 intro w71 hH72
 refine AT 14 rfl (hH72.sub (sP (sP (sA sR)))) (fun w hS => run_pickT (bR (c := true) ((by rw [hexS, hexA]; exact exA_R))) (v := B _) rfl) ?_
 refine AT 15 rfl (hH72.sub (sP (sP (sA sR)))) (fun w hS => mV (B _) rfl) ?_
 refine AG 16 rfl rfl (bR (c := true) ((by rw [nd69, hexS, hexA]; exact exA_L))) (hH72.sub (sP (sP (sA sR)))) (fun w hS => run_ldA (cs := asgL _) underlying29 rfl rfl rfl (rangeAt_cells (hS.blk (i := 0) rfl))) ?_
 refine AG 17 rfl rfl (bR (c := true) ((by rw [nd69, hexS, hexA]; exact exA_L))) (hH72.sub (sP (sP (sA sR)))) (fun w hS => run_ldA (cs := scpL _) underlying25 rfl rfl rfl (rangeAt_cells (hS.blk (i := 1) rfl))) ?_
 refine A1 18 ?_
 refine AO.callF rfl (gsome rfl (bR (c := true) ((by rw [nd69, hexS, hexA]; exact exA_L)))) rfl hH72 (sP (sP (sA sR))) (c_assign_Least (Kz (Kw w) ([Ent.blk b18 (.cells (([⟨⟨#[120]⟩, 1, 0⟩, ⟨⟨#[114]⟩, 2, 0⟩] : List VarR).flatMap varL).toArray 47 (0, 0))] ++ ([Ent.blk b13 (.cells ([(⟨⟨#[107]⟩, (⟨false, .slice (some ⟨b8, 0, none⟩) 1 1, [(⟨1, .slice (some ⟨b3, 0, none⟩) 2 2, exLH, Rl.none⟩ : Fac)]⟩ : Shp)⟩ : LatR)].flatMap latL).toArray 44 (0, 0))] ++ ([Ent.blk b8 (.cells ([(⟨1, .slice (some ⟨b3, 0, none⟩) 2 2, exLH, Rl.none⟩ : Fac)].flatMap facL).toArray 59 (0, 0))] ++ [Ent.blk b3 (.cells (txL exLH).toArray 9 (0, 0))])))) (⟨.slice (some ⟨b13, 0, none⟩) 1 1, [(⟨⟨#[107]⟩, (⟨false, .slice (some ⟨b8, 0, none⟩) 1 1, [(⟨1, .slice (some ⟨b3, 0, none⟩) 2 2, exLH, Rl.none⟩ : Fac)]⟩ : Shp)⟩ : LatR)], .slice (some ⟨b18, 0, none⟩) 2 2, [⟨⟨#[120]⟩, 1, 0⟩, ⟨⟨#[114]⟩, 2, 0⟩]⟩ : Scp) (by show 2 ≤ _; decide) _ (hH72.kz (Le.refl _) (fun x hx => (mT (mT (List.mem_append_right _ (List.mem_append_right _ (List.mem_append_right _ (List.mem_append_right _ hx)))))))) hs21 (hT.hp hH72)) (run_call1 call12 rfl) ?_
 intro v76 w77 Z79 hH78 hp80
 have hH81 : Hp _ w77 (_ :: _ :: (Z79 ++ (Z65 ++ ([Ent.blk b43 (.cells (([.slice none 0 0, v34] : List Value)).toArray 48 (0, 0))] ++ (Z37 ++ ([Ent.blk b29 (.cells (([putE el0 0 1#64, el0] : List El).flatMap elL).toArray 51 (0, 0))] ++ ([Ent.blk b18 (.cells (([⟨⟨#[120]⟩, 1, 0⟩, ⟨⟨#[114]⟩, 2, 0⟩] : List VarR).flatMap varL).toArray 47 (0, 0))] ++ ([Ent.blk b13 (.cells ([(⟨⟨#[107]⟩, (⟨false, .slice (some ⟨b8, 0, none⟩) 1 1, [(⟨1, .slice (some ⟨b3, 0, none⟩) 2 2, exLH, Rl.none⟩ : Fac)]⟩ : Shp)⟩ : LatR)].flatMap latL).toArray 44 (0, 0))] ++ ([Ent.blk b8 (.cells ([(⟨1, .slice (some ⟨b3, 0, none⟩) 2 2, exLH, Rl.none⟩ : Fac)].flatMap facL).toArray 59 (0, 0))] ++ [Ent.blk b3 (.cells (txL exLH).toArray 9 (0, 0))]))))))))) := hH78.zin (L := [_, _]) (L' := (Z65 ++ ([Ent.blk b43 (.cells (([.slice none 0 0, v34] : List Value)).toArray 48 (0, 0))] ++ (Z37 ++ ([Ent.blk b29 (.cells (([putE el0 0 1#64, el0] : List El).flatMap elL).toArray 51 (0, 0))] ++ ([Ent.blk b18 (.cells (([⟨⟨#[120]⟩, 1, 0⟩, ⟨⟨#[114]⟩, 2, 0⟩] : List VarR).flatMap varL).toArray 47 (0, 0))] ++ ([Ent.blk b13 (.cells ([(⟨⟨#[107]⟩, (⟨false, .slice (some ⟨b8, 0, none⟩) 1 1, [(⟨1, .slice (some ⟨b3, 0, none⟩) 2 2, exLH, Rl.none⟩ : Fac)]⟩ : Shp)⟩ : LatR)].flatMap latL).toArray 44 (0, 0))] ++ ([Ent.blk b8 (.cells ([(⟨1, .slice (some ⟨b3, 0, none⟩) 2 2, exLH, Rl.none⟩ : Fac)].flatMap facL).toArray 59 (0, 0))] ++ [Ent.blk b3 (.cells (txL exLH).toArray 9 (0, 0))]))))))))
 obtain ⟨n82, rfl, nd83, nv84⟩ := hp80
 refine A1 19 ?_
 refine AO.callP rfl (gsome rfl (bR (c := true) ((by rw [nd69, hexS, hexA]; exact exA_L)))) rfl hH81 (sP (sP (sA (sA sR)))) (c_assign_Leq _ _ _ (ha46.mono (hH81.kz (Le.refl _) (fun x hx => (mT (mT (List.mem_append_right _ (List.mem_append_right _ hx))))))) (nv84.mono (Le.kk.trans (hH81.kz (Le.refl _) fun x hx => (List.mem_append.1 hx).elim ((fun x hx => (mT (mT (List.mem_append_left _ hx)))) x) ((fun x hx => (mT (mT (List.mem_append_right _ (List.mem_append_right _ (List.mem_append_right _ (List.mem_append_right _ (List.mem_append_right _ hx)))))))) x))))) (run_call2 call17 rfl rfl) ?_
 intro w85 hH86
 refine AG 20 rfl rfl (bR (c := true) ((by rw [nd69, hexS, hexA]; exact exA_L))) (hH86.sub (sP (sP (sA (sA sR))))) (fun w hS => run_not (bR (c := false) ((by rw [nd83, hexS, hexA]; exact exA_N)))) ?_
 refine AT 21 rfl (hH86.sub (sP (sP (sA (sA sR))))) (fun w hS => run_pickT (bR (c := true) ((by rw [nd69, hexS, hexA]; exact exA_L))) (v := B _) rfl) ?_
 refine AT 22 rfl (hH86.sub (sP (sP (sA (sA sR))))) (fun w hS => aV (B _) rfl) ?_
 refine AD ?_
 refine CW.ret ?_
 refine outP1 Tryz.results8 (congrArg B ?_) hH86.below
 rfl

set_option maxHeartbeats 4000000 in
theorem c_clearancelaw18_AssignOrder (a b : Asg) (hza : ∀ r ∈ a.rows, r.l.length ≤ 1759218604390) (hzb : ∀ r ∈ b.rows, r.l.length ≤ 1759218604390) (w : World) (ha : AsgV (Kw w) a) (hb : AsgV (Kw w) b) (hT : Tab w) : Calls Tryz.prog 4 #[.agg (asgL a).toArray, .agg (asgL b).toArray] w (Pure (B true) w) := by
 refine enter Tryz.func4 rfl Tryz.ntmps4 rfl ?_
 have hH := Hp.start w
 refine SR ?_
 refine RL.new rfl hH (f := fun b => (.pointer (some ⟨b, 0, none⟩))) (run_box (v := .agg _) rfl) ?_
 intro b3 w1 hH2
 refine RL.new rfl hH2 (f := fun b => (.pointer (some ⟨b, 0, none⟩))) (run_box (v := .agg _) rfl) ?_
 intro b6 w4 hH5
 refine V (aV (B false) rfl) ?_
 refine RL.nil ?_
 refine CW.seq ?_
 refine SR ?_
 refine V (run_ldA (cs := asgL _) underlying29 rfl rfl rfl (rangeAt_cells (hH5.blk (i := 1) rfl))) ?_
 refine RL.callP rfl hH5 (c_clearancelaw18_Big a hza _ (ha.mono hH5.kw)) (run_call1 call7 rfl) ?_
 intro w7 hH8
 refine V (mV (B _) rfl) ?_
 refine RL.split (dj := 7) rfl (fun h10 => ?_) (fun h10 => ?_)
 ·refine RL.gF rfl rfl (bR (c := true) h10) rfl ?_
  refine RL.gF rfl rfl (bR (c := true) h10) rfl ?_
  refine V (run_pickT (bR (c := true) h10) (v := B true) rfl) ?_
  refine RL.nil ?_
  refine CW.condT rfl ?_
  refine SR ?_
  refine RL.callP rfl hH8 (c_clearancelaw18_alive   _ (hT.hp hH8)) (run_call0 call8) ?_
  intro w11 hH12
  refine V (aV (B _) rfl) ?_
  refine RL.nil ?_
  refine CW.ret ?_
  refine outP1 Tryz.results4 (congrArg B ?_) hH12.below
  rfl
 ·refine RL.gT rfl (bR (c := false) h10) ?_
  refine V (run_ldA (cs := asgL _) underlying29 rfl rfl rfl (rangeAt_cells (hH8.blk (i := 0) rfl))) ?_
  refine RL.gT rfl (bR (c := false) h10) ?_
  refine RL.callP rfl hH8 (c_clearancelaw18_Big b hzb _ (hb.mono hH8.kw)) (run_call1 call7 rfl) ?_
  intro w14 hH15
  refine V (run_pickF (bR (c := false) h10) (v := B _) rfl) ?_
  refine RL.nil ?_
  refine CW.cond rfl (fun h17 => ?_) (fun h17 => ?_)
  ·refine SR ?_
   refine RL.callP rfl hH15 (c_clearancelaw18_alive   _ (hT.hp hH15)) (run_call0 call8) ?_
   intro w18 hH19
   refine V (aV (B _) rfl) ?_
   refine RL.nil ?_
   refine CW.ret ?_
   refine outP1 Tryz.results4 (congrArg B ?_) hH19.below
   rfl
  ·refine CW.skip ?_
   refine CW.seq ?_
   have hqa := bigA_no ‹bigA a = false›
   have hqb := bigA_no ‹bigA b = false›
   refine CW.regionD (by kernel_rfl) hH15 ?_
   intro w21 hH22
   refine AT 0 rfl (hH22.sub sR) (fun w hS => run_ldA (cs := asgL _) underlying29 rfl rfl rfl (rangeAt_cells (hS.blk (i := 1) rfl))) ?_
   refine AT 1 rfl (hH22.sub sR) (fun w hS => run_ldA (cs := asgL _) underlying29 rfl rfl rfl (rangeAt_cells (hS.blk (i := 0) rfl))) ?_
   refine AT 3 rfl (hH22.sub sR) (fun w hS => run_ldA (cs := asgL _) underlying29 rfl rfl rfl (rangeAt_cells (hS.blk (i := 1) rfl))) ?_
   refine AT 4 rfl (hH22.sub sR) (fun w hS => run_ldA (cs := asgL _) underlying29 rfl rfl rfl (rangeAt_cells (hS.blk (i := 0) rfl))) ?_
   refine A1 2 ?_
   refine AO.callP rfl gnone rfl hH22 sR (c_assign_Same _ _  _ (ha.mono hH22.kw) (hb.mono hH22.kw)) (run_call2 call16 rfl rfl) ?_
   intro w23 hH24
   refine A1 5 ?_
   refine AO.callP rfl gnone rfl hH24 sR (c_clearanceref18_Same _ _  _ (ha.mono hH24.kw) (hb.mono hH24.kw)) (run_call2 call11 rfl rfl) ?_
   intro w26 hH27
   refine AT 6 rfl (hH27.sub sR) (fun w hS => run_eqlB underlying4 rfl rfl) ?_
   refine AT 7 rfl (hH27.sub sR) (fun w hS => mV (B _) rfl) ?_
   refine AG 8 rfl rfl (bR (c := true) ((beq_self_eq_true _))) (hH27.sub sR) (fun w hS => run_ldA (cs := asgL _) underlying29 rfl rfl rfl (rangeAt_cells (hS.blk (i := 1) rfl))) ?_
   refine AG 9 rfl rfl (bR (c := true) ((beq_self_eq_true _))) (hH27.sub sR) (fun w hS => run_ldA (cs := asgL _) underlying29 rfl rfl rfl (rangeAt_cells (hS.blk (i := 0) rfl))) ?_
   refine AG 11 rfl rfl (bR (c := true) ((beq_self_eq_true _))) (hH27.sub sR) (fun w hS => run_ldA (cs := asgL _) underlying29 rfl rfl rfl (rangeAt_cells (hS.blk (i := 1) rfl))) ?_
   refine AG 12 rfl rfl (bR (c := true) ((beq_self_eq_true _))) (hH27.sub sR) (fun w hS => run_ldA (cs := asgL _) underlying29 rfl rfl rfl (rangeAt_cells (hS.blk (i := 0) rfl))) ?_
   refine A1 10 ?_
   refine AO.callP rfl (gsome rfl (bR (c := true) ((beq_self_eq_true _)))) rfl hH27 sR (c_assign_Leq _ _  _ (ha.mono hH27.kw) (hb.mono hH27.kw)) (run_call2 call17 rfl rfl) ?_
   intro w30 hH31
   refine A1 13 ?_
   refine AO.callP rfl (gsome rfl (bR (c := true) ((beq_self_eq_true _)))) rfl hH31 sR (c_clearanceref18_Leq _ _  _ (ha.mono hH31.kw) (hb.mono hH31.kw)) (run_call2 call18 rfl rfl) ?_
   intro w33 hH34
   refine AG 14 rfl rfl (bR (c := true) ((beq_self_eq_true _))) (hH34.sub sR) (fun w hS => run_eqlB underlying4 rfl rfl) ?_
   refine AT 15 rfl (hH34.sub sR) (fun w hS => run_pickT (bR (c := true) ((beq_self_eq_true _))) (v := B _) rfl) ?_
   refine AT 16 rfl (hH34.sub sR) (fun w hS => mV (B _) rfl) ?_
   refine AG 17 rfl rfl (bR (c := true) ((beq_self_eq_true _))) (hH34.sub sR) (fun w hS => run_ldA (cs := asgL _) underlying29 rfl rfl rfl (rangeAt_cells (hS.blk (i := 1) rfl))) ?_
   refine AG 18 rfl rfl (bR (c := true) ((beq_self_eq_true _))) (hH34.sub sR) (fun w hS => run_ldA (cs := asgL _) underlying29 rfl rfl rfl (rangeAt_cells (hS.blk (i := 0) rfl))) ?_
   refine AG 20 rfl rfl (bR (c := true) ((beq_self_eq_true _))) (hH34.sub sR) (fun w hS => run_ldA (cs := asgL _) underlying29 rfl rfl rfl (rangeAt_cells (hS.blk (i := 1) rfl))) ?_
   refine AG 21 rfl rfl (bR (c := true) ((beq_self_eq_true _))) (hH34.sub sR) (fun w hS => run_ldA (cs := asgL _) underlying29 rfl rfl rfl (rangeAt_cells (hS.blk (i := 0) rfl))) ?_
   refine A1 19 ?_
   refine AO.callF rfl (gsome rfl (bR (c := true) ((beq_self_eq_true _)))) rfl hH34 sR (c_assign_Meet (Kw w) a b (fun r hr => by have := (hqa.2.2 r hr).1; omega) (by have := hqa.1; omega) (by have := hqa.2.1; omega) _ hH34.kw ha hb) (run_call2 call19 rfl rfl) ?_
   intro v39 w40 Z42 hH41 hp43
   have hH44 : Hp _ w40 (_ :: _ :: Z42) := hH41.zin0 (L := [_, _])
   obtain ⟨n45, rfl, nd46, nv47⟩ := hp43
   refine A1 22 ?_
   refine AO.callF rfl (gsome rfl (bR (c := true) ((beq_self_eq_true _)))) rfl hH44 (sP (sP (List.nil_sublist _))) (c_clearanceref18_Meet (Kw w) a b (fun r hr => by have := (hqa.2.2 r hr).1; omega) (by have := hqa.1; omega) (by have := hqa.2.1; omega) _ hH44.kw ha hb) (run_call2 call20 rfl rfl) ?_
   intro v50 w51 Z53 hH52 hp54
   have hH55 : Hp _ w51 (_ :: _ :: (Z53 ++ Z42)) := hH52.zin (L := [_, _]) (L' := Z42)
   obtain ⟨n56, rfl, nd57, nv58⟩ := hp54
   refine A1 23 ?_
   refine AO.callP rfl (gsome rfl (bR (c := true) ((beq_self_eq_true _)))) rfl hH55 (sP (sP (List.nil_sublist _))) (c_clearanceref18_Same _ _  _ (nv47.mono (hH55.kz (Le.refl _) (fun x hx => (mT (mT (List.mem_append_right _ hx)))))) (nv58.mono (hH55.kz (Le.refl _) (fun x hx => (mT (mT (List.mem_append_left _ hx))))))) (run_call2 call11 rfl rfl) ?_
   intro w59 hH60
   refine AT 24 rfl (hH60.sub (sP (sP (List.nil_sublist _)))) (fun w hS => run_pickT (bR (c := true) ((beq_self_eq_true _))) (v := B _) rfl) ?_
   refine AT 25 rfl (hH60.sub (sP (sP (List.nil_sublist _)))) (fun w hS => mV (B _) rfl) ?_
   refine AG 26 rfl rfl (bR (c := true) ((by rw [nd46, nd57]; exact sameA_refl _))) (hH60.sub (sP (sP (List.nil_sublist _)))) (fun w hS => run_ldA (cs := asgL _) underlying29 rfl rfl rfl (rangeAt_cells (hS.blk (i := 1) rfl))) ?_
   refine AG 27 rfl rfl (bR (c := true) ((by rw [nd46, nd57]; exact sameA_refl _))) (hH60.sub (sP (sP (List.nil_sublist _)))) (fun w hS => run_ldA (cs := asgL _) underlying29 rfl rfl rfl (rangeAt_cells (hS.blk (i := 1) rfl))) ?_
   refine A1 28 ?_
   refine AO.callP rfl (gsome rfl (bR (c := true) ((by rw [nd46, nd57]; exact sameA_refl _)))) rfl hH60 (sP (sP (List.nil_sublist _))) (c_assign_Same _ _  _ (ha.mono hH60.kw) (ha.mono hH60.kw)) (run_call2 call16 rfl rfl) ?_
   intro w62 hH63
   refine AT 29 rfl (hH63.sub (sP (sP (List.nil_sublist _)))) (fun w hS => run_pickT (bR (c := true) ((by rw [nd46, nd57]; exact sameA_refl _))) (v := B _) rfl) ?_
   refine AT 30 rfl (hH63.sub (sP (sP (List.nil_sublist _)))) (fun w hS => mV (B _) rfl) ?_
   refine A1 31 ?_
   refine AO.callP rfl (gsome rfl (bR (c := true) ((sameA_refl _)))) rfl hH63 (sP (sP (List.nil_sublist _))) (c_clearancelaw18_alive   _ (hT.hp hH63)) (run_call0 call8) ?_
   intro w65 hH66
   refine AT 32 rfl (hH66.sub (sP (sP (List.nil_sublist _)))) (fun w hS => run_pickT (bR (c := true) ((sameA_refl _))) (v := B _) rfl) ?_
   refine AT 33 rfl (hH66.sub (sP (sP (List.nil_sublist _)))) (fun w hS => aV (B _) rfl) ?_
   refine AD ?_
   refine CW.ret ?_
   refine outP1 Tryz.results4 (congrArg B ?_) hH66.below
   rfl

end Go.Proofs.YtieckcbckgalhaaGreatDoor.W
